/- Data that is read is of the program's types: numbers, conflicts, changes. -/
import Derived.Test.YtfkeggikdeenbaaT2
set_option linter.unusedVariables false
namespace Go.Gl
variable {P : Program}

theorem len1 {x : List D} (h : x.length = 1) : ∃ a, x = [a] := by
  match x, h with
  | [a], _ => exact ⟨a, rfl⟩
theorem len7 {x : List D} (h : x.length = 7) : ∃ a b c d e f g, x = [a, b, c, d, e, f, g] := by
  match x, h with
  | [a, b, c, d, e, f, g], _ => exact ⟨a, b, c, d, e, f, g, rfl⟩
theorem I.of_sl {T : Nat} (hk : lay2 P 8 T = some [.int .i64]) {d : D} (h : TD P (.sl T 1 8) d) : ∃ l : List Int, d = .sl 8 (l.map I.row) :=
  td_sl h hk fun x hl hx => by
    obtain ⟨a, rfl⟩ := len1 hl
    obtain ⟨n, rfl, _⟩ := td_int (hx 0 _ _ rfl rfl)
    exact ⟨n, rfl⟩
theorem Cf.of_sl {T Ti : Nat} (hk : lay2 P 8 T = some [.sl Ti 1 8, .sl Ti 1 8]) (hi : lay2 P 8 Ti = some [.int .i64]) {d : D} (h : TD P (.sl T 2 48) d) : ∃ l : List Cf, d = .sl 48 (l.map Cf.row) :=
  td_sl h hk fun x hl hx => by
    obtain ⟨a, b, rfl⟩ := len2 hl
    obtain ⟨o, rfl⟩ := I.of_sl hi (hx 0 _ _ rfl rfl)
    obtain ⟨t, rfl⟩ := I.of_sl hi (hx 1 _ _ rfl rfl)
    exact ⟨⟨o, t⟩, rfl⟩
theorem Ch.of_sl {T Ti Te Tt : Nat} (hk : lay2 P 8 T = some [.sl Ti 1 8, .int .i64, .str, .int .i64, .int .i64, .sl Tt 2 32, .sl Te 6 88]) (hi : lay2 P 8 Ti = some [.int .i64])
    (hk1 : lay2 P 8 Te = some [.int .i64, .str, .int .i64, .int .i64, .sl Tt 2 32, .sl Te 6 88]) (hk2 : lay2 P 8 Tt = some [.int .i64, .sl Tt 2 32]) {d : D} (h : TD P (.sl T 7 112) d) : ∃ l : List Ch, d = .sl 112 (l.map Ch.row) :=
  td_sl h hk fun x hl hx => by
    obtain ⟨p, a, b, c, d, e, f, rfl⟩ := len7 hl
    obtain ⟨o, rfl⟩ := I.of_sl hi (hx 0 _ _ rfl rfl)
    obtain ⟨n, rfl, _⟩ := td_int (hx 1 _ _ rfl rfl)
    obtain ⟨s, rfl⟩ := td_str (hx 2 _ _ rfl rfl)
    obtain ⟨n', rfl, _⟩ := td_int (hx 3 _ _ rfl rfl)
    obtain ⟨n'', rfl, _⟩ := td_int (hx 4 _ _ rfl rfl)
    obtain ⟨l, rfl⟩ := Ty.of_sl hk2 (hx 5 _ _ rfl rfl) rfl
    obtain ⟨l', rfl⟩ := Ex.of_sl hk1 hk2 (hx 6 _ _ rfl rfl) rfl
    exact ⟨⟨o, .mk n s n' (.mk n'' l) l'⟩, by rw [Ch.row_eq]; rfl⟩
end Go.Gl
