/- Data that is read is of the program's types. -/
import Derived.Test.YtfkeggikdeenbaaL41
import Derived.Test.YtfkeggikdeenbaaT1
set_option linter.unusedVariables false
namespace Go.Gl
variable {P : Program}

theorem len2 {x : List D} (h : x.length = 2) : ∃ a b, x = [a, b] := by
  match x, h with
  | [a, b], _ => exact ⟨a, b, rfl⟩
theorem len6 {x : List D} (h : x.length = 6) : ∃ a b c d e f, x = [a, b, c, d, e, f] := by
  match x, h with
  | [a, b, c, d, e, f], _ => exact ⟨a, b, c, d, e, f, rfl⟩

theorem Ty.of_sl {T : Nat} (hk : lay2 P 8 T = some [.int .i64, .sl T 2 32]) {k : CK} {d : D} (h : TD P k d) : k = .sl T 2 32 → ∃ l : List Ty, d = .sl 32 (l.map Ty.row) := by
  induction h with
  | int _ => intro e; cases e
  | bool => intro e; cases e
  | str _ => intro e; cases e
  | sl hk' hl h ih =>
    intro e
    injection e with e1 e2 e3
    subst e1 e2 e3
    rw [hk] at hk'
    obtain rfl := Option.some.inj hk'
    obtain ⟨l, rfl⟩ := map_of (f := Ty.row) fun x hx => by
      obtain ⟨a, b, rfl⟩ := len2 (hl x hx)
      obtain ⟨n, rfl, _⟩ := td_int (h _ hx 0 _ _ rfl rfl)
      obtain ⟨l, rfl⟩ := ih _ hx 1 _ _ rfl rfl rfl
      exact ⟨.mk n l, by rw [Ty.row_eq]; rfl⟩
    exact ⟨l, rfl⟩

theorem Ex.of_row {Te Tt : Nat} (hk : lay2 P 8 Te = some [.int .i64, .str, .int .i64, .int .i64, .sl Tt 2 32, .sl Te 6 88]) (hk2 : lay2 P 8 Tt = some [.int .i64, .sl Tt 2 32]) {x : List D} (hl : x.length = 6)
    (h : ∀ (j : Nat) (k : CK) (d : D), ([.int .i64, .str, .int .i64, .int .i64, .sl Tt 2 32, .sl Te 6 88] : List CK)[j]? = some k → x[j]? = some d → TD P k d) (ih : ∀ d, x[5]? = some d → ∃ l : List Ex, d = .sl 88 (l.map Ex.row)) : ∃ e : Ex, x = e.row := by
  obtain ⟨a, b, c, d, e, f, rfl⟩ := len6 hl
  obtain ⟨n, rfl, _⟩ := td_int (h 0 _ _ rfl rfl)
  obtain ⟨s, rfl⟩ := td_str (h 1 _ _ rfl rfl)
  obtain ⟨n', rfl, _⟩ := td_int (h 2 _ _ rfl rfl)
  obtain ⟨n'', rfl, _⟩ := td_int (h 3 _ _ rfl rfl)
  obtain ⟨l, rfl⟩ := Ty.of_sl hk2 (h 4 _ _ rfl rfl) rfl
  obtain ⟨l', rfl⟩ := ih _ rfl
  exact ⟨.mk n s n' (.mk n'' l) l', by rw [Ex.row_eq]; rfl⟩

theorem Ex.of_sl {Te Tt : Nat} (hk : lay2 P 8 Te = some [.int .i64, .str, .int .i64, .int .i64, .sl Tt 2 32, .sl Te 6 88]) (hk2 : lay2 P 8 Tt = some [.int .i64, .sl Tt 2 32]) {k : CK} {d : D} (h : TD P k d) : k = .sl Te 6 88 → ∃ l : List Ex, d = .sl 88 (l.map Ex.row) := by
  induction h with
  | int _ => intro e; cases e
  | bool => intro e; cases e
  | str _ => intro e; cases e
  | sl hk' hl h ih =>
    intro e
    injection e with e1 e2 e3
    subst e1 e2 e3
    rw [hk] at hk'
    obtain rfl := Option.some.inj hk'
    obtain ⟨l, rfl⟩ := map_of (f := Ex.row) fun x hx => Ex.of_row hk hk2 (hl x hx) (h x hx) fun d hd => ih x hx 5 _ d rfl hd rfl
    exact ⟨l, rfl⟩

/-- A row of these kinds is an expression. -/
theorem Ex.of {Te Tt : Nat} (hk : lay2 P 8 Te = some [.int .i64, .str, .int .i64, .int .i64, .sl Tt 2 32, .sl Te 6 88]) (hk2 : lay2 P 8 Tt = some [.int .i64, .sl Tt 2 32]) {x : List D} (hl : x.length = 6)
    (h : ∀ (j : Nat) (k : CK) (d : D), ([.int .i64, .str, .int .i64, .int .i64, .sl Tt 2 32, .sl Te 6 88] : List CK)[j]? = some k → x[j]? = some d → TD P k d) : ∃ e : Ex, x = e.row :=
  Ex.of_row hk hk2 hl h fun d hd => Ex.of_sl hk hk2 (h 5 _ d rfl hd) rfl

end Go.Gl
