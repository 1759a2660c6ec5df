/- Each operation of the model does what the logic's machine says: indexes, slices, lengths. -/
import Derived.Test.YtfkeggikdeenbaaL9
import Derived.Deep.AppendSrc
import Derived.Laws.Slices
set_option linter.unusedVariables false
set_option linter.unusedSimpArgs false
namespace Go.Gl
open Go.RowKit

section
variable {P : Program} {en : En} {st : St} {Fr : Nat → Prop} {a : Act} {w w' w0 : World} {W X : CS} {K0 : Kb} {o : Oper} {f : Nat}

theorem SlotRep.sl_inv {tok : Nat → Option Tok} {B : Nat} {xs : List (List D)} {v : Value} (h : SlotRep w en tok (.v false [.c (.sl B xs)]) v) : RepD w en.K (.sl B xs) v := by
  cases h with | v h => cases h with | one h => cases h with | c h => exact h

theorem SlotRep.tk_inv {tok : Nat → Option Tok} {t : Nat} {v : Value} (h : SlotRep w en tok (.v false [.tk t]) v) : v = en.VT t := by
  cases h with | v h => cases h with | one h => cases h with | tk h => rfl

theorem SlotRep.nil_inv {tok : Nat → Option Tok} {v : Value} (h : SlotRep w en tok (.v false [.nil]) v) : v = .slice none 0 0 := by
  cases h with | v h => cases h with | one h => cases h with | nil => rfl

theorem RepD.sl_len {K : CS} {B : Nat} {xs : List (List D)} {v : Value} (h : RepD w K (.sl B xs) v) : xs.length ≤ maxLen ∧ ∃ A cap, v = .slice A xs.length cap := by
  cases h with
  | nil => exact ⟨Nat.zero_le _, _, _, rfl⟩
  | sl e f hs hb hm => exact ⟨hm, _, _, rfl⟩

theorem TokRep.len {K : CS} {t : Tok} {v : Value} {F : CS} (h : TokRep w K t v F) : t.xs.length ≤ maxLen ∧ ∃ A cap, v = .slice A t.xs.length cap := by
  cases h with
  | nil => exact ⟨Nat.zero_le _, _, _, rfl⟩
  | one f hh hz hn hcm => exact ⟨Nat.le_trans hn hcm, _, _, rfl⟩
  | two f hh hz hn hcm => exact ⟨Nat.le_trans hn hcm, _, _, rfl⟩
  | three f G hh hz hn hcm => exact ⟨Nat.le_trans hn hcm, _, _, rfl⟩

theorem RepD.addr {K : CS} {B : Nat} {xs : List (List D)} {v : Value} (h : RepD w K (.sl B xs) v) (hp : 0 < xs.length) : ∃ ad cap, v = .slice (some ad) xs.length cap ∧ ad.spot = none := by
  cases h with
  | nil => simp at hp
  | sl e f hs => exact ⟨_, _, rfl, hs⟩

theorem TokRep.addr {K : CS} {t : Tok} {v : Value} {F : CS} (h : TokRep w K t v F) (hp : 0 < t.xs.length) : ∃ g cap, v = .slice (some ⟨g, 0, none⟩) t.xs.length cap := by
  cases h with
  | nil => simp at hp
  | _ => exact ⟨_, _, rfl⟩

theorem cellsOf_info {E : TypeId} (h : P.cellsOf E ≠ 0) : ∃ i, P.info? E = some i ∧ i.size = P.cellsOf E := by
  unfold Program.cellsOf at h ⊢
  cases hi : P.info? E with
  | none => rw [hi] at h; exact absurd rfl h
  | some i => exact ⟨i, rfl, rfl⟩

theorem sound_index_const (r : RelE en st Fr a w w0 W K0) (hd : ∀ d, o.dst = some d → d < st.n) {T E : TypeId} {x i : Operand} (ho : o.op = .indexAddr T x i) (hT : P.underlying T = some (.slice E)) (hE : P.cellsOf E ≠ 0)
    {B : Nat} {xs : List (List D)} {n : Int} (hx : st.ev x = .v false [.c (.sl B xs)]) (hi : st.ev i = .v false [.c (.int .i64 n)]) (h0 : 0 ≤ n) (h1 : n < xs.length) (h2 : (xs.getD n.toNat []).length = P.cellsOf E) :
    Goes P o a w (After en Fr (st.apps (ret o (.cp xs n.toNat 0))) (fun k => Fr k ∧ k ≠ f) w0 W K0) := by
  have hxr := r.ev x
  have hir := r.ev i
  rw [hx] at hxr
  rw [hi] at hir
  obtain ⟨e2, _⟩ := hir.int_inv
  have hrep := hxr.sl_inv
  have hlt : n.toNat < xs.length := by omega
  obtain ⟨ad, cap, e1, hs⟩ := hrep.addr (by omega)
  obtain ⟨inf, hinf, hsz⟩ := cellsOf_info hE
  rw [e1] at hrep
  have hg : xs[n.toNat]? = some xs[n.toNat] := List.getElem?_eq_getElem hlt
  have hg2 : xs.getD n.toNat [] = xs[n.toNat] := by simp [List.getD, hlt]
  rw [hg2] at h2
  refine goes_value r hd (v := .pointer (some ⟨ad.block, ad.off + n.toNat * inf.size, none⟩)) ?_ ?_ fun _ _ h => h
  · simp only [execOp, ho, e1, e2, Sem.run_bind, run_indexAt' hT hinf hs h0 h1, Result.andThen_ok]; rfl
  · rw [hsz, ← h2]
    exact .cp (off := 0) hrep hg hs

theorem sound_index_tok (r : RelE en st Fr a w w0 W K0) (hd : ∀ d, o.dst = some d → d < st.n) {T E : TypeId} {x i : Operand} (ho : o.op = .indexAddr T x i) (hT : P.underlying T = some (.slice E)) (hE : P.cellsOf E ≠ 0)
    {t : Nat} {tk : Tok} {n : Int} (hx : st.ev x = .v false [.tk t]) (ht : st.tok t = some tk) (he : tk.e = P.cellsOf E) (hi : st.ev i = .v false [.c (.int .i64 n)]) (h0 : 0 ≤ n) (h1 : n < tk.xs.length) :
    Goes P o a w (After en Fr (st.apps (ret o (.ep t n.toNat 0))) (fun k => Fr k ∧ k ≠ f) w0 W K0) := by
  have hxr := r.ev x
  have hxf := r.ev_free x
  have hir := r.ev i
  rw [hx] at hxr hxf
  rw [hi] at hir
  obtain ⟨e2, _⟩ := hir.int_inv
  obtain ⟨g, cap, e3⟩ := (r.toks t tk ht).addr (by omega)
  have e1 : a.eval x = .slice (some ⟨g, 0, none⟩) tk.xs.length cap := hxr.tk_inv.trans e3
  obtain ⟨inf, hinf, hsz⟩ := cellsOf_info hE
  refine goes_value r hd (v := .pointer (some ⟨g, 0 + n.toNat * inf.size, none⟩)) ?_ ?_ ?_
  · simp only [execOp, ho, e1, e2, Sem.run_bind, run_indexAt' hT hinf (ad := ⟨g, 0, none⟩) rfl h0 h1, Result.andThen_ok]; rfl
  · refine .ep fun tk' htk' => ?_
    rw [ht] at htk'
    obtain rfl := Option.some.inj htk'
    exact ⟨by omega, g, _, cap, e3, by rw [hsz, he, Nat.zero_add, Nat.add_zero]⟩
  · intro k hk e
    exact hxf k hk ⟨.tk t, by simp, e⟩

theorem sound_index_str (r : RelE en st Fr a w w0 W K0) (hd : ∀ d, o.dst = some d → d < st.n) {T : TypeId} {x i : Operand} (ho : o.op = .index T x i) (hT : P.underlying T = some .string)
    {s : List UInt8} {n : Int} (hx : st.ev x = .v false [.c (.str s)]) (hi : st.ev i = .v false [.c (.int .i64 n)]) (h0 : 0 ≤ n) (h1 : n < s.length) :
    Goes P o a w (After en Fr (st.apps (ret o (ival .u8 (s.getD n.toNat 0).toNat))) (fun k => Fr k ∧ k ≠ f) w0 W K0) := by
  have hxr := r.ev x
  have hir := r.ev i
  rw [hx] at hxr
  rw [hi] at hir
  obtain ⟨e2, _⟩ := hir.int_inv
  obtain ⟨e1, _⟩ := hxr.str_inv
  have hlt : n.toNat < s.length := by omega
  refine goes_value r hd (v := .int .u8 (s.getD n.toNat 0).toNat) ?_ (.int ?_) fun _ _ => men_ival
  · have hb : (ByteArray.mk s.toArray)[n.toNat]? = some s[n.toNat] := by
      have hz : n.toNat < (ByteArray.mk s.toArray).size := by simpa [ByteArray.size] using hlt
      exact (getElem?_pos (ByteArray.mk s.toArray) n.toNat hz).trans rfl
    have hg : s.getD n.toNat 0 = s[n.toNat] := by simp [List.getD, hlt]
    simp only [execOp, ho, e1, e2, Instr.index, asIntOf, Sem.run_bind, run_underlying hT, Result.andThen_ok, pure_bind, h0, if_true, hb, hg]
    rfl
  · have := (s.getD n.toNat 0).toNat_lt
    simp only [Lit.wf, Bool.and_eq_true, decide_eq_true_eq]
    have h1 : IntKind.u8.min = 0 := rfl
    have h2 : IntKind.u8.max = 255 := rfl
    omega

theorem sound_extract (r : RelE en st Fr a w w0 W K0) (hd : ∀ d, o.dst = some d → d < st.n) {x : Operand} {n : Nat} (ho : o.op = .extract x n) {s : Slot} (h : extractSlot (st.ev x) n = some s) :
    Goes P o a w (After en Fr (st.apps (ret o s)) (fun k => Fr k ∧ k ≠ f) w0 W K0) := by
  have hxr := r.ev x
  have hxf := r.ev_free x
  unfold extractSlot at h
  split at h
  · rename_i xs hx
    rw [hx] at hxr hxf
    rw [Option.map_eq_some_iff] at h
    obtain ⟨y, hy, rfl⟩ := h
    generalize he : a.eval x = v at hxr
    cases hxr with
    | tup hz hh =>
      obtain ⟨u, hu, hr⟩ := hh n y hy
      refine goes_value r hd (v := u) ?_ (.v hr) fun k hk hm => hxf k hk ⟨y, List.mem_of_getElem? hy, hm⟩
      simp only [execOp, ho, he, Instr.extract, hu, pure_bind]
      rfl
  · cases h

theorem run_len {T : TypeId} {v : Value} {n : Nat} (h : (P.underlying T = some .string ∧ ∃ s, v = .string s ∧ s.size = n) ∨ (∃ E A cap, P.underlying T = some (.slice E) ∧ v = .slice A n cap)) {ty : TypeId} {r1 : List TypeId} {ts : Array TypeId} (hts : ts.toList = T :: r1) :
    (Builtin.len_ ts ty #[v]).run P w = .ok (goInt n) w := by
  have e0 : ts[0]? = some T := by rw [← Array.getElem?_toList, hts]; rfl
  have e1 : (#[v] : Array Value)[0]? = some v := rfl
  unfold Builtin.len_
  simp only [e0, e1]
  rcases h with ⟨hT, s, rfl, rfl⟩ | ⟨E, A, cap, hT, rfl⟩ <;> (rw [Sem.run_bind, run_underlying hT]; rfl)

theorem sound_len (r : RelE en st Fr a w w0 W K0) (hd : ∀ d, o.dst = some d → d < st.n) {c : Call} {x : Operand} {T : TypeId} {r1 : List TypeId} (ho : o.op = .call c) (hc : c.callee = .builtin .len) (ha : c.args.toList = [x]) (hts : c.argTypes.toList = T :: r1) {n : Nat}
    (h : lenOfSlot P T st.tok (st.ev x) = some n) : Goes P o a w (After en Fr (st.apps (ret o (ival .i64 n))) (fun k => Fr k ∧ k ≠ f) w0 W K0) := by
  have hxr := r.ev x
  have key : n ≤ maxLen ∧ ((P.underlying T = some .string ∧ ∃ s, a.eval x = .string s ∧ s.size = n) ∨ (∃ E A cap, P.underlying T = some (.slice E) ∧ a.eval x = .slice A n cap)) := by
    unfold lenOfSlot at h
    split at h
    · rename_i hT
      split at h
      · rename_i s hx
        rw [hx] at hxr
        obtain rfl := Option.some.inj h
        obtain ⟨e, hm⟩ := hxr.str_inv
        exact ⟨hm, .inl ⟨hT, _, e, by simp [ByteArray.size]⟩⟩
      · cases h
    · rename_i E hT
      split at h
      · rename_i B xs hx
        rw [hx] at hxr
        obtain rfl := Option.some.inj h
        obtain ⟨hm, A, cap, e⟩ := hxr.sl_inv.sl_len
        exact ⟨hm, .inr ⟨E, A, cap, hT, e⟩⟩
      · rename_i hx
        rw [hx] at hxr
        obtain rfl := Option.some.inj h
        exact ⟨Nat.zero_le _, .inr ⟨E, none, 0, hT, hxr.nil_inv⟩⟩
      · rename_i t hx
        rw [hx] at hxr
        cases ht : st.tok t with
        | none => rw [ht] at h; cases h
        | some tk =>
          rw [ht] at h
          obtain rfl := Option.some.inj h
          obtain ⟨hm, A, cap, e⟩ := (r.toks t tk ht).len
          exact ⟨hm, .inr ⟨E, A, cap, hT, hxr.tk_inv.trans e⟩⟩
      · cases h
    · cases h
  obtain ⟨hm, key⟩ := key
  have hwf : (Lit.int .i64 (n : Int)).wf = true := by
    have h1 : IntKind.i64.min = -9223372036854775808 := rfl
    have h2 : IntKind.i64.max = 9223372036854775807 := rfl
    have h3 : maxLen = 9223372036854775807 := rfl
    simp only [Lit.wf, Bool.and_eq_true, decide_eq_true_eq]
    omega
  have hargs : c.args.map a.eval = #[a.eval x] := by
    have : c.args = #[x] := by rw [← Array.toArray_toList (xs := c.args), ha]
    rw [this]; simp
  refine goes_value r hd (v := goInt n) ?_ (.int hwf) fun _ _ => men_ival
  have hr := run_len (P := P) (w := w) key (ty := o.type) hts
  simp only [execOp, ho, resolve, hc, hargs, pure_bind, invoke, Go.builtin, Sem.run_bind, hr, Result.andThen_ok]
  rfl

end
end Go.Gl
