/- Each operation of the model does what the logic's machine says: parts of slices, conversions, variables read and written. -/
import Derived.Test.YtfkeggikdeenbaaL10
set_option linter.unusedVariables false
set_option linter.unusedSimpArgs false
namespace Go.Gl
open Go.RowKit

section
variable {P : Program} {en : En} {st : St} {Fr : Nat → Prop} {a : Act} {w w' w0 : World} {W X : CS} {K0 : Kb} {o : Oper} {f : Nat}

theorem run_bounds {b : Bool} {len cap : Nat} {lo hi : Option Value} {l h : Int} (hl : (lo = none ∧ l = 0) ∨ lo = some (.int .i64 l)) (hh : (hi = none ∧ h = len) ∨ hi = some (.int .i64 h)) (h0 : 0 ≤ l) (h1 : l ≤ h) (h2 : h ≤ cap) :
    (Instr.sliceBounds b len cap lo hi none).run P w = .ok (l.toNat, h.toNat, cap) w := by
  have e1 : (l.toNat : Int) = l := Int.toNat_of_nonneg h0
  have e2 : (h.toNat : Int) = h := Int.toNat_of_nonneg (by omega)
  have hb1 : ∀ c, (Instr.sliceBound (.int .i64 h) cap c).run P w = .ok h.toNat w := fun c => run_sliceBound w .i64 h cap c (by omega) h2
  have hb2 : ∀ c, (Instr.sliceBound (.int .i64 l) h.toNat c).run P w = .ok l.toNat w := fun c => run_sliceBound w .i64 l h.toNat c h0 (by omega)
  unfold Instr.sliceBounds
  rcases hh with ⟨rfl, rfl⟩ | rfl <;> rcases hl with ⟨rfl, rfl⟩ | rfl
  · rfl
  · have e : ((len : Int)).toNat = len := by omega
    rw [e] at hb2
    simp only [pure_bind, Sem.run_bind, Option.isSome_none]
    rw [if_neg (by simp), hb2]
    simp only [Result.andThen_ok, e]
    rfl
  · simp only [pure_bind, Sem.run_bind, hb1, Result.andThen_ok]
    rfl
  · simp only [pure_bind, Sem.run_bind, hb1, Result.andThen_ok, Option.isSome_none]
    rw [if_neg (by simp), hb2]
    rfl

theorem RelE.bound (r : RelE en st Fr a w w0 W K0) {x : Option Operand} {dflt n : Int} (h : boundOf (x.map st.ev) dflt = some n) : (x.map a.eval = none ∧ n = dflt) ∨ x.map a.eval = some (.int .i64 n) := by
  cases x with
  | none => exact .inl ⟨rfl, (Option.some.inj h).symm⟩
  | some x =>
    have hx := r.ev x
    unfold boundOf at h
    simp only [Option.map_some] at h
    split at h
    · rename_i heq; cases heq
    · rename_i m heq
      have e : st.ev x = .v false [.c (.int .i64 m)] := Option.some.inj heq
      rw [e] at hx
      obtain rfl := Option.some.inj h
      exact .inr (by simp [hx.int_inv.1])
    · cases h

theorem run_sliceAt_plain {T : TypeId} {d : TypeDesc} (hT : P.underlying T = some d) (hd : ∀ n e, d ≠ .array n e) (x : Value) (lo hi mx : Option Value) : (Instr.sliceAt T x lo hi mx).run P w = (Instr.slice T x lo hi mx).run P w := by
  unfold Instr.sliceAt
  rw [Sem.run_bind, run_underlying hT]
  cases d <;> first | rfl | exact absurd rfl (hd _ _)

theorem sound_slice_str (r : RelE en st Fr a w w0 W K0) (hd : ∀ d, o.dst = some d → d < st.n) {T : TypeId} {x : Operand} {lo hi : Option Operand} (ho : o.op = .slice T x lo hi none) (hT : P.underlying T = some .string)
    {s : List UInt8} {l h : Int} (hx : st.ev x = .v false [.c (.str s)]) (hl : boundOf (lo.map st.ev) 0 = some l) (hh : boundOf (hi.map st.ev) s.length = some h) (h0 : 0 ≤ l) (h1 : l ≤ h) (h2 : h ≤ s.length) :
    Goes P o a w (After en Fr (st.apps (ret o (sval ((s.take h.toNat).drop l.toNat)))) (fun k => Fr k ∧ k ≠ f) w0 W K0) := by
  have hxr := r.ev x
  rw [hx] at hxr
  obtain ⟨e1, hm⟩ := hxr.str_inv
  have hsz : (ByteArray.mk s.toArray).size = s.length := by simp [ByteArray.size]
  have hb := run_bounds (P := P) (w := w) (b := false) (len := s.length) (cap := s.length) (r.bound hl) (r.bound hh) h0 h1 h2
  refine goes_value r hd (v := .string ⟨((s.take h.toNat).drop l.toNat).toArray⟩) ?_ (.str ?_) fun _ _ => men_sval
  · have hex : (ByteArray.mk s.toArray).extract l.toNat h.toNat = ⟨((s.take h.toNat).drop l.toNat).toArray⟩ := by
      apply ByteArray.ext
      rw [ByteArray.data_extract]
      apply Array.ext'
      simp [List.extract_eq_take_drop, List.drop_take]
    have hs : (Instr.slice T (.string ⟨s.toArray⟩) (lo.map a.eval) (hi.map a.eval) none).run P w = .ok (.string ⟨((s.take h.toNat).drop l.toNat).toArray⟩) w := by
      unfold Instr.slice
      rw [Sem.run_bind, run_underlying hT]
      simp only [Result.andThen_ok, Option.isSome_none, hsz]
      rw [if_neg (by simp)]
      simp only [Sem.run_bind, hb, Result.andThen_ok, hex]
      rfl
    simp only [execOp, ho, e1, Option.map_none, Sem.run_bind, run_sliceAt_plain hT (by simp), hs, Result.andThen_ok]
    rfl
  · simp only [List.length_drop, List.length_take]; omega

theorem sound_slice_sl (r : RelE en st Fr a w w0 W K0) (hd : ∀ d, o.dst = some d → d < st.n) {T E : TypeId} {x : Operand} {lo hi : Option Operand} (ho : o.op = .slice T x lo hi none) (hT : P.underlying T = some (.slice E))
    {B : Nat} {xs : List (List D)} {l h : Int} (hx : st.ev x = .v false [.c (.sl B xs)]) (hl : boundOf (lo.map st.ev) 0 = some l) (hh : boundOf (hi.map st.ev) xs.length = some h) (h0 : 0 ≤ l) (h1 : l ≤ h) (h2 : h ≤ xs.length)
    (h3 : l = h ∨ (xs.getD l.toNat []).length = P.cellsOf E) (hE : ∃ i, P.info? E = some i) :
    Goes P o a w (After en Fr (st.apps (ret o (.v false [.c (.sl B ((xs.take h.toNat).drop l.toNat))]))) (fun k => Fr k ∧ k ≠ f) w0 W K0) := by
  have hxr := r.ev x
  rw [hx] at hxr
  have hrep := hxr.sl_inv
  obtain ⟨inf, hinf⟩ := hE
  have hsz : P.cellsOf E = inf.size := by unfold Program.cellsOf; rw [hinf]; rfl
  have hlen : ((xs.take h.toNat).drop l.toNat).length = h.toNat - l.toNat := by simp only [List.length_drop, List.length_take]; omega
  have go : ∀ (A : Option Addr) (cap : Nat), a.eval x = .slice A xs.length cap → xs.length ≤ cap → RepD w en.K (.sl B ((xs.take h.toNat).drop l.toNat)) (.slice (if cap = l.toNat then A else A.map (·.add (l.toNat * inf.size))) (h.toNat - l.toNat) (cap - l.toNat)) →
      Goes P o a w (After en Fr (st.apps (ret o (.v false [.c (.sl B ((xs.take h.toNat).drop l.toNat))]))) (fun k => Fr k ∧ k ≠ f) w0 W K0) := by
    intro A cap e1 hcap hr
    have hb := run_bounds (P := P) (w := w) (b := true) (len := xs.length) (cap := cap) (r.bound hl) (r.bound hh) h0 h1 (by omega)
    have hs : (Instr.slice T (.slice A xs.length cap) (lo.map a.eval) (hi.map a.eval) none).run P w = .ok (.slice (if cap = l.toNat then A else A.map (·.add (l.toNat * inf.size))) (h.toNat - l.toNat) (cap - l.toNat)) w := by
      unfold Instr.slice
      rw [Sem.run_bind, run_underlying hT]
      simp only [Result.andThen_ok, Sem.run_bind, hb, run_sizeOf' hinf]
      rfl
    refine goes_value r hd ?_ (.v (.one (.c hr))) fun _ _ => men_one
    simp only [execOp, ho, e1, Option.map_none, Sem.run_bind, run_sliceAt_plain hT (by simp), hs, Result.andThen_ok]
    rfl
  by_cases heq : l = h
  · subst heq
    have hnil : (xs.take l.toNat).drop l.toNat = [] := by apply List.eq_nil_of_length_eq_zero; rw [hlen]; omega
    obtain ⟨_, A, cap, e1⟩ := hrep.sl_len
    have hcap : xs.length ≤ cap := by
      rw [e1] at hrep
      generalize hn : xs.length = n at hrep e1
      cases hrep with
      | nil => omega
      | sl e f hs hb hm hn' => exact hn'
    refine go A cap e1 hcap ?_
    rw [hnil, Nat.sub_self]
    exact .nil
  · have h3' : (xs.getD l.toNat []).length = inf.size := by rw [← hsz]; exact h3.resolve_left heq
    have hlt : l.toNat < xs.length := by omega
    generalize he : a.eval x = v at hrep
    cases hrep with
    | nil => simp at hlt
    | sl e g hs hb hm hn hx' hc hr =>
      rename_i ad cap
      refine go (some ad) cap he hn ?_
      have hee : e = inf.size := by
        rw [← h3']
        have : xs.getD l.toNat [] = xs[l.toNat] := by simp [List.getD, hlt]
        rw [this]
        exact (hx' l.toNat _ (List.getElem?_eq_getElem hlt)).symm
      rw [if_neg (by omega), ← hlen]
      obtain ⟨b, off, sp⟩ := ad
      simp only at hs
      subst hs
      simp only [Option.map_some, add_none]
      have hget : ∀ (i : Nat) (y : List D), ((xs.take h.toNat).drop l.toNat)[i]? = some y → xs[l.toNat + i]? = some y := by
        intro i y hy
        rw [List.getElem?_drop, List.getElem?_take] at hy
        split at hy
        · exact hy
        · cases hy
      refine .sl e (fun i j => g (l.toNat + i) j) rfl ?_ (by omega) (by rw [hlen]; omega) (fun i y hy => hx' _ y (hget i y hy)) (fun i j y d hy hj => ?_) fun i j y d hy hj => hr _ j y d (hget i y hy) hj
      · rw [hlen]
        exact Nat.le_trans (Nat.mul_le_mul_right _ (by omega)) hb
      · have := hc (l.toNat + i) j y d (hget i y hy) hj
        rw [← hee]
        have e' : off + l.toNat * e + (i * e + j) = off + ((l.toNat + i) * e + j) := by rw [Nat.add_mul]; omega
        simp only [e']
        exact this

theorem sound_conv (r : RelE en st Fr a w w0 W K0) (hd : ∀ d, o.dst = some d → d < st.n) {src dst : TypeId} {x : Operand} (ho : o.op = .convert src dst x) {d : TypeDesc} (hs : P.underlying src = some d) {k k' : IntKind} {n : Int} (hT : P.underlying dst = some (.int k))
    (hx : st.ev x = .v false [.c (.int k' n)]) : Goes P o a w (After en Fr (st.apps (ret o (ival k (k.wrap n)))) (fun k => Fr k ∧ k ≠ f) w0 W K0) := by
  have hxr := r.ev x
  rw [hx] at hxr
  obtain ⟨e1, _⟩ := hxr.int_inv
  refine goes_value r hd (v := .int k (k.wrap n)) ?_ (.int (wf_wrap _ _)) fun _ _ => men_ival
  have : (convert src dst (.int k' n)).run P w = .ok (.int k (k.wrap n)) w := by
    unfold convert
    rw [Sem.run_bind, run_underlying hs]
    simp only [Result.andThen_ok, Sem.run_bind, run_underlying hT]
    cases d <;> rfl
  simp only [execOp, ho, e1, Sem.run_bind, this, Result.andThen_ok]
  rfl

theorem sound_max (r : RelE en st Fr a w w0 W K0) (hd : ∀ d, o.dst = some d → d < st.n) {c : Call} (ho : o.op = .call c) {mx : Bool} (hc : c.callee = .builtin (if mx then .max else .min)) {s : Slot}
    (h : maxSlot mx (c.args.toList.map st.ev) = some s) : Goes P o a w (After en Fr (st.apps (ret o s)) (fun k => Fr k ∧ k ≠ f) w0 W K0) := by
  unfold maxSlot at h
  split at h
  case h_2 => cases h
  case h_1 m n hxs =>
    obtain rfl := Option.some.inj h
    obtain ⟨x, l1, e1, hx, h1⟩ := List.map_eq_cons_iff.1 hxs
    obtain ⟨y, l2, e2, hy, h2⟩ := List.map_eq_cons_iff.1 h1
    have e3 : l2 = [] := List.map_eq_nil_iff.1 h2
    subst e3
    subst e2
    have hxr := r.ev x
    have hyr := r.ev y
    rw [hx] at hxr
    rw [hy] at hyr
    obtain ⟨v1, w1⟩ := hxr.int_inv
    obtain ⟨v2, w2⟩ := hyr.int_inv
    have hargs : c.args.map a.eval = #[.int .i64 m, .int .i64 n] := by
      have : c.args = #[x, y] := by rw [← Array.toArray_toList (xs := c.args), e1]
      rw [this]; simp [v1, v2]
    cases mx with
    | true =>
      refine goes_value r hd (v := .int .i64 (if n > m then n else m)) ?_ ?_ fun _ _ => men_ival
      · simp only [execOp, ho, resolve, hc, hargs, pure_bind, invoke, Go.builtin, if_true]; rfl
      · have : (bif true then max m n else min m n) = if n > m then n else m := by simp only [cond_true]; split <;> omega
        rw [this]
        split
        · exact .int w2
        · exact .int w1
    | false =>
      refine goes_value r hd (v := .int .i64 (if n < m then n else m)) ?_ ?_ fun _ _ => men_ival
      · simp only [execOp, ho, resolve, hc, hargs, pure_bind, invoke, Go.builtin, Bool.false_eq_true, if_false]; rfl
      · have : (bif false then max m n else min m n) = if n < m then n else m := by simp only [cond_false]; split <;> omega
        rw [this]
        split
        · exact .int w2
        · exact .int w1

theorem capsOf_spec : ∀ {l : List Slot} {cs : List Nat}, capsOf l = some cs → l = cs.map fun b => Slot.lp b 0
  | [], cs, h => by obtain rfl := Option.some.inj h; rfl
  | s :: l, cs, h => by
    unfold capsOf at h
    split at h
    · rename_i heq; cases heq
    · rename_i b r heq
      cases heq
      rw [Option.map_eq_some_iff] at h
      obtain ⟨cs', h1, rfl⟩ := h
      rw [capsOf_spec h1]; rfl
    · cases h

theorem sound_makeFunc (r : RelE en st Fr a w w0 W K0) (hd : ∀ d, o.dst = some d → d < st.n) {g : Nat} {first captured : Array Operand} (ho : o.op = .makeFunc (.func g) first captured) (h0 : first.size = 0) {cs : List Nat}
    (h : capsOf (captured.toList.map st.ev) = some cs) : Goes P o a w (After en Fr (st.apps (ret o (.fn g cs))) (fun k => Fr k ∧ k ≠ f) w0 W K0) := by
  have hl := capsOf_spec h
  have hv : captured.map a.eval = (cs.map fun b => Value.pointer (some ⟨en.FB b, 0, none⟩)).toArray := by
    apply Array.ext'
    rw [Array.toList_map]
    apply List.ext_getElem?
    intro i
    have hi : (captured.toList.map st.ev)[i]? = (cs.map fun b => Slot.lp b 0)[i]? := by rw [hl]
    simp only [List.getElem?_map] at hi ⊢
    cases h1 : captured.toList[i]? with
    | none => rw [h1] at hi; cases h2 : cs[i]? with
      | none => rfl
      | some b => rw [h2] at hi; cases hi
    | some x =>
      rw [h1] at hi
      cases h2 : cs[i]? with
      | none => rw [h2] at hi; cases hi
      | some b =>
        rw [h2] at hi
        have e : st.ev x = .lp b 0 := Option.some.inj hi
        have hx := r.ev x
        rw [e] at hx
        generalize ha : a.eval x = v at hx
        cases hx
        simp [ha]
  have hfst : first = #[] := Array.eq_empty_of_size_eq_zero h0
  subst hfst
  refine goes_value r hd (v := .func (.func g) #[] (cs.map fun b => Value.pointer (some ⟨en.FB b, 0, none⟩)).toArray) ?_ .fn ?_
  · simp only [execOp, ho, Instr.makeFunc, hv, pure_bind]; simp [Sem.run, pure, Sem.pure]
  · intro k hk hm
    have hm' : k ∈ cs := hm
    obtain ⟨i, hi⟩ := List.mem_iff_getElem?.1 hm'
    have h1 : (captured.toList.map st.ev)[i]? = some (.lp k 0) := by rw [hl, List.getElem?_map, hi]; rfl
    rw [List.getElem?_map, Option.map_eq_some_iff] at h1
    obtain ⟨x, _, hx⟩ := h1
    exact r.ev_free x k hk (by rw [hx]; rfl)

end
end Go.Gl
