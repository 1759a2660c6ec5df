/- Each operation of the model does what the logic's machine says: operations that only yield a value. -/
import Derived.Test.YtfkeggikdeenbaaL8
import Derived.Laws.Cover3
set_option linter.unusedVariables false
set_option linter.unusedSimpArgs false
namespace Go.Gl
open Go.RowKit

section
variable {P : Program} {en : En} {st : St} {Fr : Nat → Prop} {a : Act} {w w' w0 : World} {W X : CS} {K0 : Kb} {o : Oper} {f : Nat}

/-- A condition that may be left out. -/
def holdsO : Option Prop → Prop
  | none => True
  | some φ => φ

theorem eqGuard_plain {op : BinOp} {t : TypeId} {x y : Operand} {u v : Value} (hu : u ≠ .nilIface) (ha : ∀ cs, u ≠ .agg cs) : eqGuard op t x y u v = pure () := by
  unfold eqGuard
  cases op <;> (cases u <;> first | rfl | exact absurd rfl hu | exact absurd rfl (ha _) | (cases v <;> rfl))

theorem run_int {op : BinOp} {k : IntKind} {m n : Int} {φ : Option Prop} {s : Slot} (h : intOp op k m n = some (φ, s)) (hφ : holdsO φ) (hm : (Lit.int k m).wf = true) (T : TypeId) :
    ∃ v, (Go.binOp op T (.int k m) (.int k n)).run P w = .ok v w ∧ ∀ tok, SlotRep w en tok s v ∧ ∀ i, ¬ s.men i := by
  cases op <;> simp only [intOp, Option.some.injEq, Prod.mk.injEq] at h <;> try (cases h; done)
  all_goals obtain ⟨rfl, rfl⟩ := h
  · exact ⟨_, by simp [Go.binOp, Op.intArith, Sem.run, pure, Sem.pure], fun _ => ⟨.int (wf_wrap _ _), fun _ => men_ival⟩⟩
  · exact ⟨_, by simp [Go.binOp, Op.intArith, Sem.run, pure, Sem.pure], fun _ => ⟨.int (wf_wrap _ _), fun _ => men_ival⟩⟩
  · exact ⟨_, by simp [Go.binOp, Op.intArith, Sem.run, pure, Sem.pure], fun _ => ⟨.int (wf_wrap _ _), fun _ => men_ival⟩⟩
  · have hn : n ≠ 0 := hφ
    exact ⟨_, by simp [Go.binOp, Op.intDiv, hn, Sem.run, pure, Sem.pure], fun _ => ⟨.int (wf_wrap _ _), fun _ => men_ival⟩⟩
  · have hn : n ≠ 0 := hφ
    exact ⟨_, by simp [Go.binOp, Op.intDiv, hn, Sem.run, pure, Sem.pure], fun _ => ⟨.int (wf_tmod hm), fun _ => men_ival⟩⟩
  all_goals exact ⟨_, by simp [Go.binOp, Op.intCmp, Sem.run, pure, Sem.pure], fun _ => ⟨.bool, fun _ => men_bval⟩⟩

theorem run_str {op : BinOp} {x y : List UInt8} {φ : Option Prop} {s : Slot} (h : strOp op x y = some (φ, s)) (hφ : holdsO φ) (T : TypeId) :
    ∃ v, (Go.binOp op T (.string ⟨x.toArray⟩) (.string ⟨y.toArray⟩)).run P w = .ok v w ∧ ∀ tok, SlotRep w en tok s v ∧ ∀ i, ¬ s.men i := by
  cases op <;> simp only [strOp, Option.some.injEq, Prod.mk.injEq] at h <;> try (cases h; done)
  all_goals obtain ⟨rfl, rfl⟩ := h
  · have hn : x.length + y.length ≤ maxLen := hφ
    have hz : ((x.length + y.length : Nat) : Int) ≤ IntKind.i64.max := by
      have h1 : IntKind.i64.max = 9223372036854775807 := rfl
      have h2 : maxLen = 9223372036854775807 := rfl
      omega
    refine ⟨.string ⟨(x ++ y).toArray⟩, ?_, fun _ => ⟨.str (by simpa using hn), fun _ => men_sval⟩⟩
    have e : (ByteArray.mk x.toArray) ++ (ByteArray.mk y.toArray) = ByteArray.mk (x ++ y).toArray := by
      apply ByteArray.ext
      simp
    have hs1 : (ByteArray.mk x.toArray).size = x.length := by simp [ByteArray.size]
    have hs2 : (ByteArray.mk y.toArray).size = y.length := by simp [ByteArray.size]
    have : (Go.binOp .add T (.string ⟨x.toArray⟩) (.string ⟨y.toArray⟩)) = Op.stringOp .add ⟨x.toArray⟩ ⟨y.toArray⟩ := rfl
    rw [this]
    unfold Op.stringOp
    simp only [hs1, hs2]
    rw [if_neg (by omega), e]
    rfl
  · refine ⟨.bool (x == y), ?_, fun _ => ⟨.bool, fun _ => men_bval⟩⟩
    have : (Go.binOp .eql T (.string ⟨x.toArray⟩) (.string ⟨y.toArray⟩)) = Op.stringOp .eql ⟨x.toArray⟩ ⟨y.toArray⟩ := rfl
    rw [this]; unfold Op.stringOp; simp [Sem.run, pure, Sem.pure]
  · refine ⟨.bool (x != y), ?_, fun _ => ⟨.bool, fun _ => men_bval⟩⟩
    have : (Go.binOp .neq T (.string ⟨x.toArray⟩) (.string ⟨y.toArray⟩)) = Op.stringOp .neq ⟨x.toArray⟩ ⟨y.toArray⟩ := rfl
    rw [this]; unfold Op.stringOp; simp [Sem.run, pure, Sem.pure, bne]

theorem run_bool {op : BinOp} {x y : Bool} {φ : Option Prop} {s : Slot} (h : boolOp op x y = some (φ, s)) {T : TypeId} (hT : P.underlying T = some .bool) :
    ∃ v, (Go.binOp op T (.bool x) (.bool y)).run P w = .ok v w ∧ ∀ tok, SlotRep w en tok s v ∧ ∀ i, ¬ s.men i := by
  have he : (Op.equal T (.bool x) (.bool y)).run P w = .ok (x == y) w := by
    unfold Op.equal Op.maxDepth Op.equalIn
    rw [Sem.run_bind, run_underlying hT]
    rfl
  cases op <;> simp only [boolOp, Option.some.injEq, Prod.mk.injEq] at h <;> try (cases h; done)
  all_goals obtain ⟨rfl, rfl⟩ := h
  · refine ⟨.bool (x == y), ?_, fun _ => ⟨.bool, fun _ => men_bval⟩⟩
    have : (Go.binOp .eql T (.bool x) (.bool y)) = (do pure (.bool (← Op.equal T (.bool x) (.bool y)))) := rfl
    rw [this, Sem.run_bind, he]; rfl
  · refine ⟨.bool (x != y), ?_, fun _ => ⟨.bool, fun _ => men_bval⟩⟩
    have : (Go.binOp .neq T (.bool x) (.bool y)) = (do pure (.bool (!(← Op.equal T (.bool x) (.bool y))))) := rfl
    rw [this, Sem.run_bind, he]; rfl

theorem sound_binOp (r : RelE en st Fr a w w0 W K0) (hd : ∀ d, o.dst = some d → d < st.n) {op : BinOp} {T T' : TypeId} {x y : Operand} (ho : o.op = .binOp op T x y T') {φ : Option Prop} {s : Slot}
    (h : binDet P T op (st.ev x) (st.ev y) = some (φ, s)) (hφ : holdsO φ) : Goes P o a w (After en Fr (st.apps (ret o s)) (fun k => Fr k ∧ k ≠ f) w0 W K0) := by
  have hx := r.ev x
  have hy := r.ev y
  have done : ∀ u v : Value, a.eval x = u → a.eval y = v → u ≠ .nilIface → (∀ cs, u ≠ .agg cs) → (∃ z, (Go.binOp op T u v).run P w = .ok z w ∧ ∀ tok, SlotRep w en tok s z ∧ ∀ i, ¬ s.men i) →
      Goes P o a w (After en Fr (st.apps (ret o s)) (fun k => Fr k ∧ k ≠ f) w0 W K0) := by
    rintro u v hu hv h1 h2 ⟨z, hz, hs⟩
    refine goes_value r hd (v := z) ?_ (hs _).1 fun i _ => (hs st.tok).2 i
    simp only [execOp, ho, hu, hv, eqGuard_plain h1 h2, pure_bind, Sem.run_bind, hz, Result.andThen_ok]
    rfl
  unfold binDet at h
  split at h
  · rename_i k m k' n h1 h2
    cases hk : Nat.beq k.ctorIdx k'.ctorIdx with
    | false => rw [hk] at h; cases h
    | true =>
      rw [hk] at h
      obtain rfl := kind_inj hk
      rw [h1] at hx
      rw [h2] at hy
      obtain ⟨e1, w1⟩ := hx.int_inv
      obtain ⟨e2, w2⟩ := hy.int_inv
      exact done _ _ e1 e2 (by simp) (by simp) (run_int h hφ w1 T)
  · rename_i m n h1 h2
    rw [h1] at hx
    rw [h2] at hy
    obtain ⟨e1, w1⟩ := hx.str_inv
    obtain ⟨e2, w2⟩ := hy.str_inv
    exact done _ _ e1 e2 (by simp) (by simp) (run_str h hφ T)
  · rename_i m n h1 h2
    rw [h1] at hx
    rw [h2] at hy
    split at h
    · rename_i hT
      exact done _ _ hx.bool_inv hy.bool_inv (by simp) (by simp) (run_bool h hT)
    · cases h
  · rename_i B xs h1 h2
    rw [h1] at hx
    rw [h2] at hy
    obtain ⟨A, l, c, e1, hnil⟩ := hx.slc_inv
    have e2 := hy.nil_inv9
    split at h
    · rename_i E hT
      refine done _ _ e1 e2 (by simp) (by simp) ?_
      cases op <;> simp only [nilOp, Option.some.injEq, Prod.mk.injEq] at h <;> try (cases h; done)
      all_goals obtain ⟨rfl, rfl⟩ := h
      · refine ⟨.bool A.isNone, ?_, fun _ => ⟨.un fun hb => hnil (by simpa using hb), fun _ h => h⟩⟩
        have : (Go.binOp .eql T (.slice A l c) (.slice none 0 0)) = (do pure (.bool (← Op.equal T (.slice A l c) (.slice none 0 0)))) := rfl
        rw [this, Sem.run_bind, run_equal_slice_nil w T E A l c hT]; rfl
      · refine ⟨.bool (!A.isNone), ?_, fun _ => ⟨.un fun hb => hnil (by simpa using hb), fun _ h => h⟩⟩
        have : (Go.binOp .neq T (.slice A l c) (.slice none 0 0)) = (do pure (.bool (!(← Op.equal T (.slice A l c) (.slice none 0 0))))) := rfl
        rw [this, Sem.run_bind, run_equal_slice_nil w T E A l c hT]; rfl
    · cases h
  · rename_i h1 h2
    rw [h1] at hx
    rw [h2] at hy
    have e1 := hx.nil_inv9
    have e2 := hy.nil_inv9
    split at h
    · rename_i E hT
      refine done _ _ e1 e2 (by simp) (by simp) ?_
      cases op <;> simp only [Option.some.injEq, Prod.mk.injEq] at h <;> try (cases h; done)
      all_goals obtain ⟨rfl, rfl⟩ := h
      · refine ⟨.bool true, ?_, fun _ => ⟨.bool, fun _ => men_bval⟩⟩
        have : (Go.binOp .eql T (.slice none 0 0) (.slice none 0 0)) = (do pure (.bool (← Op.equal T (.slice none 0 0) (.slice none 0 0)))) := rfl
        rw [this, Sem.run_bind, run_equal_slice_nil w T E none 0 0 hT]; rfl
      · refine ⟨.bool false, ?_, fun _ => ⟨.bool, fun _ => men_bval⟩⟩
        have : (Go.binOp .neq T (.slice none 0 0) (.slice none 0 0)) = (do pure (.bool (!(← Op.equal T (.slice none 0 0) (.slice none 0 0))))) := rfl
        rw [this, Sem.run_bind, run_equal_slice_nil w T E none 0 0 hT]; rfl
    · cases h
  · cases h

theorem sound_not (r : RelE en st Fr a w w0 W K0) (hd : ∀ d, o.dst = some d → d < st.n) {T : TypeId} {x : Operand} (ho : o.op = .unOp .not T x) {b : Bool} (h : st.ev x = .v false [.c (.bool b)]) :
    Goes P o a w (After en Fr (st.apps (ret o (bval (!b)))) (fun k => Fr k ∧ k ≠ f) w0 W K0) := by
  have hx := r.ev x
  rw [h] at hx
  refine goes_value r hd (v := .bool (!b)) ?_ .bool fun i _ => men_bval
  simp [execOp, ho, hx.bool_inv, Op.unary, Sem.run, pure, Sem.pure, bind, Sem.bind]

theorem sound_fieldAddr (r : RelE en st Fr a w w0 W K0) (hd : ∀ d, o.dst = some d → d < st.n) {S : TypeId} {x : Operand} {n fo : Nat} (ho : o.op = .fieldAddr S x n) (hfo : fieldOff P S n = some fo) {s s' : Slot} (h : st.ev x = s)
    (hs : (∃ b off, s = .lp b off ∧ s' = .lp b (off + fo)) ∨ (∃ xs i off, s = .cp xs i off ∧ s' = .cp xs i (off + fo)) ∨ ∃ t i off, s = .ep t i off ∧ s' = .ep t i (off + fo) ∧ ∃ tk, st.tok t = some tk) :
    Goes P o a w (After en Fr (st.apps (ret o s')) (fun k => Fr k ∧ k ≠ f) w0 W K0) := by
  have hx := r.ev x
  have hm := r.ev_free x
  rw [h] at hx hm
  have run : ∀ b off, a.eval x = .pointer (some ⟨b, off, none⟩) → (execOp a.eval o).run P w = .ok (.value (.pointer (some ⟨b, off + fo, none⟩))) w := by
    intro b off he
    simp only [execOp, ho, he, Sem.run_bind, run_fieldAt hfo (a := ⟨b, off, none⟩) rfl, Result.andThen_ok]
    rfl
  rcases hs with ⟨b, off, rfl, rfl⟩ | ⟨xs, i, off, rfl, rfl⟩ | ⟨t, i, off, rfl, rfl, tk, htk⟩
  · cases he : a.eval x with
    | pointer p =>
      rw [he] at hx
      cases hx
      exact goes_value r hd (run _ _ he) .lp hm
    | _ => rw [he] at hx; cases hx
  · generalize he : a.eval x = v at hx
    cases hx with
    | cp h1 h2 h3 =>
      refine goes_value r hd (run _ _ he) ?_ fun _ _ h => h
      rw [Nat.add_assoc, Nat.add_assoc]
      exact .cp h1 h2 h3
  · generalize he : a.eval x = v at hx
    cases hx with
    | ep h1 =>
      obtain ⟨hi, g, n', cap, h2, rfl⟩ := h1 tk htk
      refine goes_value r hd (run _ _ he) (.ep fun tk' htk' => ?_) hm
      rw [htk] at htk'
      obtain rfl := Option.some.inj htk'
      exact ⟨hi, g, n', cap, h2, by rw [Nat.add_assoc]⟩

theorem run_indexAt' {T E : TypeId} {i : TypeInfo} (hT : P.underlying T = some (.slice E)) (hi : P.info? E = some i) {ad : Addr} (hs : ad.spot = none) {n cap : Nat} {j : Int} (h0 : 0 ≤ j) (h1 : j < n) :
    (Instr.indexAt T (.slice (some ad) n cap) (.int .i64 j)).run P w = .ok (.pointer (some ⟨ad.block, ad.off + j.toNat * i.size, none⟩)) w := by
  obtain ⟨b, o', s⟩ := ad
  simp only at hs
  subst hs
  simp [Instr.indexAt, asIntOf, run_underlying hT, h0, h1, run_sizeOf' hi, add_none]

end
end Go.Gl
