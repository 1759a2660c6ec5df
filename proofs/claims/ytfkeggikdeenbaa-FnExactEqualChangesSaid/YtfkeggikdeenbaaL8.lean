/- Each operation of the model does what the logic's machine says: the first half. -/
import Derived.Test.YtfkeggikdeenbaaL7
set_option linter.unusedVariables false
set_option linter.unusedSimpArgs false
namespace Go.Gl
open Go.RowKit

theorem run_storeAt {P : Program} {T : TypeId} {ks : List CK} (h : layD P T = some ks) {w : World} {g o : Nat} {cur : Array Value} {T' : TypeId} (hg : w.heap[g]? = some (.cells cur T' (0, 0)))
    {v : Value} (hl : v.cells.size = ks.length) (hfit : o + ks.length ≤ cur.size) (h1 : ∀ u ∈ v.cells.toList, u.oneCell' = true) :
    (Instr.storeAt T (.pointer (some ⟨g, o, none⟩)) v).run P w = .ok () (w.setRow g (cur.toList.take o ++ v.cells.toList ++ cur.toList.drop (o + v.cells.toList.length)).toArray) := by
  obtain ⟨i, d, hi, hs, hp, hu, ha⟩ := layD_spec h
  have hst := run_storeCells_at P g o T' v.cells.toList 0 cur w hg (by simp only [Array.length_toList]; omega) h1
  simp only [Nat.add_zero] at hst
  show (do storeVar T (← Instr.sureAddr (.pointer (some ⟨g, o, none⟩))) v).run P w = _
  unfold Instr.sureAddr storeVar
  simp only [pure_bind, Sem.run_bind, run_sizeOf' hi, Result.andThen_ok]
  rw [if_neg (by rw [hl, hs]; simp)]
  exact hst

theorem run_box {P : Program} {T : TypeId} {v : Value} {w : World} : (Instr.box T v).run P w = .ok (.pointer (some ⟨w.heap.size, 0, none⟩)) (w.alloc (.cells v.cells T)) := rfl

theorem run_alloc {P : Program} {T : TypeId} {i : TypeInfo} {z : Value} (hi : P.info? T = some i) (hz : i.zero = some z) {w : World} :
    (Instr.alloc T true (.tuple #[])).run P w = .ok (.pointer (some ⟨w.heap.size, 0, none⟩)) (w.alloc (.cells z.cells T)) := by
  simp [Instr.alloc, zeroValue, typeInfo, hi, hz]
  rfl

theorem run_fieldAt {P : Program} {S : TypeId} {n fo : Nat} (h : fieldOff P S n = some fo) {w : World} {a : Addr} (ha : a.spot = none) :
    (Instr.fieldAt S (.pointer (some a)) n).run P w = .ok (.pointer (some ⟨a.block, a.off + fo, none⟩)) w := by
  unfold fieldOff at h
  split at h
  case h_2 => cases h
  case h_1 fs hu =>
    cases hf : fs[n]? with
    | none => rw [hf] at h; cases h
    | some f =>
      rw [hf] at h
      simp only [Option.bind_some] at h
      cases hz : Nat.beq (P.cellsOf f.type) 0 with
      | true => rw [hz] at h; cases h
      | false =>
        rw [hz] at h
        obtain rfl := Option.some.inj h
        have hne : P.cellsOf f.type ≠ 0 := by intro e; rw [e] at hz; cases hz
        unfold Program.cellsOf at hne
        cases hi : P.info? f.type with
        | none => rw [hi] at hne; exact absurd rfl hne
        | some i =>
          rw [hi] at hne
          have hne' : ¬ i.size = 0 := hne
          obtain ⟨b, o, s⟩ := a
          simp only at ha
          subst ha
          simp [Instr.fieldAt, run_underlying hu, hf, Instr.sureAddr, fieldPlace, run_sizeOf' hi, hne', add_none]

section
variable {P : Program} {en : En} {st : St} {Fr : Nat → Prop} {a : Act} {w w' w0 : World} {W X : CS} {K0 : Kb} {o : Oper} {f : Nat}

/-- The operation runs to its end, and leaves this. -/
def Goes (P : Program) (o : Oper) (a : Act) (w : World) (Φ : Act → World → Prop) : Prop :=
  ∃ w' v, ((execOp a.eval o).run P w = .ok (.value v) w' ∨ (v = undef ∧ (execOp a.eval o).run P w = .ok .skip w')) ∧ Φ (a.put o.dst v) w'

def After (en : En) (Fr : Nat → Prop) (st' : St) (Fr' : Nat → Prop) (w0 : World) (W : CS) (K0 : Kb) (a' : Act) (w' : World) : Prop :=
  ∃ en', RelE en' st' Fr' a' w' w0 W K0 ∧ ∀ k, ¬ Fr k → en'.FB k = en.FB k

theorem RelE.ret (r : RelE en st Fr a w w0 W K0) (o : Oper) (hd : ∀ d, o.dst = some d → d < st.n) {s : Slot} {v : Value} (hs : SlotRep w en st.tok s v) (hm : ∀ i, Fr i → ¬ s.men i) :
    RelE en (st.apps (ret o s)) Fr (a.put o.dst v) w w0 W K0 := by
  unfold Gl.ret
  cases h : o.dst with
  | none => exact r
  | some d => exact r.setSlot (hd d h) hs hm

theorem apps_append (st : St) (us vs : List Upd) : st.apps (us ++ vs) = (st.apps us).apps vs := by
  induction us generalizing st with
  | nil => rfl
  | cons u us ih => exact ih _

theorem app_n (st : St) (u : Upd) : (st.app u).n = st.n := by cases u <;> rfl

theorem apps_n (st : St) (us : List Upd) : (st.apps us).n = st.n := by
  induction us generalizing st with
  | nil => rfl
  | cons u us ih => exact (ih _).trans (app_n _ _)

/-- The operation's operands. -/
theorem RelE.ev (r : RelE en st Fr a w w0 W K0) (x : Operand) : SlotRep w en st.tok (st.ev x) (a.eval x) := by
  cases x with
  | tmp t => exact r.slots t
  | global g => exact .any
  | func f => exact .fn
  | const v =>
    show SlotRep w en st.tok (bif constOk v then constSlot v else .any) v
    cases hc : constOk v with
    | false => exact .any
    | true =>
      show SlotRep w en st.tok (constSlot v) v
      unfold constSlot
      split
      · exact .v (.one (.c (.int hc)))
      · exact .v (.one (.c .bool))
      · rename_i s
        have : (.string s : Value) = .string ⟨s.data.toList.toArray⟩ := by simp
        rw [this]
        exact .v (.one (.c (.str (by simpa [constOk] using hc))))
      · exact .v (.one .nil)
      · exact .any

theorem RelE.ev_free (r : RelE en st Fr a w w0 W K0) (x : Operand) : ∀ i, Fr i → ¬ (st.ev x).men i := by
  intro i hi
  cases x with
  | tmp t => exact r.free.slot i hi t
  | global g => exact fun h => h
  | func f => show ¬ (i ∈ ([] : List Nat)); simp
  | const v =>
    show ¬ Slot.men i (bif constOk v then constSlot v else .any)
    cases constOk v with
    | false => exact fun h => h
    | true =>
      show ¬ Slot.men i (constSlot v)
      unfold constSlot
      split <;> (try exact fun h => h) <;> (rintro ⟨c, hc, hm⟩; simp at hc; subst hc; exact hm)

/-- An operation that only yields a value. -/
theorem goes_value (r : RelE en st Fr a w w0 W K0) (hd : ∀ d, o.dst = some d → d < st.n) {s : Slot} {v : Value} (hr : (execOp a.eval o).run P w = .ok (.value v) w) (hs : SlotRep w en st.tok s v) (hm : ∀ i, Fr i → ¬ s.men i) :
    Goes P o a w (After en Fr (st.apps (ret o s)) (fun k => Fr k ∧ k ≠ f) w0 W K0) :=
  ⟨w, v, .inl hr, en, (r.ret o hd hs hm).fewer fun _ h => h.1, fun _ _ => rfl⟩

theorem sound_move (r : RelE en st Fr a w w0 W K0) (hd : ∀ d, o.dst = some d → d < st.n) {x : Operand} (ho : o.op = .move x ∨ o.op = .assign x) :
    Goes P o a w (After en Fr (st.apps (ret o (st.ev x))) (fun k => Fr k ∧ k ≠ f) w0 W K0) :=
  goes_value r hd (v := a.eval x) (by rcases ho with ho | ho <;> simp [execOp, ho, Sem.run, pure, Sem.pure]) (r.ev x) (r.ev_free x)

theorem SlotRep.bool_inv {tok : Nat → Option Tok} {b : Bool} {v : Value} (h : SlotRep w en tok (.v false [.c (.bool b)]) v) : v = .bool b := by
  cases h with | v h => cases h with | one h => cases h with | c h => cases h; rfl

theorem SlotRep.int_inv {tok : Nat → Option Tok} {k : IntKind} {n : Int} {v : Value} (h : SlotRep w en tok (.v false [.c (.int k n)]) v) : v = .int k n ∧ (Lit.int k n).wf = true := by
  cases h with | v h => cases h with | one h => cases h with | c h => cases h; exact ⟨rfl, by assumption⟩

theorem SlotRep.str_inv {tok : Nat → Option Tok} {s : List UInt8} {v : Value} (h : SlotRep w en tok (.v false [.c (.str s)]) v) : v = .string ⟨s.toArray⟩ ∧ s.length ≤ maxLen := by
  cases h with | v h => cases h with | one h => cases h with | c h => cases h; exact ⟨rfl, by assumption⟩

theorem SlotRep.slc_inv {tok : Nat → Option Tok} {B : Nat} {xs : List (List D)} {v : Value} (h : SlotRep w en tok (.v false [.c (.sl B xs)]) v) : ∃ A l c, v = .slice A l c ∧ (A = none → xs = []) := by
  cases h with | v h => cases h with | one h => cases h with | c h => cases h with
    | nil => exact ⟨_, _, _, rfl, fun _ => rfl⟩
    | sl => exact ⟨_, _, _, rfl, fun h => nomatch h⟩

theorem SlotRep.nil_inv9 {tok : Nat → Option Tok} {v : Value} (h : SlotRep w en tok (.v false [.nil]) v) : v = .slice none 0 0 := by
  cases h with | v h => cases h with | one h => cases h; rfl

theorem SlotRep.bool {tok : Nat → Option Tok} {b : Bool} : SlotRep w en tok (bval b) (.bool b) := .v (.one (.c .bool))
theorem SlotRep.int {tok : Nat → Option Tok} {k : IntKind} {n : Int} (h : (Lit.int k n).wf = true) : SlotRep w en tok (ival k n) (.int k n) := .v (.one (.c (.int h)))
theorem SlotRep.str {tok : Nat → Option Tok} {s : List UInt8} (h : s.length ≤ maxLen) : SlotRep w en tok (sval s) (.string ⟨s.toArray⟩) := .v (.one (.c (.str h)))

theorem men_one {i : Nat} {d : D} : ¬ Slot.men i (.v false [.c d]) := by
  rintro ⟨c, hc, hm⟩; simp at hc; subst hc; exact hm
theorem men_bval {i : Nat} {b : Bool} : ¬ (bval b).men i := men_one
theorem men_ival {i : Nat} {k : IntKind} {n : Int} : ¬ (ival k n).men i := men_one
theorem men_sval {i : Nat} {s : List UInt8} : ¬ (sval s).men i := men_one

theorem pick_cases (t : Bool) (x y : Slot) : pickSlot t x y = (bif t then x else y) := by
  unfold pickSlot
  split
  · cases t <;> rfl
  · rfl

theorem sound_pick (r : RelE en st Fr a w w0 W K0) (hd : ∀ d, o.dst = some d → d < st.n) {c x y : Operand} {t : Bool} (ho : o.op = .pick c x y) (hc : st.ev c = .v false [.c (.bool t)]) :
    Goes P o a w (After en Fr (st.apps (ret o (pickSlot t (st.ev x) (st.ev y)))) (fun k => Fr k ∧ k ≠ f) w0 W K0) := by
  have h := r.ev c
  rw [hc] at h
  have hv := h.bool_inv
  refine goes_value r hd (v := if t then a.eval x else a.eval y) ?_ ?_ ?_
  · simp [execOp, ho, hv, asBool, Sem.run, pure, Sem.pure, bind, Sem.bind]
  · rw [pick_cases]; cases t
    · exact r.ev y
    · exact r.ev x
  · rw [pick_cases]; cases t
    · exact r.ev_free y
    · exact r.ev_free x


theorem sound_alloc (r : RelE en st Fr a w w0 W K0) (hd : ∀ d, o.dst = some d → d < st.n) (hf : Fr f) {T : TypeId} (ho : o.op = .alloc T) {cs : List Cell} (hc : zeroCellsT P T = some cs) :
    Goes P o a w (After en Fr (st.apps (.box f cs :: ret o (.lp f 0))) (fun k => Fr k ∧ k ≠ f) w0 W K0) := by
  unfold zeroCellsT at hc
  cases hz : layZ P T with
  | none => rw [hz] at hc; cases hc
  | some ks =>
    rw [hz] at hc
    obtain rfl := Option.some.inj hc
    obtain ⟨hl, i, z, hi, hzz, hk⟩ := layZ_spec hz
    have hlen := zKinds_length hk
    have hrep : CellsRep w en (ks.map CK.zeroC) z.cells := by
      refine ⟨by simpa using hlen, fun j c hj => ?_⟩
      rw [List.getElem?_map, Option.map_eq_some_iff] at hj
      obtain ⟨k, hk1, rfl⟩ := hj
      obtain ⟨v, hv, h1, _⟩ := zKinds_rep (w := w) (en := en) hk j k hk1
      exact ⟨v, by simpa using hv, h1⟩
    have hmen : ∀ k, ¬ cellsMen k (ks.map CK.zeroC) := by
      rintro k ⟨c, hc, hm⟩
      obtain ⟨x, _, rfl⟩ := List.mem_map.1 hc
      cases x <;> exact hm
    have r1 := r.newBox hf T hrep (fun k _ => hmen k)
    refine ⟨_, .pointer (some ⟨w.heap.size, 0, none⟩), .inl ?_, _, r1.ret o (by intro d h; exact hd d h) (s := .lp f 0) ?_ ?_, ?_⟩
    · simp only [execOp, ho, Sem.run_bind, run_alloc hi hzz, Result.andThen_ok]; rfl
    · have : (Value.pointer (some ⟨w.heap.size, 0, none⟩)) = .pointer (some ⟨upd en.FB f w.heap.size f, 0, none⟩) := by rw [upd_self]
      rw [this]
      exact SlotRep.lp
    · rintro k ⟨_, hk⟩ e; exact hk e.symm
    · intro k hk
      exact upd_ne _ _ _ fun e => hk (e ▸ hf)

theorem cells_of_val {b : Bool} {cs : List Cell} {v : Value} (h : ValRep w en b cs v) : CellsRep w en cs v.cells ∧ ∀ u ∈ v.cells.toList, u.oneCell' = true := by
  cases h with
  | one h =>
    rename_i c
    have hv : v.cells = #[v] := by have := h.oneCell; cases v <;> first | rfl | cases this
    rw [hv]
    refine ⟨⟨rfl, fun j c' hj => ?_⟩, by simpa using h.oneCell⟩
    cases j with
    | zero => simp at hj; subst hj; exact ⟨v, rfl, h⟩
    | succ j => simp at hj
  | agg h =>
    rename_i arr
    refine ⟨h, fun u hu => ?_⟩
    have hu : u ∈ arr.toList := hu
    obtain ⟨j, hj⟩ := List.mem_iff_getElem?.1 hu
    have hlt : j < arr.size := by
      have := (List.getElem?_eq_some_iff.1 hj).1
      simpa using this
    have hj2 : j < cs.length := by rw [← h.1]; exact hlt
    obtain ⟨u', h1, h2⟩ := h.2 j cs[j] (List.getElem?_eq_getElem hj2)
    have hj' : arr[j]? = some u := by simpa using hj
    rw [h1] at hj'
    obtain rfl := Option.some.inj hj'
    exact h2.oneCell

theorem slot_cells {tok : Nat → Option Tok} {s : Slot} {v : Value} {cs : List Cell} (h : SlotRep w en tok s v) (hc : s.cells = some cs) : CellsRep w en cs v.cells ∧ ∀ u ∈ v.cells.toList, u.oneCell' = true := by
  cases h with
  | v h => obtain rfl := Option.some.inj hc; exact cells_of_val h
  | _ => cases hc

theorem slot_cells_men {s : Slot} {cs : List Cell} (hc : s.cells = some cs) {i : Nat} (h : cellsMen i cs) : s.men i := by
  cases s with
  | v b l => have e : l = cs := Option.some.inj hc; subst e; exact h
  | _ => cases hc

theorem sound_box (r : RelE en st Fr a w w0 W K0) (hd : ∀ d, o.dst = some d → d < st.n) (hf : Fr f) {T : TypeId} {x : Operand} (ho : o.op = .box T x) {cs : List Cell} (hc : (st.ev x).cells = some cs) :
    Goes P o a w (After en Fr (st.apps (.box f cs :: ret o (.lp f 0))) (fun k => Fr k ∧ k ≠ f) w0 W K0) := by
  have hrep := slot_cells (r.ev x) hc
  have r1 := r.newBox hf T hrep.1 (fun k hk hm => r.ev_free x k hk (slot_cells_men hc hm))
  refine ⟨_, .pointer (some ⟨w.heap.size, 0, none⟩), .inl ?_, _, r1.ret o (by intro d h; exact hd d h) (s := .lp f 0) ?_ ?_, ?_⟩
  · simp only [execOp, ho, Sem.run_bind, run_box, Result.andThen_ok]; rfl
  · have : (Value.pointer (some ⟨w.heap.size, 0, none⟩)) = .pointer (some ⟨upd en.FB f w.heap.size f, 0, none⟩) := by rw [upd_self]
    rw [this]
    exact SlotRep.lp
  · rintro k ⟨_, hk⟩ e; exact hk e.symm
  · intro k hk
    exact upd_ne _ _ _ fun e => hk (e ▸ hf)

theorem sound_nilCheck (r : RelE en st Fr a w w0 W K0) (hd : ∀ d, o.dst = some d → d < st.n) {x : Operand} (ho : o.op = .nilCheck x) {s : Slot} (hs : st.ev x = s) {v : Value} (hv : a.eval x = v)
    (hp : (∃ p, v = .pointer (some p)) ∨ ∃ g cs, v = .func (.func g) #[] cs) :
    Goes P o a w (After en Fr (st.apps (ret o s)) (fun k => Fr k ∧ k ≠ f) w0 W K0) := by
  refine goes_value r hd (v := v) ?_ (by rw [← hs, ← hv]; exact r.ev x) (by rw [← hs]; exact r.ev_free x)
  rcases hp with ⟨p, rfl⟩ | ⟨g, cs, rfl⟩ <;> simp [execOp, ho, hv, Sem.run, pure, Sem.pure]

theorem wf_tmod {k : IntKind} {x y : Int} (h : (Lit.int k x).wf = true) : (Lit.int k (x.tmod y)).wf = true := by
  simp only [Lit.wf, Bool.and_eq_true, decide_eq_true_eq] at h ⊢
  have hz : k.min ≤ 0 ∧ 0 ≤ k.max := by cases k <;> decide
  have key : ∀ m n : Nat, ((m % n : Nat) : Int) ≤ m := fun m n => by exact_mod_cast Nat.mod_le m n
  cases x with
  | ofNat m =>
    have : (Int.ofNat m).tmod y = ((m % y.natAbs : Nat) : Int) := by cases y <;> rfl
    rw [this]
    have := key m y.natAbs
    have h2 : ((m % y.natAbs : Nat) : Int) ≥ 0 := Int.natCast_nonneg _
    have h3 : (Int.ofNat m) = (m : Int) := rfl
    omega
  | negSucc m =>
    have : (Int.negSucc m).tmod y = -(((m + 1) % y.natAbs : Nat) : Int) := by cases y <;> rfl
    rw [this]
    have := key (m + 1) y.natAbs
    have h2 : (((m + 1) % y.natAbs : Nat) : Int) ≥ 0 := Int.natCast_nonneg _
    have h3 : (Int.negSucc m) = -((m : Int) + 1) := by omega
    omega

end
end Go.Gl
