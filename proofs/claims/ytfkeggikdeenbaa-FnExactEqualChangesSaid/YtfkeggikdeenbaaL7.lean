/- What the model's operations do, told by the kinds of a type's cells. -/
import Derived.Test.YtfkeggikdeenbaaL6
set_option linter.unusedVariables false
set_option linter.unusedSimpArgs false
namespace Go.Gl
open Go.RowKit

theorem lay_agg {P : Program} : ∀ {n : Nat} {T : TypeId} {ks : List CK}, lay P n T = some ks → ∃ d, P.underlying T = some d ∧ (isAggT P T = false → ∃ k, ks = [k])
  | 0, T, ks, h => by simp [lay] at h
  | n + 1, T, ks, h => by
    unfold lay at h
    split at h
    case h_1 k hu => exact ⟨_, hu, fun _ => ⟨_, (Option.some.inj h).symm⟩⟩
    case h_2 hu => exact ⟨_, hu, fun _ => ⟨_, (Option.some.inj h).symm⟩⟩
    case h_3 hu => exact ⟨_, hu, fun _ => ⟨_, (Option.some.inj h).symm⟩⟩
    case h_4 E hu =>
      split at h
      · exact ⟨_, hu, fun _ => ⟨_, (Option.some.inj h).symm⟩⟩
      · cases h
    case h_5 fs hu => exact ⟨_, hu, fun hf => by simp [isAggT, hu] at hf⟩
    case h_6 => cases h

theorem layD_spec {P : Program} {T : TypeId} {ks : List CK} (h : layD P T = some ks) :
    ∃ i d, P.info? T = some i ∧ i.size = ks.length ∧ 0 < ks.length ∧ P.underlying T = some d ∧ (isAggT P T = false → ∃ k, ks = [k]) := by
  unfold layD at h
  split at h
  case h_2 => cases h
  case h_1 ks' hl =>
    cases hc : (Nat.beq (P.cellsOf T) ks'.length && Nat.blt 0 ks'.length) with
    | false => rw [hc] at h; cases h
    | true =>
      rw [hc] at h
      obtain rfl := Option.some.inj h
      rw [Bool.and_eq_true] at hc
      obtain ⟨h1, h2⟩ := hc
      have h1 := Nat.eq_of_beq_eq_true h1
      have h2' : 0 < ks'.length := Nat.le_of_ble_eq_true h2
      obtain ⟨d, hd, ha⟩ := lay_agg hl
      unfold Program.cellsOf at h1
      cases hi : P.info? T with
      | none => rw [hi] at h1; exact absurd h2' (by rw [← h1]; exact Nat.lt_irrefl 0)
      | some i => rw [hi] at h1; exact ⟨i, d, rfl, h1, h2', hd, ha⟩

theorem layZ_spec {P : Program} {T : TypeId} {ks : List CK} (h : layZ P T = some ks) :
    layD P T = some ks ∧ ∃ i z, P.info? T = some i ∧ i.zero = some z ∧ zKinds ks z.cells.toList = true := by
  unfold layZ at h
  split at h
  case h_2 => cases h
  case h_1 ks' hl =>
    split at h
    case h_2 => cases h
    case h_1 i hi =>
      split at h
      case h_2 => cases h
      case h_1 z hz =>
        cases hc : zKinds ks' z.cells.toList with
        | false => rw [hc] at h; cases h
        | true => rw [hc] at h; obtain rfl := Option.some.inj h; exact ⟨hl, i, z, hi, hz, hc⟩

theorem kind_inj {k k' : IntKind} (h : Nat.beq k.ctorIdx k'.ctorIdx = true) : k = k' := by
  cases k <;> cases k' <;> first | rfl | cases h

theorem zKinds_length {ks : List CK} {vs : List Value} (h : zKinds ks vs = true) : vs.length = ks.length := by
  induction ks generalizing vs with
  | nil => cases vs <;> first | rfl | cases h
  | cons k ks ih =>
    cases vs with
    | nil => cases h
    | cons v vs =>
      simp only [zKinds, Bool.and_eq_true] at h
      simp [ih h.2]

theorem zKind_rep {w : World} {en : En} {k : CK} {v : Value} (h : zKind k v = true) : CellRep w en k.zeroC v ∧ RepD w en.K k.zeroD v ∧ DeepD w k.zeroD v (fun _ _ => False) := by
  unfold zKind at h
  split at h
  case h_1 k k' n =>
    simp only [Bool.and_eq_true] at h
    obtain rfl := kind_inj h.1
    obtain ⟨_, h2⟩ := h
    split at h2
    · have hw : (Lit.int k 0).wf = true := by cases k <;> rfl
      exact ⟨.c (.int hw), .int hw, .int hw⟩
    · cases h2
  case h_2 b =>
    cases b
    · exact ⟨.c .bool, .bool, .bool⟩
    · cases h
  case h_3 s =>
    have : s = ⟨#[]⟩ := by
      cases s with
      | mk d =>
        have h0 : d.size = 0 := by simpa using h
        rw [Array.eq_empty_of_size_eq_zero h0]
    subst this
    exact ⟨.c (.str (s := []) (by simp)), .str (s := []) (by simp), .str (s := []) (by simp)⟩
  case h_4 => exact ⟨.nil, .nil, .nil⟩
  case h_5 => cases h

theorem zKinds_rep {w : World} {en : En} {ks : List CK} {vs : List Value} (h : zKinds ks vs = true) :
    ∀ (j : Nat) (k : CK), ks[j]? = some k → ∃ v, vs[j]? = some v ∧ CellRep w en k.zeroC v ∧ RepD w en.K k.zeroD v ∧ DeepD w k.zeroD v (fun _ _ => False) := by
  induction ks generalizing vs with
  | nil => intro j k hj; simp at hj
  | cons k ks ih =>
    cases vs with
    | nil => cases h
    | cons v vs =>
      simp only [zKinds, Bool.and_eq_true] at h
      intro j k' hj
      cases j with
      | zero =>
        simp only [List.getElem?_cons_zero, Option.some.injEq] at hj
        subst hj
        exact ⟨v, rfl, zKind_rep h.1⟩
      | succ j =>
        simp only [List.getElem?_cons_succ] at hj ⊢
        exact ih h.2 j k' hj

theorem run_isAgg {P : Program} {T : TypeId} {d : TypeDesc} (h : P.underlying T = some d) (w : World) : (isAgg T).run P w = .ok (isAggT P T) w := by
  unfold isAgg isAggT
  rw [Sem.run_bind, run_underlying h w, h]
  simp only [Result.andThen_ok]
  cases d <;> rfl

theorem run_sizeOf' {P : Program} {T : TypeId} {i : TypeInfo} (h : P.info? T = some i) (w : World) : (sizeOf T).run P w = .ok i.size w := by
  simp [sizeOf, typeInfo, h]

theorem add_none (b o i : Nat) : (⟨b, o, none⟩ : Addr).add i = ⟨b, o + i, none⟩ := by unfold Addr.add; split <;> simp_all

/-- A variable is read. -/
theorem run_loadAt {P : Program} {T : TypeId} {ks : List CK} (h : layD P T = some ks) {w : World} {b o : Nat} {us : List Value} (hl : us.length = ks.length)
    (hc : ∀ j v, us[j]? = some v → w.cell? ⟨b, o + j, none⟩ = some v) :
    (Instr.loadAt T (.pointer (some ⟨b, o, none⟩))).run P w = .ok (if isAggT P T then .agg us.toArray else us.headD undef) w := by
  obtain ⟨i, d, hi, hs, hp, hu, ha⟩ := layD_spec h
  have hlc := run_loadCells_list (P := P) w ⟨b, o, none⟩ us (fun j v hj => by rw [add_none]; exact hc j v hj)
  rw [hl, ← hs] at hlc
  show (do loadVar T (← Instr.sureAddr (.pointer (some ⟨b, o, none⟩)))).run P w = _
  unfold Instr.sureAddr loadVar
  simp only [pure_bind, Sem.run_bind, run_isAgg hu, Result.andThen_ok]
  cases hA : isAggT P T with
  | true =>
    simp only [if_true, Sem.run_bind, run_sizeOf' hi, Result.andThen_ok, hlc]
    rfl
  | false =>
    obtain ⟨k, rfl⟩ := ha hA
    match us, hl with
    | [u], _ =>
      have := hc 0 u rfl
      simp only [Bool.false_eq_true, if_false, List.headD_cons]
      simp [load, Sem.run]
      rw [Nat.add_zero] at this
      rw [this]

end Go.Gl
