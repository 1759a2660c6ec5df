/- Structs and slices are built. -/
import Derived.Test.YtfkeggikdeenbaaL13
import Derived.Great.FillDense
import Derived.Laws.Tables
set_option linter.unusedVariables false
set_option linter.unusedSimpArgs false
namespace Go.Gl
open Go.RowKit

theorem sliceT_spec {P : Program} {T E e B : Nat} (h : sliceT P T = some (E, e, B)) : P.underlying T = some (.slice E) ∧ ∃ i, P.info? E = some i ∧ i.size = e ∧ i.bytes = B := by
  unfold sliceT at h
  split at h
  · rename_i E' hu
    split at h
    · rename_i i hi
      obtain ⟨rfl, rfl, rfl⟩ : E' = E ∧ i.size = e ∧ i.bytes = B := by simpa using h
      exact ⟨hu, i, hi, rfl, rfl⟩
    · cases h
  · cases h

theorem info_of_under {P : Program} {T : TypeId} {d : TypeDesc} (h : P.underlying T = some d) : ∃ i, P.info? T = some i := by
  unfold Program.underlying at h
  cases hi : P.info? T with
  | none => rw [hi] at h; cases h
  | some i => exact ⟨i, rfl⟩

theorem layFs_info {P : Program} {n : Nat} : ∀ {fs : List Field} {ks : List CK}, layFs (lay P n) fs = some ks → fs.mapM (fun f => (P.info? f.type).map fun i => (f.offset, i.size)) = some (placesOf P fs)
  | [], _, _ => rfl
  | f :: fs, ks, h => by
    unfold layFs at h
    cases h1 : lay P n f.type with
    | none => rw [h1] at h; cases h
    | some x =>
      cases h2 : layFs (lay P n) fs with
      | none => rw [h1, h2] at h; cases h
      | some y =>
        obtain ⟨d, hd, _⟩ := lay_agg h1
        obtain ⟨i, hi⟩ := info_of_under hd
        have hc : P.cellsOf f.type = i.size := by unfold Program.cellsOf; rw [hi]; rfl
        simp [List.mapM_cons, hi, layFs_info h2, placesOf, hc]

theorem layD_struct {P : Program} {T : TypeId} {ks : List CK} {fs : Array Field} (h : layD P T = some ks) (hu : P.underlying T = some (.struct fs)) :
    fs.toList.mapM (fun f => (P.info? f.type).map fun i => (f.offset, i.size)) = some (placesOf P fs.toList) := by
  unfold layD at h
  split at h
  · rename_i ks' hl
    unfold lay at hl
    rw [hu] at hl
    exact layFs_info hl
  · cases h

section
variable {P : Program} {en : En} {st : St} {Fr : Nat → Prop} {a : Act} {w w' w0 : World} {W X : CS} {K0 : Kb} {o : Oper} {f : Nat}

theorem fill_spec (pl : Nat → Option (Nat × Nat)) (places : List (Nat × Nat)) (hpl : ∀ i, pl i = places[i]?) (r : RelE en st Fr a w w0 W K0) : ∀ (parts : List (Nat × Operand)) (cs cs' : List Cell) (arr : Array Value),
    fillParts P places (parts.map fun p => (p.1, st.ev p.2)) cs = some cs' → CellsRep w en cs arr → (∀ i, Fr i → ¬ cellsMen i cs) →
    ∃ arr', Instr.fill pl arr (parts.map fun p => (p.1, a.eval p.2)) = some arr' ∧ CellsRep w en cs' arr' ∧ ∀ i, Fr i → ¬ cellsMen i cs'
  | [], cs, cs', arr, h, hc, hm => by
    have : some cs = some cs' := by cases places <;> exact h
    obtain rfl := Option.some.inj this
    exact ⟨arr, rfl, hc, hm⟩
  | (i, x) :: parts, cs, cs', arr, h, hc, hm => by
    simp only [List.map_cons, fillParts] at h
    cases h1 : places[i]? with
    | none => rw [h1] at h; cases h
    | some p =>
      obtain ⟨off, size⟩ := p
      cases h2 : (st.ev x).cells with
      | none => rw [h1, h2] at h; cases h
      | some new =>
        rw [h1, h2] at h
        simp only at h
        cases h3 : (Nat.beq new.length size && Nat.ble (off + size) cs.length) with
        | false => rw [h3] at h; cases h
        | true =>
          rw [h3] at h
          simp only [Bool.and_eq_true] at h3
          have e1 := Nat.eq_of_beq_eq_true h3.1
          have e2 := Nat.le_of_ble_eq_true h3.2
          obtain ⟨hy, _⟩ := slot_cells (r.ev x) h2
          have hsp := cells_splice hc hy (off := off) (by omega)
          have hm' : ∀ i, Fr i → ¬ cellsMen i (splice cs off new) := fun i hi hmm => (splice_men hmm).elim (hm i hi) fun hmm => r.ev_free x i hi (slot_cells_men h2 hmm)
          obtain ⟨arr', g1, g2, g3⟩ := fill_spec pl places hpl r parts _ cs' _ h hsp hm'
          refine ⟨arr', ?_, g2, g3⟩
          have hfold : (a.eval x).cells.zipIdx.foldl (fun cs (x : Value × Nat) => cs.setIfInBounds (off + x.2) x.1) arr = (arr.toList.take off ++ (a.eval x).cells.toList ++ arr.toList.drop (off + (a.eval x).cells.toList.length)).toArray := by
            rw [← Array.foldl_toList, Array.toList_zipIdx]
            obtain ⟨q1, q2⟩ := Great.foldl_set off (a.eval x).cells.toList 0 arr
            have hlen : (a.eval x).cells.toList.length = new.length := by rw [Array.length_toList]; exact hy.1
            apply Array.ext_getElem?
            intro k
            rw [q2 k]
            simp only [List.getElem?_toArray, Nat.add_zero]
            have hlt2 : (arr.toList.take off).length = off := by simp only [List.length_take, Array.length_toList, hc.1]; omega
            by_cases h1 : k < off
            · rw [if_neg (by omega), List.append_assoc, List.getElem?_append_left (by omega), List.getElem?_take, if_pos h1, Array.getElem?_toList]
            · rw [List.append_assoc, List.getElem?_append_right (by omega), hlt2]
              by_cases h2 : k - off < (a.eval x).cells.toList.length
              · rw [if_pos ⟨by omega, by omega, by rw [hc.1]; omega⟩, List.getElem?_append_left h2]
              · rw [if_neg (by omega), List.getElem?_append_right (by omega), List.getElem?_drop, Array.getElem?_toList]
                congr 1
                omega
          simp only [List.map_cons, Instr.fill, hpl, h1, hy.1, hc.1]
          rw [if_neg (by simp; omega)]
          have : (a.eval x).cells.zipIdx.foldl (fun cs x => match x with | (c, j) => cs.setIfInBounds (off + j) c) arr = _ := hfold
          rw [this]
          exact g1

theorem zero_rep {T : TypeId} {cs : List Cell} (hc : zeroCellsT P T = some cs) : ∃ ks i z, layD P T = some ks ∧ P.info? T = some i ∧ i.zero = some z ∧ (∀ (w : World) (en : En), CellsRep w en cs z.cells) ∧ ∀ k, ¬ cellsMen k cs := by
  unfold zeroCellsT at hc
  cases hz : layZ P T with
  | none => rw [hz] at hc; cases hc
  | some ks =>
    rw [hz] at hc
    obtain rfl := Option.some.inj hc
    obtain ⟨hl, i, z, hi, hzz, hk⟩ := layZ_spec hz
    have hlen := zKinds_length hk
    refine ⟨ks, i, z, hl, hi, hzz, fun w en => ⟨by simpa using hlen, fun j c hj => ?_⟩, ?_⟩
    · rw [List.getElem?_map, Option.map_eq_some_iff] at hj
      obtain ⟨k, hk1, rfl⟩ := hj
      obtain ⟨v, hv, h1, _⟩ := zKinds_rep (w := w) (en := en) hk j k hk1
      exact ⟨v, by simpa using hv, h1⟩
    · rintro k ⟨c, hc, hm⟩
      obtain ⟨x, _, rfl⟩ := List.mem_map.1 hc
      cases x <;> exact hm

theorem sound_build (r : RelE en st Fr a w w0 W K0) (hd : ∀ d, o.dst = some d → d < st.n) {T : TypeId} {parts : Array (Nat × Operand)} (ho : o.op = .build T parts) {fs : Array Field} (hu : P.underlying T = some (.struct fs))
    {z cs : List Cell} (hz : zeroCellsT P T = some z) (hc : fillParts P (placesOf P fs.toList) (parts.toList.map fun p => (p.1, st.ev p.2)) z = some cs) :
    Goes P o a w (After en Fr (st.apps (ret o (.v true cs))) (fun k => Fr k ∧ k ≠ f) w0 W K0) := by
  obtain ⟨ks, i, zv, hl, hi, hzz, hrep, hmen⟩ := zero_rep hz
  obtain ⟨arr, h1, h2, h3⟩ := fill_spec (P := P) ((placesOf P fs.toList).toArray[·]?) (placesOf P fs.toList) (by simp) r parts.toList z cs zv.cells hc (hrep w en) fun k _ => hmen k
  refine goes_value r hd (v := .agg arr) ?_ (.v (.agg h2)) fun k hk hm => h3 k hk hm
  have hb : P.built T (parts.map fun p => (p.1, a.eval p.2)).toList = some arr := by
    unfold Program.built
    rw [hi, hu]
    simp only [hzz, layD_struct hl hu, Array.toList_map]
    exact h1
  have hrun := run_build w T _ arr hb
  simp only [execOp, ho, Sem.run_bind, hrun, Result.andThen_ok]
  rfl

theorem made_get {z : Array Value} {n e i j : Nat} (hz : z.size = e) (hi : i < n) (hj : j < e) : (madeCells z (n * e))[i * e + j]? = z[j]? := by
  have hlt := idx_lt hi hj
  have hm : (i * e + j) % e = j := by rw [Nat.mul_comm, Nat.mul_add_mod]; exact Nat.mod_eq_of_lt hj
  have hjz : j < z.size := by omega
  have : (madeCells z (n * e))[i * e + j]? = some z[j]! := by simp [madeCells, hlt, hz, hm]
  rw [this, getElem!_pos z j hjz, Array.getElem?_eq_getElem hjz]

/-- A new slice in slot and token. -/
theorem finish {en' : En} {st' : St} {v : Value} {q : Tok} (r1 : RelE en' (st'.app (.tok f (some q))) (fun k => Fr k ∧ k ≠ f) a w' w0 W K0) (hn : st'.n = st.n) (hd : ∀ d, o.dst = some d → d < st.n) (hf : Fr f)
    (hv : en'.VT f = v) (h1 : v.oneCell' = true) (hfb : ∀ k, ¬ Fr k → en'.FB k = en.FB k) (hrun : (execOp a.eval o).run P w = .ok (.value v) w') :
    Goes P o a w (After en Fr ((st'.app (.tok f (some q))).apps (ret o (.v false [.tk f]))) (fun k => Fr k ∧ k ≠ f) w0 W K0) := by
  refine ⟨w', v, .inl hrun, en', r1.ret o (fun d h => by rw [app_n, hn]; exact hd d h) ?_ ?_, hfb⟩
  · subst hv; exact .v (.one (.tk h1))
  · rintro k ⟨_, hk⟩ ⟨c, hc, hm⟩
    simp at hc; subst hc; exact hk hm.symm

theorem sound_makeSlice (r : RelE en st Fr a w w0 W K0) (hd : ∀ d, o.dst = some d → d < st.n) (hf : Fr f) {T : TypeId} {x y : Operand} (ho : o.op = .makeSlice T x y) {E e B : Nat} (hT : sliceT P T = some (E, e, B)) {ks : List CK} (hk : layZ P E = some ks)
    (hB : 0 < B) (he : ks.length = e) {n : Int} (hx : st.ev x = .v false [.c (.int .i64 n)]) (hy : st.ev y = .v false [.c (.int .i64 n)]) (h0 : 0 ≤ n) (hb : n * B ≤ capB) :
    Goes P o a w (After en Fr (st.apps (.tok f (some ⟨3, E, e, B, List.replicate n.toNat (ks.map CK.zeroD)⟩) :: ret o (.v false [.tk f]))) (fun k => Fr k ∧ k ≠ f) w0 W K0) := by
  obtain ⟨hu, i, hi, hs, hby⟩ := sliceT_spec hT
  obtain ⟨hl, i', z, hi', hz, hkk⟩ := layZ_spec hk
  rw [hi] at hi'
  obtain rfl := Option.some.inj hi'
  have hlen : z.cells.size = e := by have := zKinds_length hkk; rw [Array.length_toList] at this; omega
  have hxr := r.ev x
  have hyr := r.ev y
  rw [hx] at hxr
  rw [hy] at hyr
  obtain ⟨e1, _⟩ := hxr.int_inv
  obtain ⟨e2, _⟩ := hyr.int_inv
  have hnb : n.toNat * B ≤ capB := by
    have : ((n.toNat * B : Nat) : Int) ≤ capB := by rw [Int.natCast_mul, Int.toNat_of_nonneg h0]; exact hb
    exact_mod_cast this
  have hn47 : n.toNat ≤ 140737488355328 := by
    have : n.toNat * 1 ≤ n.toNat * B := Nat.mul_le_mul_left _ hB
    unfold capB at hnb; omega
  have hrun := run_make (P := P) w T E i z hu hi hz .i64 .i64 n n h0 (Int.le_refl _) (by rw [hby, Int.mul_comm]; unfold capB at hb; omega) (by omega)
  obtain ⟨FT', r1⟩ := r.newDeep (w := w) hf [] (T := E) (e := e) (B := B) (xs := List.replicate n.toNat (ks.map CK.zeroD)) (cap := n.toNat) (arr := madeCells z.cells (n.toNat * i.size)) (fun _ j => z.cells.getD j undef) (fun _ _ _ _ => False)
    (by rw [size_madeCells, hs]) (by simp) (by unfold maxLen; omega) (by simpa using hnb) (fun k x hx => by
      rw [List.getElem?_replicate] at hx; split at hx
      · obtain rfl := Option.some.inj hx; simp [he]
      · cases hx) (fun k j x d h1 h2 => by
      rw [List.getElem?_replicate] at h1; split at h1
      · rename_i hlt
        obtain rfl := Option.some.inj h1
        have hj : j < e := by have := (List.getElem?_eq_some_iff.1 h2).1; simpa [he] using this
        rw [hs, made_get hlen hlt hj]
        have : j < z.cells.size := by omega
        simp [this]
      · cases h1) (fun k j x d h1 h2 => by
      rw [List.getElem?_replicate] at h1; split at h1
      · obtain rfl := Option.some.inj h1
        rw [List.getElem?_map, Option.map_eq_some_iff] at h2
        obtain ⟨k', hk1, rfl⟩ := h2
        obtain ⟨v, hv, _, _, h3⟩ := zKinds_rep (w := w) (en := en) hkk j k' hk1
        have : z.cells.getD j undef = v := by rw [Array.getElem?_toList] at hv; simp [Array.getD_eq_getD_getElem?, hv]
        rw [this]; exact h3
      · cases h1) (fun _ _ _ _ _ _ _ _ h => h.elim) (fun _ _ _ _ _ _ _ _ _ _ _ _ _ _ _ h => h.elim)
  refine finish (st' := st) r1 rfl hd hf (upd_self _ _ _) rfl (fun _ _ => rfl) ?_
  simp only [execOp, ho, e1, e2, Sem.run_bind, hrun, Result.andThen_ok, List.length_replicate]
  rfl

end
end Go.Gl
