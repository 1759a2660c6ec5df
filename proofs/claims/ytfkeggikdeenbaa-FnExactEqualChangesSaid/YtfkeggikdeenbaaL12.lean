/- Each operation of the model does what the logic's machine says: variables read and written, structs built. -/
import Derived.Test.YtfkeggikdeenbaaL11
set_option linter.unusedVariables false
set_option linter.unusedSimpArgs false
namespace Go.Gl
open Go.RowKit

section
variable {P : Program} {en : En} {st : St} {Fr : Nat → Prop} {a : Act} {w w' w0 : World} {W X : CS} {K0 : Kb} {o : Oper} {f : Nat}

theorem cells_mid {cs : List Cell} {arr : Array Value} (h : CellsRep w en cs arr) {off n : Nat} (hn : off + n ≤ cs.length) : CellsRep w en ((cs.drop off).take n) ((arr.toList.drop off).take n).toArray := by
  refine ⟨by simp only [List.size_toArray, List.length_take, List.length_drop, Array.length_toList, h.1], fun j c hj => ?_⟩
  rw [List.getElem?_take] at hj
  split at hj
  · rename_i hlt
    rw [List.getElem?_drop] at hj
    obtain ⟨u, h1, h2⟩ := h.2 _ c hj
    refine ⟨u, ?_, h2⟩
    simp only [List.getElem?_toArray, List.getElem?_take, List.getElem?_drop, hlt, if_true, Array.getElem?_toList, h1]
  · cases hj

theorem valRep_of {T : TypeId} {ks : List CK} (h : layD P T = some ks) {cs : List Cell} {us : List Value} (hl : cs.length = ks.length) (hc : CellsRep w en cs us.toArray) :
    ValRep w en (isAggT P T) cs (if isAggT P T then .agg us.toArray else us.headD undef) := by
  obtain ⟨i, d, hi, hs, hp, hu, ha⟩ := layD_spec h
  cases hA : isAggT P T with
  | true => exact .agg hc
  | false =>
    obtain ⟨k, rfl⟩ := ha hA
    match cs, hl with
    | [c], _ =>
      obtain ⟨u, h1, h2⟩ := hc.2 0 c rfl
      match us, h1 with
      | u' :: _, h1 =>
        obtain rfl : u' = u := by simpa using h1
        exact .one h2

theorem mem_drop_take {α : Type} {l : List α} {off n : Nat} {x : α} (h : x ∈ (l.drop off).take n) : x ∈ l := List.mem_of_mem_drop (List.mem_of_mem_take h)

theorem sound_load_lp (r : RelE en st Fr a w w0 W K0) (hd : ∀ d, o.dst = some d → d < st.n) {T : TypeId} {x : Operand} (ho : o.op = .load T x) {ks : List CK} (hk : layD P T = some ks) {b off : Nat} {cs : List Cell} (hx : st.ev x = .lp b off) (hb : st.box b = some cs) (hle : off + ks.length ≤ cs.length) :
    Goes P o a w (After en Fr (st.apps (ret o (.v (isAggT P T) ((cs.drop off).take ks.length)))) (fun k => Fr k ∧ k ≠ f) w0 W K0) := by
  have hxr := r.ev x
  rw [hx] at hxr
  generalize he : a.eval x = v at hxr
  cases hxr
  obtain ⟨arr, T', hh, hrep⟩ := r.boxes b cs hb
  have hlen : ((arr.toList.drop off).take ks.length).length = ks.length := by
    simp only [List.length_take, List.length_drop, Array.length_toList, hrep.1]; omega
  have hrun := run_loadAt hk (w := w) (b := en.FB b) (o := off) hlen fun j v hj => by
    rw [List.getElem?_take] at hj
    split at hj
    · rw [List.getElem?_drop, Array.getElem?_toList] at hj
      rw [cell?_cells hh]; exact hj
    · cases hj
  have hv := valRep_of hk (cs := (cs.drop off).take ks.length) (by simp only [List.length_take, List.length_drop]; omega) (cells_mid hrep hle)
  refine goes_value r hd ?_ (.v hv) fun k hk' hm => ?_
  · simp only [execOp, ho, he, Sem.run_bind, hrun, Result.andThen_ok]; rfl
  · obtain ⟨c, hc, hcm⟩ := hm
    exact r.free.cell k hk' b cs hb ⟨c, mem_drop_take hc, hcm⟩

theorem cmen_map {ds : List D} {k : Nat} : ¬ cellsMen k (ds.map Cell.c) := by
  rintro ⟨c, hc, hm⟩
  obtain ⟨d, _, rfl⟩ := List.mem_map.1 hc
  exact hm

/-- Cells of a row, read as data. -/
theorem row_load {T : TypeId} {ks : List CK} (hk : layD P T = some ks) {row ds : List D} {off : Nat} (hds : (row.drop off).take ks.length = ds) (hl : ds.length = ks.length) {b o1 : Nat} (g : Nat → Value)
    (hc : ∀ j d, row[j]? = some d → w.cell? ⟨b, o1 + j, none⟩ = some (g j) ∧ RepD w en.K d (g j)) :
    ∃ v, (Instr.loadAt T (.pointer (some ⟨b, o1 + off, none⟩))).run P w = .ok v w ∧ ValRep w en (isAggT P T) (ds.map Cell.c) v := by
  let us := (List.range ks.length).map fun j => g (off + j)
  have hrow : ∀ j d, ds[j]? = some d → row[off + j]? = some d := by
    intro j d hj
    rw [← hds, List.getElem?_take] at hj
    split at hj
    · rw [List.getElem?_drop] at hj; exact hj
    · cases hj
  have hus : us.length = ks.length := by simp [us]
  have hget : ∀ j, j < ks.length → ∃ d, ds[j]? = some d := fun j hj => ⟨ds[j]'(by omega), List.getElem?_eq_getElem (by omega)⟩
  have hrun := run_loadAt hk (w := w) (b := b) (o := o1 + off) hus fun j v hj => by
    have hlt : j < ks.length := by rw [← hus]; exact (List.getElem?_eq_some_iff.1 hj).1
    obtain ⟨d, hd⟩ := hget j hlt
    have := (hc _ d (hrow j d hd)).1
    have e : us[j]? = some (g (off + j)) := by simp [us, hlt]
    rw [e] at hj
    rw [← Option.some.inj hj, Nat.add_assoc]
    exact this
  refine ⟨_, hrun, valRep_of hk (by simp [hl]) ⟨by simp [hus, hl], fun j c hj => ?_⟩⟩
  rw [List.getElem?_map, Option.map_eq_some_iff] at hj
  obtain ⟨d, hd, rfl⟩ := hj
  have hlt : j < ks.length := by rw [← hl]; exact (List.getElem?_eq_some_iff.1 hd).1
  exact ⟨g (off + j), by simp [us, hlt], .c (hc _ d (hrow j d hd)).2⟩

theorem sound_load_cp (r : RelE en st Fr a w w0 W K0) (hd : ∀ d, o.dst = some d → d < st.n) {T : TypeId} {x : Operand} (ho : o.op = .load T x) {ks : List CK} (hk : layD P T = some ks) {xs : List (List D)} {i off : Nat} (hx : st.ev x = .cp xs i off)
    {ds : List D} (hds : ((xs.getD i []).drop off).take ks.length = ds) (hl : ds.length = ks.length) :
    Goes P o a w (After en Fr (st.apps (ret o (.v (isAggT P T) (ds.map Cell.c)))) (fun k => Fr k ∧ k ≠ f) w0 W K0) := by
  have hxr := r.ev x
  rw [hx] at hxr
  generalize he : a.eval x = v at hxr
  cases hxr with
  | cp h1 h2 h3 =>
    rename_i B cap ad row
    have hg : xs.getD i [] = row := by simp [List.getD, h2]
    rw [hg] at hds
    have h1' := h1
    generalize hn : xs.length = n at h1
    cases h1 with
    | nil => simp at h2
    | sl e g hs hb hm hn' hx' hc hr =>
      have hee : row.length = e := hx' i row h2
      obtain ⟨v, hrun, hv⟩ := row_load (en := en) (w := w) hk hds hl (b := ad.block) (o1 := ad.off + i * row.length) (g i) fun j d hj => by
        have := hc i j row d h2 hj
        rw [← hee] at this
        exact ⟨by rw [Nat.add_assoc]; exact this.2, hr i j row d h2 hj⟩
      rw [Nat.add_assoc] at hrun
      refine goes_value r hd ?_ (.v hv) fun k _ => cmen_map
      simp only [execOp, ho, he, Sem.run_bind, hrun, Result.andThen_ok]; rfl

theorem TokRep.cells {K : CS} {t : Tok} {v : Value} {F : CS} (h : TokRep w K t v F) : ∃ g : Nat → Nat → Value, ∀ b n cap, v = .slice (some ⟨b, 0, none⟩) n cap → ∀ i row j d, t.xs[i]? = some row → row[j]? = some d → row.length = t.e ∧ w.cell? ⟨b, i * t.e + j, none⟩ = some (g i j) ∧
    ((t.L < 3 → RepD w K d (g i j)) ∧ ∃ G, (t.L = 3 → DeepD w d (g i j) G)) := by
  cases h with
  | nil => exact ⟨fun _ _ => undef, fun b n cap hv => by cases hv⟩
  | one f hh hz hn hcm hb hx hc hk' hr =>
    refine ⟨f, fun b n cap hv i row j d h1 h2 => ?_⟩
    injection hv with e1; injection e1 with e1; injection e1 with e1; subst e1
    exact ⟨hx i row h1, by rw [cell?_cells hh]; exact hc i j row d h1 h2, fun _ => hr i j row d h1 h2, fun _ _ => False, fun h => by simp at h⟩
  | two f hh hz hn hcm hb hx hc hr =>
    refine ⟨f, fun b n cap hv i row j d h1 h2 => ?_⟩
    injection hv with e1; injection e1 with e1; injection e1 with e1; subst e1
    exact ⟨hx i row h1, by rw [cell?_cells hh]; exact hc i j row d h1 h2, fun _ => hr i j row d h1 h2, fun _ _ => False, fun h => by simp at h⟩
  | three f G hh hz hn hcm hb hx hc hr hg hd =>
    refine ⟨f, fun b n cap hv i row j d h1 h2 => ?_⟩
    injection hv with e1; injection e1 with e1; injection e1 with e1; subst e1
    exact ⟨hx i row h1, by rw [cell?_cells hh]; exact hc i j row d h1 h2, fun h => by simp at h, G i j, fun _ => hr i j row d h1 h2⟩

theorem DeepD.scal {d : D} {v : Value} {F : CS} (h : DeepD w d v F) (hs : d.scal = true) (K : CS) : RepD w K d v := by
  cases h with
  | int h => exact .int h
  | bool => exact .bool
  | str h => exact .str h
  | nil => cases hs
  | sl => cases hs

theorem sound_load_ep (r : RelE en st Fr a w w0 W K0) (hd : ∀ d, o.dst = some d → d < st.n) {T : TypeId} {x : Operand} (ho : o.op = .load T x) {ks : List CK} (hk : layD P T = some ks) {t i off : Nat} {tk : Tok} (hx : st.ev x = .ep t i off) (ht : st.tok t = some tk)
    {ds : List D} (hds : ((tk.xs.getD i []).drop off).take ks.length = ds) (hl : ds.length = ks.length) (hL : tk.L < 3 ∨ (tk.L = 3 ∧ ∀ d ∈ ds, d.scal = true)) :
    Goes P o a w (After en Fr (st.apps (ret o (.v (isAggT P T) (ds.map Cell.c)))) (fun k => Fr k ∧ k ≠ f) w0 W K0) := by
  have hxr := r.ev x
  rw [hx] at hxr
  generalize he : a.eval x = v at hxr
  cases hxr with
  | ep h1 =>
    obtain ⟨hi, b, n, cap, hv, rfl⟩ := h1 tk ht
    have hgi : tk.xs[i]? = some tk.xs[i] := List.getElem?_eq_getElem hi
    have hg : tk.xs.getD i [] = tk.xs[i] := by simp [List.getD, hi]
    rw [hg] at hds
    obtain ⟨g, hcell⟩ := (r.toks t tk ht).cells
    -- the cells that are loaded alone are told
    have hrow : ∀ j d, ds[j]? = some d → tk.xs[i][off + j]? = some d := by
      intro j d hj
      rw [← hds, List.getElem?_take] at hj
      split at hj
      · rw [List.getElem?_drop] at hj; exact hj
      · cases hj
    let us := (List.range ks.length).map fun j => g i (off + j)
    have hus : us.length = ks.length := by simp [us]
    have hget : ∀ j, j < ks.length → ∃ d, ds[j]? = some d := fun j hj => ⟨ds[j]'(by omega), List.getElem?_eq_getElem (by omega)⟩
    have hrun := run_loadAt hk (w := w) (b := b) (o := i * tk.e + off) hus fun j v hj => by
      have hlt : j < ks.length := by rw [← hus]; exact (List.getElem?_eq_some_iff.1 hj).1
      obtain ⟨d, hd'⟩ := hget j hlt
      have := (hcell b n cap hv i _ _ d hgi (hrow j d hd')).2.1
      have e : us[j]? = some (g i (off + j)) := by simp [us, hlt]
      rw [e] at hj
      rw [← Option.some.inj hj, Nat.add_assoc]
      exact this
    have hval : ValRep w en (isAggT P T) (ds.map Cell.c) (if isAggT P T then .agg us.toArray else us.headD undef) := by
      refine valRep_of hk (by simp [hl]) ⟨by simp [hus, hl], fun j c hj => ?_⟩
      rw [List.getElem?_map, Option.map_eq_some_iff] at hj
      obtain ⟨d, hd', rfl⟩ := hj
      have hlt : j < ks.length := by rw [← hl]; exact (List.getElem?_eq_some_iff.1 hd').1
      refine ⟨g i (off + j), by simp [us, hlt], .c ?_⟩
      obtain ⟨_, _, h3, G, h4⟩ := hcell b n cap hv i _ _ d hgi (hrow j d hd')
      rcases hL with hL | ⟨hL, hsc⟩
      · exact h3 hL
      · exact (h4 hL).scal (hsc d (List.mem_of_getElem? hd')) _
    refine goes_value r hd ?_ (.v hval) fun k _ => cmen_map
    simp only [execOp, ho, he, Sem.run_bind, hrun, Result.andThen_ok]; rfl

theorem oneCell_list {cs : List Cell} {arr : Array Value} (h : CellsRep w en cs arr) : ∀ u ∈ arr.toList, u.oneCell' = true := by
  intro u hu
  obtain ⟨j, hj⟩ := List.mem_iff_getElem?.1 hu
  have hlt : j < arr.size := by simpa using (List.getElem?_eq_some_iff.1 hj).1
  obtain ⟨u', h1, h2⟩ := h.2 j (cs[j]'(by rw [← h.1]; exact hlt)) (List.getElem?_eq_getElem _)
  have hj' : arr[j]? = some u := by simpa using hj
  rw [h1] at hj'
  obtain rfl := Option.some.inj hj'
  exact h2.oneCell

theorem cells_splice {cs new : List Cell} {arr brr : Array Value} (h : CellsRep w en cs arr) (h' : CellsRep w en new brr) {off : Nat} (hle : off + new.length ≤ cs.length) :
    CellsRep w en (splice cs off new) (arr.toList.take off ++ brr.toList ++ arr.toList.drop (off + brr.toList.length)).toArray := by
  have hb : brr.toList.length = new.length := by rw [Array.length_toList]; exact h'.1
  refine ⟨?_, fun j c hj => ?_⟩
  · simp only [splice, List.size_toArray, List.length_append, List.length_take, List.length_drop, Array.length_toList, h.1, h'.1]
  · unfold splice at hj
    simp only [List.getElem?_toArray]
    have hlt : (cs.take off).length = off := by simp only [List.length_take]; omega
    have hlt2 : (arr.toList.take off).length = off := by simp only [List.length_take, Array.length_toList, h.1]; omega
    by_cases h1 : j < off
    · rw [List.append_assoc, List.getElem?_append_left (by omega), List.getElem?_take, if_pos h1] at hj
      obtain ⟨u, e1, e2⟩ := h.2 j c hj
      refine ⟨u, ?_, e2⟩
      rw [List.append_assoc, List.getElem?_append_left (by omega), List.getElem?_take, if_pos h1, Array.getElem?_toList]
      exact e1
    · rw [List.append_assoc, List.getElem?_append_right (by omega), hlt] at hj
      rw [List.append_assoc, List.getElem?_append_right (by omega), hlt2]
      by_cases h2 : j - off < new.length
      · rw [List.getElem?_append_left h2] at hj
        rw [List.getElem?_append_left (by omega), Array.getElem?_toList]
        exact h'.2 _ c hj
      · rw [List.getElem?_append_right (by omega), List.getElem?_drop] at hj
        rw [List.getElem?_append_right (by omega), List.getElem?_drop, Array.getElem?_toList]
        have e : off + brr.toList.length + (j - off - brr.toList.length) = off + new.length + (j - off - new.length) := by omega
        rw [e]
        exact h.2 _ c hj

theorem splice_men {cs new : List Cell} {off k : Nat} (h : cellsMen k (splice cs off new)) : cellsMen k cs ∨ cellsMen k new := by
  obtain ⟨c, hc, hm⟩ := h
  unfold splice at hc
  rcases List.mem_append.1 hc with hc | hc
  · rcases List.mem_append.1 hc with hc | hc
    · exact .inl ⟨c, List.mem_of_mem_take hc, hm⟩
    · exact .inr ⟨c, hc, hm⟩
  · exact .inl ⟨c, List.mem_of_mem_drop hc, hm⟩

theorem Unch.setRow {w : World} {g : Nat} {cur new : Array Value} {T : TypeId} {fr : Nat × Nat} (h : w.heap[g]? = some (.cells cur T fr)) (hz : new.size = cur.size) {X : CS} (hx : ∀ j, ¬ X g j → new[j]? = cur[j]?) : Unch w (w.setRow g new) X := by
  refine ⟨rfl, rfl, rfl, by simp, fun k o hk => ?_⟩
  by_cases e : k = g
  · subst e
    rw [h] at hk
    obtain rfl := Option.some.inj hk
    exact ⟨_, setRow_heap w k cur new T fr h, .inr ⟨cur, new, T, fr, rfl, rfl, hz, hx⟩⟩
  · exact ⟨o, by rw [setRow_other w g k new e]; exact hk, .refl _ _⟩

theorem sound_store_lp (r : RelE en st Fr a w w0 W K0) (hd : ∀ d, o.dst = some d → d < st.n) {T : TypeId} {x y : Operand} (ho : o.op = .store T x y) {ks : List CK} (hk : layD P T = some ks) {b off : Nat} {cs new : List Cell} (hx : st.ev x = .lp b off) (hb : st.box b = some cs)
    (hy : (st.ev y).cells = some new) (hl : new.length = ks.length) (hle : off + ks.length ≤ cs.length) :
    Goes P o a w (After en Fr (st.apps (.box b (splice cs off new) :: ret o .any)) (fun k => Fr k ∧ k ≠ f) w0 W K0) := by
  have hxr := r.ev x
  rw [hx] at hxr
  generalize he : a.eval x = v at hxr
  cases hxr
  obtain ⟨hyc, hy1⟩ := slot_cells (r.ev y) hy
  obtain ⟨arr, T', hh, hrep⟩ := r.boxes b cs hb
  have hrun := run_storeAt hk (w := w) hh (v := a.eval y) (o := off) (by rw [hyc.1]; exact hl) (by rw [hrep.1]; exact hle) hy1
  have hsp := cells_splice hrep hyc (off := off) (by omega)
  have hu : Unch w (w.setRow (en.FB b) (arr.toList.take off ++ (a.eval y).cells.toList ++ arr.toList.drop (off + (a.eval y).cells.toList.length)).toArray) fun g _ => g = en.FB b :=
    Unch.setRow hh (by rw [hsp.1, hrep.1]; unfold splice; simp only [List.length_append, List.length_take, List.length_drop]; omega) fun j hj => absurd rfl hj
  have hK : ∀ g o', en.K g o' → ¬ (g = en.FB b) := fun g o' h e => r.kb b cs hb o' (e ▸ h)
  have r1 := r.setBox (cs' := splice cs off new) hb hu ⟨_, T', setRow_heap w _ arr _ T' _ hh, hu.cellsRep hK hsp⟩ fun k hk' hm => (splice_men hm).elim (r.free.cell k hk' b cs hb) fun hm => r.ev_free y k hk' (slot_cells_men hy hm)
  refine ⟨_, undef, .inr ⟨rfl, ?_⟩, en, (r1.ret o (by intro d h; exact hd d h) .any fun _ _ h => h).fewer fun _ h => h.1, fun _ _ => rfl⟩
  simp only [execOp, ho, he, Sem.run_bind, hrun, Result.andThen_ok]
  rfl

end
end Go.Gl
