/- Slices are written out; a slice's elements are stored. -/
import Derived.Test.YtfkeggikdeenbaaL19
set_option linter.unusedVariables false
set_option linter.unusedSimpArgs false
namespace Go.Gl
open Go.RowKit

theorem flat_ne {α β : Type} {L : List α} {h : α → List β} (hn : (L.flatMap h).Nodup) {p q : Nat} {x y : α} {t : β} (hp : L[p]? = some x) (hq : L[q]? = some y) (hx : t ∈ h x) (hy : t ∈ h y) : p = q := by
  have hn' : List.Pairwise (· ≠ ·) (L.flatMap h) := hn
  have hpw := (List.pairwise_flatMap.1 hn').2
  have hlp := (List.getElem?_eq_some_iff.1 hp)
  have hlq := (List.getElem?_eq_some_iff.1 hq)
  rcases Nat.lt_trichotomy p q with hlt | heq | hlt
  · have := List.pairwise_iff_getElem.1 hpw p q hlp.1 hlq.1 hlt t (by rw [hlp.2]; exact hx) t (by rw [hlq.2]; exact hy)
    exact absurd rfl this
  · exact heq
  · have := List.pairwise_iff_getElem.1 hpw q p hlq.1 hlp.1 hlt t (by rw [hlq.2]; exact hy) t (by rw [hlp.2]; exact hx)
    exact absurd rfl this

section
variable {P : Program} {en : En} {st : St} {Fr : Nat → Prop} {a : Act} {w w' w0 : World} {W K X : CS} {K0 : Kb} {o : Oper} {f : Nat}

theorem rowsOf_spec {tok : Nat → Option Tok} {ks : List CK} : ∀ {parts : List (Nat × Slot)} {n : Nat} {rows : List (List D)} {ts : List Nat} {b : Bool}, rowsOf tok ks n parts = some (rows, ts, b) →
    ∃ css : List (List Cell), css.length = parts.length ∧ rows.length = parts.length ∧ ts = css.flatMap (fun cs => cs.flatMap tokOf) ∧ (b = true → ∀ cs ∈ css, noneConst cs = true) ∧
      (∀ (i : Nat) (p : Nat × Slot), parts[i]? = some p → p.1 = n + i ∧ ∃ cs, css[i]? = some cs ∧ p.2.cells = some cs) ∧
      (∀ (i : Nat) (row : List D), rows[i]? = some row → ∃ cs, css[i]? = some cs ∧ row.length = ks.length ∧ cs.length = ks.length ∧ ∀ (j : Nat) (d : D), row[j]? = some d → ∃ c, cs[j]? = some c ∧ IsD tok c d)
  | [], n, rows, ts, b, h => by
    obtain ⟨rfl, rfl, rfl⟩ : [] = rows ∧ [] = ts ∧ true = b := by simpa [rowsOf] using h
    exact ⟨[], rfl, rfl, rfl, fun _ _ h => (by cases h), fun i p h => (by simp at h), fun i r h => (by simp at h)⟩
  | (i0, s) :: rest, n, rows, ts, b, h => by
    unfold rowsOf at h
    cases h0 : Nat.beq i0 n with
    | false => rw [h0] at h; cases h
    | true =>
      rw [h0] at h
      have hi0 := Nat.eq_of_beq_eq_true h0
      cases h1 : s.cells with
      | none => rw [h1] at h; cases h
      | some cs =>
        cases h2 : cellsToD tok ks cs with
        | none => rw [h1] at h; simp only [h2] at h; cases h
        | some y =>
          obtain ⟨ds, us⟩ := y
          cases h3 : rowsOf tok ks (n + 1) rest with
          | none => rw [h1] at h; simp only [h2, h3] at h; cases h
          | some z =>
            obtain ⟨rs, vs, b'⟩ := z
            rw [h1] at h
            simp only [h2, h3, cond_true] at h
            obtain ⟨rfl, rfl, rfl⟩ : ds :: rs = rows ∧ us ++ vs = ts ∧ (noneConst cs && b') = b := by simpa using h
            obtain ⟨css, a1, a2, a3, a4, a5, a6⟩ := rowsOf_spec h3
            obtain ⟨b1, b2, b3, b4⟩ := cellsToD_spec h2
            refine ⟨cs :: css, by simp [a1], by simp [a2], by simp [a3, b3], fun hb => ?_, fun i p hp => ?_, fun i row hr => ?_⟩
            · rw [Bool.and_eq_true] at hb
              intro c hc
              rcases List.mem_cons.1 hc with rfl | hc
              · exact hb.1
              · exact a4 hb.2 c hc
            · cases i with
              | zero =>
                obtain rfl := Option.some.inj hp
                exact ⟨by simpa using hi0, cs, rfl, h1⟩
              | succ i =>
                obtain ⟨q1, q2⟩ := a5 i p hp
                exact ⟨by omega, q2⟩
            · cases i with
              | zero =>
                obtain rfl := Option.some.inj hr
                exact ⟨cs, rfl, by omega, b2.symm, b4⟩
              | succ i => exact a6 i row hr

theorem zip_map {parts : List (Nat × Operand)} (a : Act) : ∀ {n : Nat}, (∀ (i : Nat) (p : Nat × Operand), parts[i]? = some p → p.1 = n + i) → parts.map (fun p => (p.1, a.eval p.2)) = ((parts.map fun p => a.eval p.2).zipIdx n).map fun x => (x.2, x.1) := by
  induction parts with
  | nil => intro n _; rfl
  | cons p parts ih =>
    intro n h
    simp only [List.map_cons, List.zipIdx_cons]
    rw [ih (n := n + 1) fun i q hq => by have := h (i + 1) q hq; omega]
    have := h 0 p rfl
    simp at this
    rw [this]

/-- What the operation puts into the new row. -/
theorem built_row {T E e B : Nat} (hT : sliceT P T = some (E, e, B)) {ks : List CK} (hk : layZ P E = some ks) (he : ks.length = e) {parts : Array (Nat × Operand)} {n : Nat} (ho : o.op = .buildSlice T n parts) (hn : parts.toList.length = n) (hle : n * e ≤ 16777216)
    (hi : ∀ (i : Nat) (p : Nat × Operand), parts.toList[i]? = some p → p.1 = i) (hc : ∀ p ∈ parts.toList, (a.eval p.2).cells.size = e) :
    ∃ arr : Array Value, (execOp a.eval o).run P w = .ok (.value (.slice (some ⟨w.heap.size, 0, none⟩) n n)) (w.alloc (.cells arr E)) ∧ arr.size = n * e ∧
      ∀ (i : Nat) (p : Nat × Operand) (j : Nat), parts.toList[i]? = some p → j < e → arr[i * e + j]? = (a.eval p.2).cells[j]? := by
  obtain ⟨hu, i0, hi0, hsz, hby⟩ := sliceT_spec hT
  obtain ⟨hl, i', z, hi', hz, hkk⟩ := layZ_spec hk
  rw [hi0] at hi'
  obtain rfl := Option.some.inj hi'
  have hlen : z.cells.size = e := by have := zKinds_length hkk; rw [Array.length_toList] at this; omega
  have hepos : 0 < e := by obtain ⟨_, _, _, _, hp, _⟩ := layD_spec hl; omega
  rcases Nat.eq_zero_or_pos n with rfl | hnp
  · have hp : parts.toList = [] := List.eq_nil_of_length_eq_zero hn
    refine ⟨#[], ?_, by simp, fun i p j h => (by rw [hp] at h; simp at h)⟩
    have hp' : parts = #[] := by rw [← Array.toArray_toList (xs := parts), hp]
    simp only [execOp, ho, hp', Sem.run_bind]
    simp [Instr.buildSlice, run_underlying hu, sizeOf, typeInfo, hi0, Instr.fill, newRow, Array.range_zero']
  · have hz' := zip_map a (parts := parts.toList) (n := 0) fun i p hp => by rw [Nat.zero_add]; exact hi i p hp
    obtain ⟨r, h1, h2, h3⟩ := Great.fill_dense hepos (parts.toList.map fun p => a.eval p.2) 0 (madeCells z.cells (n * e)) (fun v hv => by
      obtain ⟨p, hp, rfl⟩ := List.mem_map.1 hv; exact hc p hp) (by rw [size_madeCells]; simp only [Nat.zero_add, List.length_map]; rw [hn]; exact Nat.le_refl _)
    have hrun := run_buildSlice (P := P) w T E n (parts.map fun p => (p.1, a.eval p.2)) r i0 z hu hi0 hz (by rw [hsz]; omega) (by rw [hsz]; have := Nat.mul_pos hnp hepos; omega) (by
      rw [Array.toList_map, hz', hsz]; exact h1)
    refine ⟨r, ?_, by rw [h2, size_madeCells], fun i p j hp hj => ?_⟩
    · simp only [execOp, ho, Sem.run_bind, hrun, Result.andThen_ok]; rfl
    · have hlt : i < n := by rw [← hn]; exact (List.getElem?_eq_some_iff.1 hp).1
      rw [h3 (i * e + j)]
      have hd : (i * e + j) / e = i := by rw [Nat.mul_comm, Nat.mul_add_div hepos, Nat.div_eq_of_lt hj, Nat.add_zero]
      have hm : (i * e + j) % e = j := by rw [Nat.mul_comm, Nat.mul_add_mod]; exact Nat.mod_eq_of_lt hj
      rw [if_pos ⟨by omega, by simp only [Nat.zero_add, List.length_map]; rw [hn]; exact idx_lt hlt hj⟩, hd, hm, Nat.sub_zero, List.getElem?_map, hp]
      rfl

theorem cellF_ne (r : RelE en st Fr a w w0 W K0) {c c' : Cell} (hc : ∀ t, c = .tk t → ∃ q, st.tok t = some q) (hc' : ∀ t, c' = .tk t → ∃ q, st.tok t = some q) (hne : ∀ t, c = .tk t → c' ≠ .tk t) : ∀ b o, cellF en c b o → ¬ cellF en c' b o := by
  intro b o h1 h2
  cases c with
  | tk t =>
    cases c' with
    | tk t' =>
      obtain ⟨q, hq⟩ := hc t rfl
      obtain ⟨q', hq'⟩ := hc' t' rfl
      exact r.tt t t' q q' hq hq' (fun e => hne t rfl (by rw [e])) b o h1 h2
    | _ => exact h2
  | _ => exact h1

theorem sound_buildSlice (r : RelE en st Fr a w w0 W K0) (hd : ∀ d, o.dst = some d → d < st.n) (hf : Fr f) {T n : Nat} {parts : Array (Nat × Operand)} (ho : o.op = .buildSlice T n parts) {E e B : Nat} (hT : sliceT P T = some (E, e, B)) {ks : List CK} (hk : layZ P E = some ks) (he : ks.length = e)
    {rows : List (List D)} {ts : List Nat} {b : Bool} (hrows : rowsOf st.tok ks 0 (parts.toList.map fun p => (p.1, st.ev p.2)) = some (rows, ts, b)) (hn : rows.length = n) (hle : n * e ≤ 16777216) (hb : n * B ≤ capB) :
    Goes P o a w (After en Fr (st.apps (kill ts ++ .tok f (some ⟨bif b && allDeep st.tok ts then 3 else 2, E, e, B, rows⟩) :: ret o (.v false [.tk f]))) (fun k => Fr k ∧ k ≠ f) w0 W K0) := by
  obtain ⟨css, a1, a2, a3, a4, a5, a6⟩ := rowsOf_spec hrows
  simp only [List.length_map] at a1 a2
  obtain ⟨hu, i0, hi0, hsz, hby⟩ := sliceT_spec hT
  obtain ⟨hl, _⟩ := layZ_spec hk
  have hepos : 0 < e := by obtain ⟨_, _, _, _, hp, _⟩ := layD_spec hl; omega
  have hpart : ∀ (i : Nat) (p : Nat × Operand), parts.toList[i]? = some p → p.1 = i ∧ ∃ cs, css[i]? = some cs ∧ (st.ev p.2).cells = some cs := by
    intro i p hp
    have := a5 i (p.1, st.ev p.2) (by rw [List.getElem?_map, hp]; rfl)
    simpa using this
  have hcs : ∀ (i : Nat) (p : Nat × Operand), parts.toList[i]? = some p → ∃ cs, css[i]? = some cs ∧ cs.length = e ∧ CellsRep w en cs (a.eval p.2).cells := by
    intro i p hp
    obtain ⟨_, cs, h1, h2⟩ := hpart i p hp
    have hi : i < rows.length := by rw [a2]; exact (List.getElem?_eq_some_iff.1 hp).1
    obtain ⟨cs', h3, _, h4, _⟩ := a6 i rows[i] (List.getElem?_eq_getElem hi)
    rw [h1] at h3
    obtain rfl := Option.some.inj h3
    exact ⟨cs, h1, by omega, (slot_cells (r.ev p.2) h2).1⟩
  obtain ⟨arr, hrun, hz, harr⟩ := built_row (w := w) (a := a) hT hk he ho (by omega) hle (fun i p hp => (hpart i p hp).1) (fun p hp => by
    obtain ⟨i, hi⟩ := List.mem_iff_getElem?.1 hp
    obtain ⟨cs, _, h2, h3⟩ := hcs i p hi
    rw [h3.1]; exact h2)
  -- each cell of the new row
  have hcell : ∀ (i j : Nat) (x : List D) (d : D), rows[i]? = some x → x[j]? = some d → ∃ cs c v, css[i]? = some cs ∧ cs[j]? = some c ∧ IsD st.tok c d ∧ arr[i * e + j]? = some v ∧ CellRep w en c v := by
    intro i j x d h1 h2
    obtain ⟨cs, h3, h4, h5, h6⟩ := a6 i x h1
    obtain ⟨c, h7, h8⟩ := h6 j d h2
    have hi : i < parts.toList.length := by rw [← a2]; exact (List.getElem?_eq_some_iff.1 h1).1
    have hp : parts.toList[i]? = some parts.toList[i] := List.getElem?_eq_getElem hi
    obtain ⟨cs', h9, _, h10⟩ := hcs i _ hp
    rw [h3] at h9
    obtain rfl := Option.some.inj h9
    obtain ⟨v, h11, h12⟩ := h10.2 j c h7
    have hj : j < e := by have := (List.getElem?_eq_some_iff.1 h2).1; omega
    exact ⟨cs, c, v, h3, h7, h8, by rw [harr i _ j hp hj]; exact h11, h12⟩
  have hlenr : ∀ (i : Nat) (x : List D), rows[i]? = some x → x.length = e := fun i x h => by obtain ⟨_, _, h4, _⟩ := a6 i x h; omega
  have hne : n ≤ maxLen := by
    have : n * 1 ≤ n * e := Nat.mul_le_mul_left _ hepos
    unfold maxLen; omega
  have hget : ∀ (i j : Nat) (x : List D) (d : D), rows[i]? = some x → x[j]? = some d → arr[i * e + j]? = some (arr.getD (i * e + j) undef) := by
    intro i j x d h1 h2
    obtain ⟨_, _, v, _, _, _, h3, _⟩ := hcell i j x d h1 h2
    simp [Array.getD_eq_getD_getElem?, h3]
  cases hdeep : (b && allDeep st.tok ts) with
  | true =>
    rw [Bool.and_eq_true] at hdeep
    obtain ⟨hnd, hq3⟩ := allDeep_spec hdeep.2
    have hnc := a4 hdeep.1
    have hin : ∀ {i j : Nat} {cs : List Cell} {t : Nat}, css[i]? = some cs → cs[j]? = some (.tk t) → t ∈ ts := fun h1 h2 => by
      rw [a3]; exact List.mem_flatMap.2 ⟨_, List.mem_of_getElem? h1, List.mem_flatMap.2 ⟨_, List.mem_of_getElem? h2, by simp [tokOf]⟩⟩
    let C : Nat → Nat → Cell := fun i j => (css.getD i []).getD j .any
    have hC : ∀ {i j : Nat} {cs : List Cell} {c : Cell}, css[i]? = some cs → cs[j]? = some c → C i j = c := fun h1 h2 => by simp [C, List.getD, h1, h2]
    obtain ⟨FT', r1⟩ := r.newDeep hf ts (T := E) (e := e) (B := B) (xs := rows) (cap := n) (arr := arr) (fun i j => arr.getD (i * e + j) undef) (fun i j => cellF en (C i j)) hz (by omega) hne (by rw [hn]; exact hb) hlenr hget
      (fun i j x d h1 h2 => by
        obtain ⟨cs, c, v, q1, q2, q3, q4, q5⟩ := hcell i j x d h1 h2
        have e1 : arr.getD (i * e + j) undef = v := by simp [Array.getD_eq_getD_getElem?, q4]
        rw [e1, hC q1 q2]
        exact q3.deepD r q5 (fun d' hd' => noneConst_spec (hnc cs (List.mem_of_getElem? q1)) c (List.mem_of_getElem? q2) d' hd') fun t ht => by
          cases c <;> simp [tokOf] at ht
          subst ht
          exact hq3 t (hin q1 q2))
      (fun i j x d h1 h2 b' o' hG => by
        obtain ⟨cs, c, v, q1, q2, q3, q4, q5⟩ := hcell i j x d h1 h2
        rw [hC q1 q2] at hG
        cases c with
        | tk t =>
          obtain ⟨q, hq, _⟩ := hq3 t (hin q1 q2)
          exact ⟨t, hin q1 q2, ⟨q, hq⟩, hG⟩
        | _ => exact hG.elim)
      (fun i j x d i' j' x' d' h1 h2 h3 h4 hne' => by
        obtain ⟨cs, c, v, q1, q2, q3, q4, q5⟩ := hcell i j x d h1 h2
        obtain ⟨cs', c', v', p1, p2, p3, p4, p5⟩ := hcell i' j' x' d' h3 h4
        rw [hC q1 q2, hC p1 p2]
        refine cellF_ne r (fun t ht => ?_) (fun t ht => ?_) fun t ht ht' => ?_
        · subst ht; obtain ⟨q, hq, _⟩ := hq3 t (hin q1 q2); exact ⟨q, hq⟩
        · subst ht; obtain ⟨q, hq, _⟩ := hq3 t (hin p1 p2); exact ⟨q, hq⟩
        · subst ht; subst ht'
          rw [a3] at hnd
          have hi : i = i' := flat_ne hnd q1 p1 (t := t) (List.mem_flatMap.2 ⟨_, List.mem_of_getElem? q2, by simp [tokOf]⟩) (List.mem_flatMap.2 ⟨_, List.mem_of_getElem? p2, by simp [tokOf]⟩)
          subst hi
          rw [q1] at p1
          obtain rfl := Option.some.inj p1
          have hnd2 : (cs.flatMap tokOf).Nodup := by
            have hn' : List.Pairwise (· ≠ ·) (css.flatMap fun cs => cs.flatMap tokOf) := hnd
            exact (List.pairwise_flatMap.1 hn').1 cs (List.mem_of_getElem? q1)
          have hj : j = j' := flat_ne hnd2 q2 p2 (t := t) (by simp [tokOf]) (by simp [tokOf])
          exact hne' (by rw [hj]))
    rw [apps_append] at r1 ⊢
    exact finish (st' := st.apps (kill ts)) r1 (apps_n _ _) hd hf (v := .slice (some ⟨w.heap.size, 0, none⟩) n n) ((upd_self _ _ _).trans (by rw [hn])) rfl (fun _ _ => rfl) hrun
  | false =>
    obtain ⟨K', r1, hkk, hkt⟩ := r.freezeAll ts
    obtain ⟨FT', r2⟩ := r1.newTwo hf (T := E) (e := e) (B := B) (xs := rows) (cap := n) (arr := arr) (fun i j => arr.getD (i * e + j) undef) hz (by omega) hne (by rw [hn]; exact hb) hlenr hget
      (fun i j x d h1 h2 => by
        obtain ⟨cs, c, v, q1, q2, q3, q4, q5⟩ := hcell i j x d h1 h2
        have e1 : arr.getD (i * e + j) undef = v := by simp [Array.getD_eq_getD_getElem?, q4]
        rw [e1]
        exact q3.repD q5 hkk fun t ht q hq => hkt t (by rw [a3]; exact List.mem_flatMap.2 ⟨_, List.mem_of_getElem? q1, List.mem_flatMap.2 ⟨_, List.mem_of_getElem? q2, ht⟩⟩) q hq)
    rw [apps_append]
    exact finish (st' := st.apps (kill ts)) r2 (apps_n _ _) hd hf (v := .slice (some ⟨w.heap.size, 0, none⟩) n n) ((upd_self _ _ _).trans (by rw [hn])) rfl (fun _ _ => rfl) hrun

end
end Go.Gl
