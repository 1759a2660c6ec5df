/- A slice's elements are stored. -/
import Derived.Test.YtfkeggikdeenbaaL20
set_option linter.unusedVariables false
set_option linter.unusedSimpArgs false
namespace Go.Gl
open Go.RowKit

theorem spl_get {α : Type} (row ds : List α) (off : Nat) (h : off + ds.length ≤ row.length) (j : Nat) :
    (row.take off ++ ds ++ row.drop (off + ds.length))[j]? = if off ≤ j ∧ j < off + ds.length then ds[j - off]? else row[j]? := by
  have hlt : (row.take off).length = off := by simp only [List.length_take]; omega
  by_cases h1 : j < off
  · rw [if_neg (by omega), List.append_assoc, List.getElem?_append_left (by omega), List.getElem?_take, if_pos h1]
  · rw [List.append_assoc, List.getElem?_append_right (by omega), hlt]
    by_cases h2 : j - off < ds.length
    · rw [if_pos (by omega), List.getElem?_append_left h2]
    · rw [if_neg (by omega), List.getElem?_append_right (by omega), List.getElem?_drop]
      congr 1
      omega

theorem spl_len {α : Type} (row ds : List α) (off : Nat) (h : off + ds.length ≤ row.length) : (row.take off ++ ds ++ row.drop (off + ds.length)).length = row.length := by
  simp only [List.length_append, List.length_take, List.length_drop]; omega

theorem same_row {e i i' j off len : Nat} (hj : j < e) (ho : off + len ≤ e) (h1 : i * e + off ≤ i' * e + j) (h2 : i' * e + j < i * e + off + len) : i' = i := by
  rcases Nat.lt_trichotomy i' i with h | h | h
  · have : (i' + 1) * e ≤ i * e := Nat.mul_le_mul_right _ h
    rw [Nat.add_mul] at this; omega
  · exact h
  · have : (i + 1) * e ≤ i' * e := Nat.mul_le_mul_right _ h
    rw [Nat.add_mul] at this; omega

section
variable {P : Program} {en : En} {st : St} {Fr : Nat → Prop} {a : Act} {w w' w0 : World} {W K X : CS} {K0 : Kb} {o : Oper} {f : Nat}

/-- The elements after a store. -/
theorem set_rows {xs : List (List D)} {e i off : Nat} {ds : List D} {row : List D} (hx : ∀ (i : Nat) (x : List D), xs[i]? = some x → x.length = e) (hi : xs[i]? = some row) (hle : off + ds.length ≤ row.length) {arr : Array Value} {cv : List Value} (hcv : cv.length = ds.length)
    {b cap T : Nat} (hz : arr.size = cap * e) (hn : xs.length ≤ cap) (hh : w.heap[b]? = some (.cells arr T (0, 0))) :
    ∃ narr : Array Value, (arr.toList.take (i * e + off) ++ cv ++ arr.toList.drop (i * e + off + cv.length)).toArray = narr ∧ narr.size = arr.size ∧
      (∀ (i' : Nat) (x : List D), (xs.set i (row.take off ++ ds ++ row.drop (off + ds.length)))[i']? = some x → x.length = e) ∧ (xs.set i (row.take off ++ ds ++ row.drop (off + ds.length))).length = xs.length ∧
      (∀ (i' j : Nat) (x : List D) (d : D), (xs.set i (row.take off ++ ds ++ row.drop (off + ds.length)))[i']? = some x → x[j]? = some d →
        (i' = i ∧ off ≤ j ∧ j < off + ds.length ∧ ds[j - off]? = some d ∧ narr[i' * e + j]? = cv[j - off]?) ∨ (¬ (i' = i ∧ off ≤ j ∧ j < off + ds.length) ∧ narr[i' * e + j]? = arr[i' * e + j]? ∧ ∃ x0, xs[i']? = some x0 ∧ x0[j]? = some d)) ∧
      Unch w (w.setRow b narr) (fun b' o => b' = b ∧ i * e + off ≤ o ∧ o < i * e + off + ds.length) ∧ (w.setRow b narr).heap[b]? = some (.cells narr T (0, 0)) ∧ i * e + off + ds.length ≤ cap * e := by
  have hre : row.length = e := hx i row hi
  have hil : i < xs.length := (List.getElem?_eq_some_iff.1 hi).1
  have hie : (i + 1) * e ≤ cap * e := Nat.mul_le_mul_right _ (by omega)
  rw [Nat.add_mul] at hie
  have hz' : i * e + off + cv.length ≤ arr.toList.length := by rw [Array.length_toList (xs := arr), hz, hcv]; omega
  have hget : ∀ k, ((arr.toList.take (i * e + off) ++ cv ++ arr.toList.drop (i * e + off + cv.length)).toArray)[k]? = if i * e + off ≤ k ∧ k < i * e + off + cv.length then cv[k - (i * e + off)]? else arr[k]? := by
    intro k
    rw [List.getElem?_toArray, spl_get arr.toList cv (i * e + off) hz' k, Array.getElem?_toList (xs := arr)]
  have hsz : ((arr.toList.take (i * e + off) ++ cv ++ arr.toList.drop (i * e + off + cv.length)).toArray).size = arr.size := by
    rw [List.size_toArray, spl_len arr.toList cv _ hz', Array.length_toList (xs := arr)]
  have hset : ∀ (i' : Nat) (x : List D), (xs.set i (row.take off ++ ds ++ row.drop (off + ds.length)))[i']? = some x → (i' = i ∧ x = row.take off ++ ds ++ row.drop (off + ds.length)) ∨ (i' ≠ i ∧ xs[i']? = some x) := by
    intro i' x h
    rw [List.getElem?_set] at h
    split at h
    · rename_i e1
      subst e1
      exact .inl ⟨rfl, (Option.some.inj h).symm⟩
    · rename_i e1
      exact .inr ⟨fun e => e1 e.symm, h⟩
  refine ⟨_, rfl, hsz, fun i' x h => ?_, by simp, fun i' j x d h1 h2 => ?_, Unch.setRow hh hsz fun j hj => ?_, setRow_heap w b arr _ T _ hh, by omega⟩
  · rcases hset i' x h with ⟨_, rfl⟩ | ⟨_, h⟩
    · rw [spl_len row ds off hle]; exact hre
    · exact hx i' x h
  · rcases hset i' x h1 with ⟨rfl, rfl⟩ | ⟨hne, h1⟩
    · rw [spl_get row ds off hle] at h2
      split at h2
      · rename_i hin
        refine .inl ⟨rfl, hin.1, hin.2, h2, ?_⟩
        rw [hget, if_pos (by omega)]
        congr 1
        omega
      · rename_i hin
        refine .inr ⟨fun h => hin h.2, ?_, row, hi, h2⟩
        rw [hget, if_neg (by omega)]
    · refine .inr ⟨fun h => hne h.1, ?_, x, h1, h2⟩
      have hj : j < e := by have := (List.getElem?_eq_some_iff.1 h2).1; rw [hx i' x h1] at this; exact this
      rw [hget, if_neg fun h => hne (same_row hj (len := ds.length) (by omega) h.1 (by omega))]
  · rw [hget, if_neg fun h => hj ⟨rfl, h.1, by omega⟩]

theorem TokRep.hb {t : Tok} {v : Value} {F : CS} (h : TokRep w K t v F) : t.xs.length * t.B ≤ capB := by
  cases h with
  | nil => simp
  | one f hh hz hn hcm hb => exact hb
  | two f hh hz hn hcm hb => exact hb
  | three f G hh hz hn hcm hb => exact hb

theorem sound_store_ep (r : RelE en st Fr a w w0 W K0) (hd : ∀ d, o.dst = some d → d < st.n) {T : TypeId} {x y : Operand} (ho : o.op = .store T x y) {ks : List CK} (hk : layD P T = some ks) {t i off : Nat} {tk : Tok} {new : List Cell} (hx : st.ev x = .ep t i off) (ht : st.tok t = some tk)
    (hy : (st.ev y).cells = some new) (hl : new.length = ks.length) {ds : List D} {ts : List Nat} (hcd : cellsToD st.tok ks new = some (ds, ts)) (hts : t ∉ ts) (hL : tk.L = 2 ∨ (tk.L = 3 ∧ noneConst new = true ∧ allDeep st.tok (t :: ts) = true)) (hle : off + ks.length ≤ (tk.xs.getD i []).length) :
    Goes P o a w (After en Fr (st.apps (kill ts ++ .tok t (some { tk with xs := tk.xs.set i ((tk.xs.getD i []).take off ++ ds ++ (tk.xs.getD i []).drop (off + ks.length)) }) :: ret o .any)) (fun k => Fr k ∧ k ≠ f) w0 W K0) := by
  obtain ⟨hd1, hd2, hd3, hd4⟩ := cellsToD_spec hcd
  have hxr := r.ev x
  rw [hx] at hxr
  generalize hex : a.eval x = v at hxr
  cases hxr with
  | ep hxr =>
    obtain ⟨hil, b, n0, cap0, hv, rfl⟩ := hxr tk ht
    have hi : tk.xs[i]? = some tk.xs[i] := List.getElem?_eq_getElem hil
    have hgi : tk.xs.getD i [] = tk.xs[i] := by simp [List.getD, hil]
    rw [hgi] at hle ⊢
    have hrep := r.toks t tk ht
    rcases hrep.row with ⟨hv0, _⟩ | ⟨b', cap, arr, hv1, hh, hz, hn, hcm, _, hF, hF2, g, hg, hrd, _, hbl, hdp⟩
    · rw [hv] at hv0; cases hv0
    · rw [hv] at hv1
      obtain rfl : b = b' := by injection hv1 with e1; injection e1 with e1; injection e1
      have hL1 : tk.L ≠ 1 := by rcases hL with h | h <;> omega
      have hF2 := hF2 hL1
      obtain ⟨hyc, hy1⟩ := slot_cells (r.ev y) hy
      have hcv : (a.eval y).cells.toList.length = ds.length := by rw [Array.length_toList, hyc.1]; omega
      have hks : ks.length = ds.length := by omega
      rw [hks] at hle ⊢
      obtain ⟨narr, hnarr, hnz, hrows, hlen, hcases, hu, hnh, hin⟩ := set_rows (w := w) (b := b) (cap := cap) hrep.rows hi hle hcv hz hn hh
      have hrun := run_storeAt hk (w := w) hh (v := a.eval y) (o := i * tk.e + off) (by rw [hyc.1]; exact hl) (by rw [hz, hks]; exact hin) hy1
      rw [hnarr] at hrun
      have hexec : (execOp a.eval o).run P w = .ok .skip (w.setRow b narr) := by
        simp only [execOp, ho, hex, Sem.run_bind, hrun, Result.andThen_ok]; rfl
      have hX : ∀ b' o, (b' = b ∧ i * tk.e + off ≤ o ∧ o < i * tk.e + off + ds.length) → en.FT t b' o := by
        rintro b' o ⟨rfl, _, h⟩; exact hF2 o (by omega)
      have hVT : en.VT t = .slice (some ⟨b, 0, none⟩) (tk.xs.set i (tk.xs[i].take off ++ ds ++ tk.xs[i].drop (off + ds.length))).length cap := by rw [hlen]; exact hv.trans hv1
      have hrest : ∀ {en' : En} {q : Tok}, RelE en' ((st.apps (kill ts)).app (.tok t (some q))) Fr a (w.setRow b narr) w0 W K0 → en'.FB = en.FB →
          Goes P o a w (After en Fr (st.apps (kill ts ++ .tok t (some q) :: ret o .any)) (fun k => Fr k ∧ k ≠ f) w0 W K0) := by
        intro en' q r5 hfb
        rw [apps_append]
        exact ⟨_, undef, .inr ⟨rfl, hexec⟩, en', (r5.ret o (fun d h => by rw [app_n, apps_n]; exact hd d h) .any fun _ _ h => h).fewer fun _ h => h.1, fun k _ => by rw [hfb]⟩
      have hb47 : (tk.xs.set i (tk.xs[i].take off ++ ds ++ tk.xs[i].drop (off + ds.length))).length * tk.B ≤ capB := by
        rw [hlen]
        exact hrep.hb
      have tokt : ∀ {K1 : CS}, (st.apps (kill ts)).tok t = some tk := by intro _; rw [kill_tok, if_neg hts]; exact ht
      have hcell : ∀ (j : Nat) (d : D), ds[j]? = some d → ∃ c v, new[j]? = some c ∧ IsD st.tok c d ∧ (a.eval y).cells.toList[j]? = some v ∧ CellRep w en c v := by
        intro j d h
        obtain ⟨c, h1, h2⟩ := hd4 j d h
        obtain ⟨v, h3, h4⟩ := hyc.2 j c h1
        exact ⟨c, v, h1, h2, by rw [Array.getElem?_toList]; exact h3, h4⟩
      have hg' : ∀ (i' j : Nat) (x : List D) (d : D), (tk.xs.set i (tk.xs[i].take off ++ ds ++ tk.xs[i].drop (off + ds.length)))[i']? = some x → x[j]? = some d → narr[i' * tk.e + j]? = some (narr.getD (i' * tk.e + j) undef) := by
        intro i' j x d h1 h2
        rcases hcases i' j x d h1 h2 with ⟨rfl, p1, p2, p3, p4⟩ | ⟨p1, p2, x0, p3, p4⟩
        · obtain ⟨c, v, _, _, h5, _⟩ := hcell _ d p3
          rw [h5] at p4
          simp [Array.getD_eq_getD_getElem?, p4]
        · rw [hg i' j x0 d p3 p4] at p2
          simp [Array.getD_eq_getD_getElem?, p2]
      rcases hL with hL2 | ⟨hL3, hnc, had⟩
      · -- what is stored is read from now on
        obtain ⟨K', r1, hkk, hkt⟩ := r.freezeAll ts
        have hbl := hbl (by omega)
        have hT : TokRep (w.setRow b narr) K' ⟨2, tk.T, tk.e, tk.B, _⟩ (.slice (some ⟨b, 0, none⟩) _ cap) _ :=
          .two (fun i' j => narr.getD (i' * tk.e + j) undef) hnh (hnz.trans hz) (by rw [hlen]; exact hn) hcm hb47 hrows hg' fun i' j x d h1 h2 => by
            refine hu.repD (fun b' o hk hx => r1.kt t tk (tokt (K1 := K')) b' o (hX b' o hx) hk) ?_
            rcases hcases i' j x d h1 h2 with ⟨rfl, p1, p2, p3, p4⟩ | ⟨p1, p2, x0, p3, p4⟩
            · obtain ⟨c, v, h3, h4, h5, h6⟩ := hcell _ d p3
              rw [h5] at p4
              have e1 : narr.getD (i' * tk.e + j) undef = v := by simp [Array.getD_eq_getD_getElem?, p4]
              rw [e1]
              exact h4.repD h6 hkk fun t' ht' q hq => hkt t' (by rw [hd3]; exact List.mem_flatMap.2 ⟨c, List.mem_of_getElem? h3, ht'⟩) q hq
            · rw [hg i' j x0 d p3 p4] at p2
              have e1 : narr.getD (i' * tk.e + j) undef = g i' j := by simp [Array.getD_eq_getD_getElem?, p2]
              rw [e1]
              exact hrd K' hkk (fun b' o h1 h2 => absurd (hbl b' o h1) h2) i' j x0 d p3 p4
        have hsub : ∀ b' o, (b' = b ∧ o < cap * tk.e) → en.FT t b' o := fun b' o ⟨e1, h⟩ => by rw [e1]; exact hF2 o h
        have htok := tokt (K1 := K')
        have r5 := r1.setTok htok hu (tk' := { tk with xs := tk.xs.set i (tk.xs[i].take off ++ ds ++ tk.xs[i].drop (off + ds.length)) }) (F' := fun b' o => b' = b ∧ o < cap * tk.e)
          (by show TokRep _ _ _ (en.VT t) _; rw [hVT]; have := hT; rw [← hL2] at this; exact this) rfl (by rw [hlen]; exact Nat.le_refl _)
          (fun b' o hk hx => r1.kt t tk htok b' o (hX b' o hx) hk) (fun b1 cs h o hx => r1.bt b1 t cs tk h htok o (hX _ o hx)) (fun t' q h hne b' o hf hx => r1.tt t' t q tk h htok hne b' o hf (hX b' o hx)) (fun b' o hx => r1.ta t tk htok b' o (hX b' o hx))
          (fun b' o h => r1.kt t tk htok b' o (hsub b' o h)) (fun b1 cs h o hF => r1.bt b1 t cs tk h htok o (hsub _ o hF)) (fun t' q h hne b' o hF hf => r1.tt t t' tk q htok h (Ne.symm hne) b' o (hsub b' o hF) hf) fun b' o h => r1.ta t tk htok b' o (hsub b' o h)
        exact hrest r5 rfl
      · -- what is stored is owned
        obtain ⟨G, d1, d2, d3, d4⟩ := hdp hL3
        obtain ⟨hnd, hq3⟩ := allDeep_spec had
        have r1 := r.dropAll ts
        have htok := tokt (K1 := en.K)
        let C : Nat → Cell := fun j => new.getD j .any
        have hC : ∀ {j : Nat} {c : Cell}, new[j]? = some c → C j = c := fun h => by simp [C, List.getD, h]
        have hmem : ∀ {j : Nat} {t' : Nat}, new[j]? = some (.tk t') → t' ∈ ts := fun h => by rw [hd3]; exact List.mem_flatMap.2 ⟨_, List.mem_of_getElem? h, by simp [tokOf]⟩
        let G' : Nat → Nat → CS := fun i' j => if i' = i ∧ off ≤ j ∧ j < off + ds.length then cellF en (C (j - off)) else G i' j
        have hCw : ∀ {j : Nat} {c : Cell}, new[j]? = some c → ∀ b' o, cellF en c b' o → ∃ t' ∈ ts, (∃ q, st.tok t' = some q) ∧ en.FT t' b' o := by
          intro j c h b' o hF
          cases c with
          | tk t' =>
            obtain ⟨q, hq, _⟩ := hq3 t' (List.mem_cons_of_mem _ (hmem h))
            exact ⟨t', hmem h, ⟨q, hq⟩, hF⟩
          | _ => exact hF.elim
        have hCt : ∀ {j : Nat} {c : Cell}, new[j]? = some c → ∀ b' o, en.FT t b' o → ¬ cellF en c b' o := by
          intro j c h b' o hF hc
          obtain ⟨t', h1, ⟨q, hq⟩, h2⟩ := hCw h b' o hc
          exact r.tt t t' tk q ht hq (fun e => hts (e ▸ h1)) b' o hF h2
        have hCd : ∀ {j : Nat} {c : Cell} {d : D} {v : Value}, new[j]? = some c → IsD st.tok c d → CellRep w en c v → DeepD w d v (cellF en c) := by
          intro j c d v h h1 h2
          refine h1.deepD r h2 (fun d' hd' => noneConst_spec hnc c (List.mem_of_getElem? h) d' hd') fun t' ht' => ?_
          cases c <;> simp [tokOf] at ht'
          subst ht'
          exact hq3 _ (List.mem_cons_of_mem _ (hmem h))
        have hCCne : ∀ {j j' : Nat} {c c' : Cell}, new[j]? = some c → new[j']? = some c' → j ≠ j' → ∀ b' o, cellF en c b' o → ¬ cellF en c' b' o := by
          intro j j' c c' h h' hne
          refine cellF_ne r (fun t' e => ?_) (fun t' e => ?_) fun t' e e' => ?_
          · subst e; obtain ⟨q, hq, _⟩ := hq3 t' (List.mem_cons_of_mem _ (hmem h)); exact ⟨q, hq⟩
          · subst e; obtain ⟨q, hq, _⟩ := hq3 t' (List.mem_cons_of_mem _ (hmem h')); exact ⟨q, hq⟩
          · subst e; subst e'
            have hn2 := (List.nodup_cons.1 hnd).2
            rw [hd3] at hn2
            exact hne (flat_ne hn2 h h' (t := t') (by simp [tokOf]) (by simp [tokOf]))
        have hG' : ∀ (i' j : Nat) (x : List D) (d : D), (tk.xs.set i (tk.xs[i].take off ++ ds ++ tk.xs[i].drop (off + ds.length)))[i']? = some x → x[j]? = some d →
            ((i' = i ∧ off ≤ j ∧ j < off + ds.length) ∧ ∃ c v, G' i' j = cellF en c ∧ new[j - off]? = some c ∧ IsD st.tok c d ∧ CellRep w en c v ∧ narr.getD (i' * tk.e + j) undef = v) ∨
            (¬ (i' = i ∧ off ≤ j ∧ j < off + ds.length) ∧ G' i' j = G i' j ∧ narr.getD (i' * tk.e + j) undef = g i' j ∧ ∃ x0, tk.xs[i']? = some x0 ∧ x0[j]? = some d) := by
          intro i' j x d h1 h2
          rcases hcases i' j x d h1 h2 with ⟨p0, p1, p2, p3, p4⟩ | ⟨p1, p2, x0, p3, p4⟩
          · obtain ⟨c, v, h3, h4, h5, h6⟩ := hcell _ d p3
            rw [h5] at p4
            refine .inl ⟨⟨p0, p1, p2⟩, c, v, ?_, h3, h4, h6, by simp [Array.getD_eq_getD_getElem?, p4]⟩
            simp only [G', if_pos (show i' = i ∧ off ≤ j ∧ j < off + ds.length from ⟨p0, p1, p2⟩), hC h3]
          · rw [hg i' j x0 d p3 p4] at p2
            refine .inr ⟨p1, ?_, by simp [Array.getD_eq_getD_getElem?, p2], x0, p3, p4⟩
            simp only [G', if_neg p1]
        have hT : TokRep (w.setRow b narr) en.K ⟨3, tk.T, tk.e, tk.B, _⟩ (.slice (some ⟨b, 0, none⟩) _ cap) _ :=
          .three (fun i' j => narr.getD (i' * tk.e + j) undef) G' hnh (hnz.trans hz) (by rw [hlen]; exact hn) hcm hb47 hrows hg'
            (fun i' j x d h1 h2 => by
              rcases hG' i' j x d h1 h2 with ⟨_, c, v, q1, q2, q3, q4, q5⟩ | ⟨_, q1, q2, x0, q3, q4⟩
              · rw [q1, q5]; exact hu.deepD (hCd q2 q3 q4) fun b' o hF hx => hCt q2 b' o (hX b' o hx) hF
              · rw [q1, q2]; exact hu.deepD (d1 i' j x0 d q3 q4) fun b' o hF hx => d3 i' j x0 d q3 q4 o (hx.1 ▸ hF))
            (fun i' j x d h1 h2 o hF => by
              rcases hG' i' j x d h1 h2 with ⟨_, c, v, q1, q2, q3, q4, q5⟩ | ⟨_, q1, q2, x0, q3, q4⟩
              · rw [q1] at hF
                obtain ⟨arr', T', p1, p2⟩ := (hCd q2 q3 q4).inB b o hF
                rw [hh] at p1
                injection p1 with p1; injection p1 with p1
                subst p1
                exact hCt q2 b o (hF2 o (by omega)) hF
              · rw [q1] at hF; exact d3 i' j x0 d q3 q4 o hF)
            (fun i1 j1 x1 e1 i2 j2 x2 e2 h1 h2 h3 h4 hne b' o => by
              rcases hG' i1 j1 x1 e1 h1 h2 with ⟨pr, c, v, q1, q2, q3, q4, q5⟩ | ⟨_, q1, q2, x0, q3, q4⟩ <;> rcases hG' i2 j2 x2 e2 h3 h4 with ⟨pr', c', v', p1, p2, p3, p4, p5⟩ | ⟨_, p1, p2, x0', p3, p4⟩
              · rw [q1, p1]; exact hCCne q2 p2 (fun e => hne (by rw [pr.1, pr'.1, show j1 = j2 by omega])) b' o
              · rw [q1, p1]; exact fun hF hG => hCt q2 b' o (d2 i2 j2 x0' e2 p3 p4 b' o hG) hF
              · rw [q1, p1]; exact fun hG hF => hCt p2 b' o (d2 i1 j1 x0 e1 q3 q4 b' o hG) hF
              · rw [q1, p1]; exact d4 i1 j1 x0 e1 i2 j2 x0' e2 q3 q4 p3 p4 hne b' o)
        have hF' : ∀ b' o, ((b' = b ∧ o < cap * tk.e) ∨ ∃ (i' j : Nat) (x : List D) (d : D), (tk.xs.set i (tk.xs[i].take off ++ ds ++ tk.xs[i].drop (off + ds.length)))[i']? = some x ∧ x[j]? = some d ∧ G' i' j b' o) →
            en.FT t b' o ∨ ∃ t' ∈ ts, (∃ q, st.tok t' = some q) ∧ en.FT t' b' o := by
          rintro b' o (⟨rfl, h⟩ | ⟨i', j, x, d, h1, h2, hG⟩)
          · exact .inl (hF2 o h)
          · rcases hG' i' j x d h1 h2 with ⟨_, c, v, q1, q2, q3, q4, q5⟩ | ⟨_, q1, q2, x0, q3, q4⟩
            · rw [q1] at hG; exact .inr (hCw q2 b' o hG)
            · rw [q1] at hG; exact .inl (d2 i' j x0 d q3 q4 b' o hG)
        have r5 := r1.setTok htok hu (tk' := { tk with xs := tk.xs.set i (tk.xs[i].take off ++ ds ++ tk.xs[i].drop (off + ds.length)) })
          (by rw [hVT]; have := hT; rw [← hL3] at this; exact this) rfl (by rw [hlen]; exact Nat.le_refl _)
          (fun b' o hk hx => r1.kt t tk htok b' o (hX b' o hx) hk) (fun b1 cs h o hx => r1.bt b1 t cs tk h htok o (hX _ o hx)) (fun t' q h hne b' o hf hx => r1.tt t' t q tk h htok hne b' o hf (hX b' o hx)) (fun b' o hx => r1.ta t tk htok b' o (hX b' o hx))
          (fun b' o h hk => (hF' b' o h).elim (fun h => r.kt t tk ht b' o h hk) fun ⟨t', h1, ⟨q, hq⟩, h2⟩ => r.kt t' q hq b' o h2 hk)
          (fun b1 cs h o hF => by
            rw [kill_box] at h
            exact (hF' _ o hF).elim (fun h2 => r.bt b1 t cs tk h ht o h2) fun ⟨t', h1, ⟨q, hq⟩, h2⟩ => r.bt b1 t' cs q h hq o h2)
          (fun t1 q1 h hne b' o hF hf => by
            obtain ⟨k1, k2⟩ := kill_some h
            exact (hF' b' o hF).elim (fun h2 => r.tt t t1 tk q1 ht k2 (Ne.symm hne) b' o h2 hf) fun ⟨t', h1, ⟨q, hq⟩, h2⟩ => r.tt t' t1 q q1 hq k2 (fun e => k1 (e ▸ h1)) b' o h2 hf)
          (fun b' o h => (hF' b' o h).elim (fun h => r.ta t tk ht b' o h) fun ⟨t', h1, ⟨q, hq⟩, h2⟩ => r.ta t' q hq b' o h2)
        exact hrest r5 rfl

end
end Go.Gl
