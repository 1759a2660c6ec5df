/- Slices are appended to where there is room. -/
import Derived.Test.YtfkeggikdeenbaaL17
set_option linter.unusedVariables false
set_option linter.unusedSimpArgs false
namespace Go.Gl
open Go.RowKit

section
variable {P : Program} {en : En} {st : St} {Fr : Nat → Prop} {a : Act} {w w' w0 : World} {W K X : CS} {K0 : Kb} {o : Oper} {f : Nat}

/-- The cells that an append writes. -/
def wrote (b m n e : Nat) : CS := fun b' o => b' = b ∧ m * e ≤ o ∧ o < (m + n) * e

theorem row_written {arr : Array Value} {vs : List Value} {m n e cap b T : Nat} (hz : arr.size = cap * e) (hroom : m + n ≤ cap) (hv : vs.length = n * e) (hh : w.heap[b]? = some (.cells arr T (0, 0))) :
    ∃ narr : Array Value, (arr.toList.take (m * e) ++ vs ++ arr.toList.drop (m * e + vs.length)).toArray = narr ∧ narr.size = arr.size ∧ (∀ (k : Nat) (v : Value), (arr.toList.take (m * e) ++ vs)[k]? = some v → narr[k]? = some v) ∧
      Unch w (w.setRow b narr) (wrote b m n e) ∧ (w.setRow b narr).heap[b]? = some (.cells narr T (0, 0)) ∧ m * e + vs.length ≤ arr.size ∧ (arr.toList.take (m * e)).length = m * e := by
  have h1 : (m + n) * e ≤ cap * e := Nat.mul_le_mul_right _ hroom
  rw [Nat.add_mul] at h1
  have hsz : ((arr.toList.take (m * e) ++ vs ++ arr.toList.drop (m * e + vs.length)).toArray).size = arr.size := by
    simp only [List.size_toArray, List.length_append, List.length_take, List.length_drop, Array.length_toList]
    omega
  have hlt : (arr.toList.take (m * e)).length = m * e := by simp only [List.length_take, Array.length_toList]; omega
  refine ⟨_, rfl, hsz, fun k v hk => ?_, Unch.setRow hh hsz fun j hj => ?_, setRow_heap w b arr _ T _ hh, by omega, hlt⟩
  · simp only [List.getElem?_toArray]
    rw [List.getElem?_append_left (List.getElem?_eq_some_iff.1 hk).1]
    exact hk
  · simp only [List.getElem?_toArray]
    by_cases h2 : j < m * e
    · rw [List.append_assoc, List.getElem?_append_left (by omega), List.getElem?_take, if_pos h2, Array.getElem?_toList]
    · have h3 : ¬ j < (m + n) * e := fun h => hj ⟨rfl, by omega, h⟩
      rw [Nat.add_mul] at h3
      rw [List.getElem?_append_right (by simp only [List.length_append]; omega), List.getElem?_drop, Array.getElem?_toList]
      congr 1
      simp only [List.length_append]
      omega

theorem take_get {arr : Array Value} {xs : List (List D)} {e : Nat} {g : Nat → Nat → Value} (hx : ∀ (i : Nat) (x : List D), xs[i]? = some x → x.length = e) (hc : ∀ (i j : Nat) (x : List D) (d : D), xs[i]? = some x → x[j]? = some d → arr[i * e + j]? = some (g i j)) :
    ∀ (i j : Nat) (x : List D) (d : D), xs[i]? = some x → x[j]? = some d → (arr.toList.take (xs.length * e))[i * e + j]? = some (g i j) := by
  intro i j x d h1 h2
  have ⟨hi, hj⟩ := len_of hx h1 h2
  rw [List.getElem?_take, if_pos (idx_lt hi hj), Array.getElem?_toList]
  exact hc i j x d h1 h2

/-- The token that is appended to, given up: what it owned is no one's. -/
structure Loose (en : En) (st : St) (w0 : World) (W : CS) (F : CS) : Prop where
  k : ∀ b o, F b o → ¬ en.K b o
  b : ∀ b cs, st.box b = some cs → ∀ o, ¬ F (en.FB b) o
  t : ∀ t q, st.tok t = some q → ∀ b o, F b o → ¬ en.FT t b o
  a : ∀ b o, F b o → Al w0 W b o

theorem RelE.loose (r : RelE en st Fr a w w0 W K0) {t : Nat} {tk : Tok} (ht : st.tok t = some tk) (ts : List Nat) (hm : t ∈ ts) : Loose en (st.apps (kill ts)) w0 W (en.FT t) where
  k b o h := r.kt t tk ht b o h
  b b cs h o hF := by rw [kill_box] at h; exact r.bt b t cs tk h ht o hF
  t t' q h b o hF hF' := by
    obtain ⟨h1, h2⟩ := kill_some h
    exact r.tt t t' tk q ht h2 (fun e => h1 (e ▸ hm)) b o hF hF'
  a b o h := r.ta t tk ht b o h

theorem RelE.wroteRow (r : RelE en st Fr a w w0 W K0) {F : CS} (hF : Loose en st w0 W F) (hu : Unch w w' X) (hX : ∀ b o, X b o → F b o) : RelE en st Fr a w' w0 W K0 :=
  r.world hu (fun b o hk hx => hF.k b o (hX b o hx) hk) (fun b cs h o hx => hF.b b cs h o (hX _ o hx)) (fun t q h b o hft hx => hF.t t q h b o (hX b o hx) hft) fun b o hx => hF.a b o (hX b o hx)

theorem DeepD.inB {d : D} {v : Value} {F : CS} (h : DeepD w d v F) : ∀ b o, F b o → ∃ arr T, w.heap[b]? = some (.cells arr T (0, 0)) ∧ o < arr.size := by
  induction h with
  | sl e f G hh hz hn hcm hb hx hc hr hg hd ih =>
    rintro b o (⟨rfl, h⟩ | ⟨i, j, x, d, h1, h2, hG⟩)
    · exact ⟨_, _, hh, by omega⟩
    · exact ih i j x d h1 h2 b o hG
  | _ => exact fun _ _ h => h.elim

theorem room_deep (r : RelE en st Fr a w w0 W K0) (hd : ∀ d, o.dst = some d → d < st.n) (hf : Fr f) {E e B t : Nat} {xs ys : List (List D)} {ty : List Nat} {vs : List Value} {g' : Nat → Nat → Value} {G' : Nat → Nat → CS}
    (ht : st.tok t = some ⟨3, E, e, B, xs⟩) (hty : t ∉ ty) {b cap : Nat} {arr : Array Value} (hh : w.heap[b]? = some (.cells arr E (0, 0))) (hz : arr.size = cap * e) (hcm : cap ≤ maxLen) (hroom : xs.length + ys.length ≤ cap)
    (hF : ∀ o, o < cap * e → en.FT t b o) (hb : (xs.length + ys.length) * B ≤ capB) (hxr : ∀ (i : Nat) (x : List D), xs[i]? = some x → x.length = e) (hyr : ∀ (i : Nat) (x : List D), ys[i]? = some x → x.length = e) {g : Nat → Nat → Value} {G : Nat → Nat → CS}
    (hxg : ∀ (i j : Nat) (x : List D) (d : D), xs[i]? = some x → x[j]? = some d → arr[i * e + j]? = some (g i j)) (hyg : ∀ (i j : Nat) (x : List D) (d : D), ys[i]? = some x → x[j]? = some d → vs[i * e + j]? = some (g' i j)) (hvl : vs.length = ys.length * e)
    (hxd : ∀ (i j : Nat) (x : List D) (d : D), xs[i]? = some x → x[j]? = some d → DeepD w d (g i j) (G i j)) (hyd : ∀ (i j : Nat) (x : List D) (d : D), ys[i]? = some x → x[j]? = some d → DeepD w d (g' i j) (G' i j))
    (hxw : ∀ (i j : Nat) (x : List D) (d : D), xs[i]? = some x → x[j]? = some d → ∀ b' o, G i j b' o → en.FT t b' o) (hxb : ∀ (i j : Nat) (x : List D) (d : D), xs[i]? = some x → x[j]? = some d → ∀ o, ¬ G i j b o)
    (hyw : ∀ (i j : Nat) (x : List D) (d : D), ys[i]? = some x → x[j]? = some d → within en st ty (G' i j))
    (hxx : ∀ (i j : Nat) (x : List D) (d : D) (i' j' : Nat) (x' : List D) (d' : D), xs[i]? = some x → x[j]? = some d → xs[i']? = some x' → x'[j']? = some d' → (i, j) ≠ (i', j') → ∀ b o, G i j b o → ¬ G i' j' b o)
    (hyy : ∀ (i j : Nat) (x : List D) (d : D) (i' j' : Nat) (x' : List D) (d' : D), ys[i]? = some x → x[j]? = some d → ys[i']? = some x' → x'[j']? = some d' → (i, j) ≠ (i', j') → ∀ b o, G' i j b o → ¬ G' i' j' b o)
    (hrun : (execOp a.eval o).run P w = .ok (.value (.slice (some ⟨b, 0, none⟩) (xs.length + ys.length) cap)) (w.setRow b (arr.toList.take (xs.length * e) ++ vs ++ arr.toList.drop (xs.length * e + vs.length)).toArray)) :
    Goes P o a w (After en Fr (st.apps (kill (t :: ty) ++ .tok f (some ⟨3, E, e, B, xs ++ ys⟩) :: ret o (.v false [.tk f]))) (fun k => Fr k ∧ k ≠ f) w0 W K0) := by
  obtain ⟨narr, hn, hnz, hng, hu, hnh, _, hlt⟩ := row_written hz hroom hvl hh
  rw [hn] at hrun
  have hlo := r.loose ht (t :: ty) (by simp)
  have hX : ∀ b' o, wrote b xs.length ys.length e b' o → en.FT t b' o := by
    rintro b' o ⟨rfl, _, h⟩
    exact hF o (Nat.lt_of_lt_of_le h (Nat.mul_le_mul_right _ hroom))
  have hGt : ∀ {F' : CS}, within en st ty F' → ∀ b o, en.FT t b o → ¬ F' b o := by
    intro F' h2 b o hF hF'
    obtain ⟨t', ht', ⟨q', hq'⟩, h4⟩ := h2 b o hF'
    exact r.tt t t' _ q' ht hq' (fun e => hty (e ▸ ht')) b o hF h4
  have r1 := (r.dropAll (t :: ty)).wroteRow hlo hu hX
  have hT : TokRep (w.setRow b narr) en.K ⟨3, E, e, B, xs ++ ys⟩ (.slice (some ⟨b, 0, none⟩) (xs ++ ys).length cap) _ :=
    .three (join xs.length g g') (join xs.length G G') hnh (hnz.trans hz) (by simpa using hroom) hcm (by simpa using hb) (join_rows hxr hyr)
      (fun i j x d h1 h2 => hng _ _ (join_vs hlt (take_get hxr hxg) hyg i j x d h1 h2))
      (fun i j x d h1 h2 => by
        rcases join_get h1 with ⟨h, h1⟩ | ⟨h, h1⟩
        · rw [join_lt h, join_lt h]; exact hu.deepD (hxd i j x d h1 h2) fun b' o hG hw => hxb i j x d h1 h2 o (hw.1 ▸ hG)
        · rw [join_ge h, join_ge h]; exact hu.deepD (hyd _ j x d h1 h2) fun b' o hG hw => hGt (hyw _ j x d h1 h2) b' o (hX b' o hw) hG)
      (fun i j x d h1 h2 o => by
        rcases join_get h1 with ⟨h, h1⟩ | ⟨h, h1⟩
        · rw [join_lt h]; exact hxb i j x d h1 h2 o
        · rw [join_ge h]; intro hG
          by_cases ho : o < cap * e
          · exact hGt (hyw _ j x d h1 h2) b o (hF o ho) hG
          · obtain ⟨arr', T', q1, q2⟩ := (hyd _ j x d h1 h2).inB b o hG
            rw [hh] at q1
            injection q1 with q1; injection q1 with q1
            subst q1
            omega)
      (fun i j x d i' j' x' d' h1 h2 h3 h4 hne b o => by
        rcases join_get h1 with ⟨h, h1⟩ | ⟨h, h1⟩ <;> rcases join_get h3 with ⟨h', h3⟩ | ⟨h', h3⟩
        · rw [join_lt h, join_lt h']; exact hxx i j x d i' j' x' d' h1 h2 h3 h4 hne b o
        · rw [join_lt h, join_ge h']; exact fun q1 => hGt (hyw _ j' x' d' h3 h4) b o (hxw i j x d h1 h2 b o q1)
        · rw [join_ge h, join_lt h']; exact fun q1 q2 => hGt (hyw _ j x d h1 h2) b o (hxw i' j' x' d' h3 h4 b o q2) q1
        · rw [join_ge h, join_ge h']; exact hyy _ j x d _ j' x' d' h1 h2 h3 h4 (fun e => hne (by injection e with e1 e2; rw [e2, show i = i' by omega])) b o)
  have r2 := r1.newTok hf hT (by
    rintro b' o (⟨rfl, h⟩ | ⟨i, j, x, d, h1, h2, hG⟩)
    · exact hlo.k _ _ (hF o h)
    · rcases join_get h1 with ⟨h, h1⟩ | ⟨h, h1⟩
      · rw [join_lt h] at hG; exact hlo.k _ _ (hxw i j x d h1 h2 b' o hG)
      · rw [join_ge h] at hG; obtain ⟨t', ht', ⟨q', hq'⟩, h4⟩ := hyw _ j x d h1 h2 b' o hG
        exact r.kt t' q' hq' b' o h4) (by
    rintro b' cs hb' o (⟨e1, h⟩ | ⟨i, j, x, d, h1, h2, hG⟩)
    · exact hlo.b b' cs hb' o (by rw [e1]; exact hF o h)
    · rcases join_get h1 with ⟨h, h1⟩ | ⟨h, h1⟩
      · rw [join_lt h] at hG; exact hlo.b b' cs hb' o (hxw i j x d h1 h2 _ o hG)
      · rw [join_ge h] at hG; obtain ⟨t', ht', ⟨q', hq'⟩, h4⟩ := hyw _ j x d h1 h2 _ o hG
        rw [kill_box] at hb'
        exact r.bt b' t' cs q' hb' hq' o h4) (by
    rintro t1 q1 hq1 b' o (⟨rfl, h⟩ | ⟨i, j, x, d, h1, h2, hG⟩)
    · exact hlo.t t1 q1 hq1 _ o (hF o h)
    · rcases join_get h1 with ⟨h, h1⟩ | ⟨h, h1⟩
      · rw [join_lt h] at hG; exact hlo.t t1 q1 hq1 _ o (hxw i j x d h1 h2 b' o hG)
      · rw [join_ge h] at hG; obtain ⟨t', ht', ⟨q', hq'⟩, h4⟩ := hyw _ j x d h1 h2 b' o hG
        obtain ⟨k1, k2⟩ := kill_some hq1
        exact r.tt t' t1 q' q1 hq' k2 (fun e => k1 (e ▸ List.mem_cons_of_mem _ ht')) b' o h4) (by
    rintro b' o (⟨rfl, h⟩ | ⟨i, j, x, d, h1, h2, hG⟩)
    · exact hlo.a _ _ (hF o h)
    · rcases join_get h1 with ⟨h, h1⟩ | ⟨h, h1⟩
      · rw [join_lt h] at hG; exact hlo.a _ _ (hxw i j x d h1 h2 b' o hG)
      · rw [join_ge h] at hG; obtain ⟨t', ht', ⟨q', hq'⟩, h4⟩ := hyw _ j x d h1 h2 b' o hG
        exact r.ta t' q' hq' b' o h4)
  rw [apps_append]
  exact finish (st' := st.apps (kill (t :: ty))) r2 (apps_n _ _) hd hf (v := .slice (some ⟨b, 0, none⟩) (xs.length + ys.length) cap) ((upd_self _ _ _).trans (by simp)) rfl (fun _ _ => rfl) hrun

theorem room_read (r : RelE en st Fr a w w0 W K0) (hd : ∀ d, o.dst = some d → d < st.n) (hf : Fr f) {E e B t : Nat} {xs ys : List (List D)} {ty : List Nat} {vs : List Value} {g' : Nat → Nat → Value} {lx : Nat} {K' : CS}
    (r1 : RelE { en with K := K' } (st.apps (kill ty)) Fr a w w0 W K0) (hty : t ∉ ty)
    (ht : st.tok t = some ⟨lx, E, e, B, xs⟩) {b cap : Nat} {arr : Array Value} (hh : w.heap[b]? = some (.cells arr E (0, 0))) (hz : arr.size = cap * e) (hcm : cap ≤ maxLen) (hroom : xs.length + ys.length ≤ cap)
    (hF : ∀ o, xs.length * e ≤ o → o < cap * e → en.FT t b o) (hF2 : lx ≠ 1 → ∀ o, o < cap * e → en.FT t b o) (hb : (xs.length + ys.length) * B ≤ capB) (hxr : ∀ (i : Nat) (x : List D), xs[i]? = some x → x.length = e) (hyr : ∀ (i : Nat) (x : List D), ys[i]? = some x → x.length = e) {g : Nat → Nat → Value}
    (hxg : ∀ (i j : Nat) (x : List D) (d : D), xs[i]? = some x → x[j]? = some d → arr[i * e + j]? = some (g i j)) (hyg : ∀ (i j : Nat) (x : List D) (d : D), ys[i]? = some x → x[j]? = some d → vs[i * e + j]? = some (g' i j)) (hvl : vs.length = ys.length * e)
    (hxd : ∀ K'' : CS, (∀ b o, K' b o → K'' b o) → (∀ b' o, en.FT t b' o → b' ≠ b → K'' b' o) → ∀ (i j : Nat) (x : List D) (d : D), xs[i]? = some x → x[j]? = some d → RepD w K'' d (g i j))
    (hyd : ∀ (i j : Nat) (x : List D) (d : D), ys[i]? = some x → x[j]? = some d → RepD w K' d (g' i j))
    (hk1 : lx = 1 → ∀ (i j : Nat) (x : List D) (d : D), xs[i]? = some x → x[j]? = some d → K' b (i * e + j))
    (hrun : (execOp a.eval o).run P w = .ok (.value (.slice (some ⟨b, 0, none⟩) (xs.length + ys.length) cap)) (w.setRow b (arr.toList.take (xs.length * e) ++ vs ++ arr.toList.drop (xs.length * e + vs.length)).toArray)) :
    Goes P o a w (After en Fr (st.apps (kill (t :: ty) ++ .tok f (some ⟨bif Nat.beq lx 1 then 1 else 2, E, e, B, xs ++ ys⟩) :: ret o (.v false [.tk f]))) (fun k => Fr k ∧ k ≠ f) w0 W K0) := by
  obtain ⟨narr, hn, hnz, hng, hu, hnh, _, hlt⟩ := row_written hz hroom hvl hh
  rw [hn] at hrun
  have ht1 : (st.apps (kill ty)).tok t = some ⟨lx, E, e, B, xs⟩ := by rw [kill_tok, if_neg hty]; exact ht
  -- give the token up; its deep part may be read
  have hlo := r1.loose ht1 [t] (by simp)
  have hst : (st.apps (kill ty)).apps (kill [t]) = st.apps (kill (t :: ty)) := by
    have : kill (t :: ty) = kill [t] ++ kill ty := rfl
    rw [this]
    have hcomm : ∀ (l : List Nat) (s : St), (s.apps (kill l)).app (.tok t none) = (s.app (.tok t none)).apps (kill l) := by
      intro l
      induction l with
      | nil => intro s; rfl
      | cons x l ih =>
        intro s
        show ((s.app (.tok x none)).apps (kill l)).app (.tok t none) = ((s.app (.tok t none)).app (.tok x none)).apps (kill l)
        rw [ih]
        congr 1
        show St.mk _ _ (upd (upd s.tok x none) t none) _ _ = St.mk _ _ (upd (upd s.tok t none) x none) _ _
        congr 1
        funext k
        simp only [upd_eq]
        by_cases h1 : k = t <;> by_cases h2 : k = x <;> simp [h1, h2]
    rw [apps_append]
    exact hcomm ty st
  have r2 := r1.dropAll [t]
  rw [hst] at r2 hlo
  let K2 : CS := fun b' o => en.FT t b' o ∧ b' ≠ b
  have r3 := r2.growK (K' := K2) (fun b' cs h o hk => hlo.b b' cs h o hk.1) (fun t' q h b' o hf' hk => hlo.t t' q h b' o hk.1 hf') (fun b' o hk => hlo.a b' o hk.1) (fun b' o hk => (r.toks t _ ht).lt b' o hk.1)
  have hxd' := hxd (fun b o => K' b o ∨ K2 b o) (fun _ _ h => .inl h) (fun b' o h1 h2 => .inr ⟨h1, h2⟩)
  have hyd' : ∀ (i j : Nat) (x : List D) (d : D), ys[i]? = some x → x[j]? = some d → RepD w (fun b o => K' b o ∨ K2 b o) d (g' i j) := fun i j x d h1 h2 => (hyd i j x d h1 h2).mono fun _ _ h => .inl h
  -- the row, written
  let F : CS := fun b' o => b' = b ∧ en.FT t b o ∧ o < cap * e
  have hloF : Loose { en with K := fun b o => K' b o ∨ K2 b o } (st.apps (kill (t :: ty))) w0 W F := by
    refine ⟨?_, ?_, ?_, ?_⟩
    · rintro b' o ⟨rfl, h, _⟩ (hk | hk)
      · exact hlo.k _ _ h hk
      · exact hk.2 rfl
    · rintro b' cs hb' o ⟨e1, h, _⟩
      exact hlo.b b' cs hb' o (by rw [show en.FB b' = b from e1]; exact h)
    · rintro t' q hq b' o ⟨rfl, h, _⟩
      exact hlo.t t' q hq _ o h
    · rintro b' o ⟨rfl, h, _⟩
      exact hlo.a _ _ h
  have hX : ∀ b' o, wrote b xs.length ys.length e b' o → F b' o := by
    rintro b' o ⟨rfl, h1, h2⟩
    have h3 := Nat.lt_of_lt_of_le h2 (Nat.mul_le_mul_right e hroom)
    exact ⟨rfl, hF o h1 h3, h3⟩
  have r4 := r3.wroteRow hloF hu hX
  have hrd : ∀ {d : D} {v : Value}, RepD w (fun b o => K' b o ∨ K2 b o) d v → RepD (w.setRow b narr) (fun b o => K' b o ∨ K2 b o) d v := fun h => hu.repD (fun b' o hk hx => hloF.k b' o (hX b' o hx) hk) h
  have hget := fun i j x d h1 h2 => hng _ _ (join_vs hlt (take_get hxr hxg) hyg i j x d h1 h2)
  have hrep : ∀ (i j : Nat) (x : List D) (d : D), (xs ++ ys)[i]? = some x → x[j]? = some d → RepD (w.setRow b narr) (fun b o => K' b o ∨ K2 b o) d (join xs.length g g' i j) := by
    intro i j x d h1 h2
    rcases join_get h1 with ⟨h, h1⟩ | ⟨h, h1⟩
    · rw [join_lt h]; exact hrd (hxd' i j x d h1 h2)
    · rw [join_ge h]; exact hrd (hyd' _ j x d h1 h2)
  rw [apps_append]
  cases hl : Nat.beq lx 1 with
  | false =>
    have hl1 : lx ≠ 1 := fun e => by rw [e] at hl; cases hl
    have hT : TokRep (w.setRow b narr) (fun b o => K' b o ∨ K2 b o) ⟨2, E, e, B, xs ++ ys⟩ (.slice (some ⟨b, 0, none⟩) (xs ++ ys).length cap) _ :=
      .two (join xs.length g g') hnh (hnz.trans hz) (by simpa using hroom) hcm (by simpa using hb) (join_rows hxr hyr) hget hrep
    have hin : ∀ b' o, (b' = b ∧ o < cap * e) → F b' o := fun b' o ⟨e1, h⟩ => ⟨e1, hF2 hl1 o h, h⟩
    have r5 := r4.newTok hf hT (fun b' o h => hloF.k b' o (hin b' o h)) (fun b' cs h o hF => hloF.b b' cs h o (hin _ o hF)) (fun t' q h b' o hF => hloF.t t' q h b' o (hin _ o hF)) fun b' o h => hloF.a b' o (hin b' o h)
    exact finish (st' := st.apps (kill (t :: ty))) r5 (apps_n _ _) hd hf (v := .slice (some ⟨b, 0, none⟩) (xs.length + ys.length) cap) ((upd_self _ _ _).trans (by simp)) rfl (fun _ _ => rfl) hrun
  | true =>
    have hl1 : lx = 1 := Nat.eq_of_beq_eq_true hl
    let K3 : CS := wrote b xs.length ys.length e
    have r5 := r4.growK (K' := K3) (fun b' cs h o hk => hloF.b b' cs h o (hX _ o hk)) (fun t' q h b' o hf' hk => hloF.t t' q h b' o (hX b' o hk) hf') (fun b' o hk => hloF.a b' o (hX b' o hk)) (fun b' o hk => by
      have := hk.1; subst this; exact heap_lt hnh)
    have hT : TokRep (w.setRow b narr) (fun b o => (K' b o ∨ K2 b o) ∨ K3 b o) ⟨1, E, e, B, xs ++ ys⟩ (.slice (some ⟨b, 0, none⟩) (xs ++ ys).length cap) _ :=
      .one (join xs.length g g') hnh (hnz.trans hz) (by simpa using hroom) hcm (by simpa using hb) (join_rows hxr hyr) hget
        (fun i j x d h1 h2 => by
          have ⟨hi, hj⟩ := len_of (join_rows hxr hyr) h1 h2
          have hlt2 := idx_lt hi hj
          rw [List.length_append] at hlt2
          rcases join_get h1 with ⟨h, h1⟩ | ⟨h, h1⟩
          · exact .inl (.inl (hk1 hl1 i j x d h1 h2))
          · exact .inr ⟨rfl, Nat.le_trans (Nat.mul_le_mul_right e h) (Nat.le_add_right _ _), hlt2⟩)
        fun i j x d h1 h2 => (hrep i j x d h1 h2).mono fun _ _ h => .inl h
    have hin : ∀ b' o, (b' = b ∧ (xs ++ ys).length * e ≤ o ∧ o < cap * e) → F b' o ∧ ¬ K3 b' o := fun b' o ⟨e1, h1, h2⟩ => by
      rw [List.length_append] at h1
      refine ⟨⟨e1, hF o (Nat.le_trans (Nat.mul_le_mul_right e (Nat.le_add_right _ _)) h1) h2, h2⟩, fun h => ?_⟩
      have := h.2.2
      omega
    have r6 := r5.newTok hf hT (fun b' o h hk => hk.elim (hloF.k b' o (hin b' o h).1) (hin b' o h).2) (fun b' cs h o hF => hloF.b b' cs h o (hin _ o hF).1) (fun t' q h b' o hF => hloF.t t' q h b' o (hin _ o hF).1) fun b' o h => hloF.a b' o (hin b' o h).1
    exact finish (st' := st.apps (kill (t :: ty))) r6 (apps_n _ _) hd hf (v := .slice (some ⟨b, 0, none⟩) (xs.length + ys.length) cap) ((upd_self _ _ _).trans (by simp)) rfl (fun _ _ => rfl) hrun

end
end Go.Gl
