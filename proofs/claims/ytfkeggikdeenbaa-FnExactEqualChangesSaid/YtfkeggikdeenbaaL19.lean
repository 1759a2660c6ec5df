/- Slices are appended to: all together. -/
import Derived.Test.YtfkeggikdeenbaaL18
set_option linter.unusedVariables false
set_option linter.unusedSimpArgs false
namespace Go.Gl
open Go.RowKit

section
variable {P : Program} {en : En} {st : St} {Fr : Nat → Prop} {a : Act} {w w' w0 : World} {W K X : CS} {K0 : Kb} {o : Oper} {f : Nat}

theorem noRows {xs : List (List D)} (h : xs = []) {Q : Nat → Nat → List D → D → Prop} : ∀ (i j : Nat) (x : List D) (d : D), xs[i]? = some x → x[j]? = some d → Q i j x d := by
  subst h; intro i j x d h1; simp at h1

theorem sound_append (r : RelE en st Fr a w w0 W K0) (hd : ∀ d, o.dst = some d → d < st.n) (hf : Fr f) {c : Call} {x y : Operand} {Ts Tx : TypeId} (ho : o.op = .call c) (hc : c.callee = .builtin .append) (ha : c.args.toList = [x, y]) (hts : c.argTypes.toList = [Ts, Tx])
    {E e B : Nat} (hT : sliceT P Ts = some (E, e, B)) {ks : List CK} (hk : layZ P E = some ks) (he : ks.length = e) (hB : 0 < B) {str : Bool} (hTx : kindOf P Tx str) {lx ly : Nat} {φ : Prop} {xs ys : List (List D)} {tx ty : List Nat}
    (hX : appX E e B st.tok (st.ev x) = some (lx, xs, tx)) (hY : appY ks e str st.tok (st.ev y) = some (ly, φ, ys, ty)) (hdist : (tx ++ ty).Nodup) (hφ : φ) (hb : (xs.length + ys.length) * B ≤ capB) :
    Goes P o a w (After en Fr (st.apps (kill (tx ++ ty) ++ .tok f (some ⟨bif Nat.beq lx 3 && Nat.beq ly 3 then 3 else bif Nat.beq lx 1 then 1 else 2, E, e, B, xs ++ ys⟩) :: ret o (.v false [.tk f]))) (fun k => Fr k ∧ k ≠ f) w0 W K0) := by
  obtain ⟨hu, i, hi, hsz, hby⟩ := sliceT_spec hT
  have hdj := nodup_split hdist
  obtain ⟨⟨hl0, hl3⟩, hX⟩ := appX_spec r hX
  -- nothing is appended to nothing
  have nothing : xs = [] → ys = [] → a.eval x = .slice none 0 0 → ∀ L, Goes P o a w (After en Fr (st.apps (kill (tx ++ ty) ++ .tok f (some ⟨L, E, e, B, xs ++ ys⟩) :: ret o (.v false [.tk f]))) (fun k => Fr k ∧ k ≠ f) w0 W K0) := by
    intro hx0 hy0 hv L
    obtain ⟨K', r1, hkk, hkt⟩ := r.freezeAll ty
    obtain ⟨vs, g, hyr, _⟩ := appY_read r hY hφ he hTx hkk hkt
    have hsrc := hyr.src
    rw [hy0, ← hsz] at hsrc
    have hrun := run_append_none (P := P) (w := w) (ty := o.type) hu hi hsrc
    rw [← hv] at hrun
    have r2 := (r.dropAll (tx ++ ty)).newTok hf (tk := ⟨L, E, e, B, []⟩) (v := .slice none 0 0) (TokRep.nil (w := w) (K := en.K)) (fun _ _ h => h.elim) (fun _ _ _ _ h => h) (fun _ _ _ _ _ h => h.elim) fun _ _ h => h.elim
    rw [hx0, hy0, apps_append]
    exact finish (st' := st.apps (kill (tx ++ ty))) r2 (apps_n _ _) hd hf (upd_self _ _ _) rfl (fun _ _ => rfl) (append_run ho hc ha hts (by rw [hrun, hv]))
  -- a new row for what is appended to nothing
  have fresh : xs = [] → 0 < ys.length → a.eval x = .slice none 0 0 → lx = 3 ∨ tx ≠ [] → Goes P o a w (After en Fr (st.apps (kill (tx ++ ty) ++ .tok f (some ⟨bif Nat.beq lx 3 && Nat.beq ly 3 then 3 else bif Nat.beq lx 1 then 1 else 2, E, e, B, xs ++ ys⟩) :: ret o (.v false [.tk f]))) (fun k => Fr k ∧ k ≠ f) w0 W K0) := by
    intro hx0 hy0 hv _
    subst hx0
    have hold : (Builtin.firstCells e 0 (.slice none 0 0)).run P w.drew = .ok ([] : List Value).toArray w.drew := run_firstCells_none w.drew e 0 0 0
    cases hdeep : (Nat.beq lx 3 && Nat.beq ly 3) with
    | true =>
      rw [Bool.and_eq_true] at hdeep
      obtain rfl := Nat.eq_of_beq_eq_true hdeep.2
      obtain ⟨vs, g', G', h1, h2, h3, h4⟩ := appY_deep r hY hφ he hTx
      obtain ⟨N, arr, q1, q2, q3, q4, q5⟩ := run_grow (w := w) (ty := o.type) hT hk he hB h1.src hold (by simp) (by omega : (0 : Nat) < 0 + ys.length) (by simpa using hb)
      rw [← hv] at q3
      exact grow_deep r hd hf (us := []) (g := fun _ _ => undef) (G := fun _ _ _ _ => False) hdj (by simp) (fun i x h => by simp at h) h1.rows (fun i j x d h => by simp at h) h1.get (fun i j x d h => by simp at h) h2 (fun i j x d h => by simp at h) h3
        (fun i j x d i' j' x' d' h => by simp at h) h4 (by simpa using q1) q2 (by simpa using hb) q4 q5 (append_run ho hc ha hts (by simpa using q3))
    | false =>
      obtain ⟨K', r1, hkk, hkt⟩ := r.freezeAll (tx ++ ty)
      obtain ⟨vs, g', h1, h2⟩ := appY_read r hY hφ he hTx hkk fun t ht => hkt t (List.mem_append_right _ ht)
      obtain ⟨N, arr, q1, q2, q3, q4, q5⟩ := run_grow (w := w) (ty := o.type) hT hk he hB h1.src hold (by simp) (by omega : (0 : Nat) < 0 + ys.length) (by simpa using hb)
      rw [← hv] at q3
      exact grow_two r hd hf r1 (us := []) (g := fun _ _ => undef) (by simp) (fun i x h => by simp at h) h1.rows (fun i j x d h => by simp at h) h1.get (fun i j x d h => by simp at h) h2
        (by simpa using q1) q2 (by simpa using hb) q4 q5 (append_run ho hc ha hts (by simpa using q3)) (Nat.beq lx 1)
  rcases hX with ⟨hx0, htx, hl, hv⟩ | ⟨t, htx, ht, hv⟩
  · rcases Nat.eq_zero_or_pos ys.length with hy0 | hy0
    · exact nothing hx0 (List.eq_nil_of_length_eq_zero hy0) hv _
    · exact fresh hx0 hy0 hv (.inl hl)
  · have hrep := r.toks t _ ht
    rw [← hv] at hrep
    rcases hrep.row with ⟨hv0, hx0⟩ | ⟨b, cap, arr, hv1, hh, hz, hn, hcm, hL, hF, hF2, g, hg, hrd, hk1, _, hdp⟩
    · rcases Nat.eq_zero_or_pos ys.length with hy0 | hy0
      · exact nothing hx0 (List.eq_nil_of_length_eq_zero hy0) hv0 _
      · exact fresh hx0 hy0 hv0 (.inr (by rw [htx]; simp))
    · simp only at hv1 hh hz hn hL hF hF2 hg hrd hk1 hdp
      have hxr : ∀ (i : Nat) (x : List D), xs[i]? = some x → x.length = e := hrep.rows
      have hty : t ∉ ty := hdj t (by rw [htx]; simp)
      have hlen : (xs.length) * e ≤ cap * e := Nat.mul_le_mul_right _ hn
      have hul : (arr.toList.take (xs.length * e)).length = xs.length * e := by simp only [List.length_take, Array.length_toList, hz]; omega
      have hxg := take_get hxr hg
      have hold : (Builtin.firstCells e xs.length (.slice (some ⟨b, 0, none⟩) xs.length cap)).run P w.drew = .ok (arr.toList.take (xs.length * e)).toArray w.drew :=
        run_firstCells_some w.drew e xs.length ⟨b, 0, none⟩ xs.length cap _ hul fun k v hk => by
          rw [List.getElem?_take] at hk
          split at hk
          · rw [add_none, Nat.zero_add, show w.drew.cell? ⟨b, k, none⟩ = w.cell? ⟨b, k, none⟩ from rfl, cell?_cells hh, ← Array.getElem?_toList]; exact hk
          · cases hk
      cases hdeep : (Nat.beq lx 3 && Nat.beq ly 3) with
      | true =>
        rw [Bool.and_eq_true] at hdeep
        obtain rfl := Nat.eq_of_beq_eq_true hdeep.1
        obtain rfl := Nat.eq_of_beq_eq_true hdeep.2
        obtain ⟨vs, g', G', h1, h2, h3, h4⟩ := appY_deep r hY hφ he hTx
        obtain ⟨G, d1, d2, d3, d4⟩ := hdp rfl
        by_cases hroom : xs.length + ys.length ≤ cap
        · have hrun := run_append_room_row (P := P) (w := w) (ty := o.type) hu hi hh (by rw [hsz]; exact h1.src) hroom (by
            rw [hsz, h1.src.newsLen, hz, ← Nat.add_mul]; exact Nat.mul_le_mul_right _ hroom)
          rw [← hv1, hsz] at hrun
          have := room_deep r hd hf ht hty hh hz hcm hroom (hF2 (by simp)) hb hxr h1.rows hg h1.get h1.src.newsLen d1 h2 d2 d3 h3 d4 h4 (append_run ho hc ha hts hrun)
          rw [htx]; exact this
        · obtain ⟨N, arr', q1, q2, q3, q4, q5⟩ := run_grow (w := w) (ty := o.type) hT hk he hB h1.src hold hul (by omega) hb
          rw [← hv1] at q3
          exact grow_deep r hd hf hdj hul hxr h1.rows hxg h1.get d1 h2 (fun i j x d p1 p2 b' o' hG => ⟨t, by rw [htx]; simp, ⟨_, ht⟩, d2 i j x d p1 p2 b' o' hG⟩) h3 d4 h4 q1 q2 hb q4 q5 (append_run ho hc ha hts q3)
      | false =>
        by_cases hroom : xs.length + ys.length ≤ cap
        · obtain ⟨K', r1, hkk, hkt⟩ := r.freezeAll ty
          obtain ⟨vs, g', h1, h2⟩ := appY_read r hY hφ he hTx hkk hkt
          have hrun := run_append_room_row (P := P) (w := w) (ty := o.type) hu hi hh (by rw [hsz]; exact h1.src) hroom (by
            rw [hsz, h1.src.newsLen, hz, ← Nat.add_mul]; exact Nat.mul_le_mul_right _ hroom)
          rw [← hv1, hsz] at hrun
          have := room_read r hd hf r1 hty ht hh hz hcm hroom hF hF2 hb hxr h1.rows hg h1.get h1.src.newsLen (fun K'' p1 p2 => hrd K'' (fun b o h => p1 b o (hkk b o h)) p2) h2 (fun hl i j x d p1 p2 => hkk _ _ (hk1 hl i j x d p1 p2)) (append_run ho hc ha hts hrun)
          rw [htx]; exact this
        · obtain ⟨K', r1, hkk, hkt⟩ := r.freezeAll (tx ++ ty)
          obtain ⟨vs, g', h1, h2⟩ := appY_read r hY hφ he hTx hkk fun t ht => hkt t (List.mem_append_right _ ht)
          obtain ⟨N, arr', q1, q2, q3, q4, q5⟩ := run_grow (w := w) (ty := o.type) hT hk he hB h1.src hold hul (by omega) hb
          rw [← hv1] at q3
          have hKx := hkt t (List.mem_append_left _ (by rw [htx]; simp)) _ ht
          have hxd : ∀ (i j : Nat) (x : List D) (d : D), xs[i]? = some x → x[j]? = some d → RepD w K' d (g i j) := by
            rw [← hv, hv1] at hKx
            intro i j x d p1 p2
            have hKx' : RepD w K' (.sl B xs) (.slice (some ⟨b, 0, none⟩) xs.length cap) := hKx
            generalize hnn : xs.length = nn at hKx'
            cases hKx' with
            | nil => simp at p1
            | sl e' g2 hs2 hb2 hm2 hn2 hx2 hc2 hr2 =>
              have e1 := (hc2 i j x d p1 p2).2
              have e2 : e' = e := (hx2 i x p1).symm.trans (hxr i x p1)
              rw [e2] at e1
              rw [show (0 : Nat) + (i * e + j) = i * e + j from Nat.zero_add _, cell?_cells hh, hg i j x d p1 p2] at e1
              rw [Option.some.inj e1]
              exact hr2 i j x d p1 p2
          exact grow_two r hd hf r1 hul hxr h1.rows hxg h1.get hxd h2 q1 q2 hb q4 q5 (append_run ho hc ha hts q3) (Nat.beq lx 1)

end
end Go.Gl
