/- A contract says no less of what it returns: owned at a lower level, or only read. -/
import Derived.Test.YtfkeggikdeenbaaL41
set_option linter.unusedVariables false
set_option linter.unusedSimpArgs false
namespace Go.Gl
open Go.RowKit

def weakK : RK → RK → Bool
  | .c _, .c _ => true
  | .own L T e B, .own L' T' e' B' => Nat.beq T T' && (Nat.beq e e' && (Nat.beq B B' && (Nat.blt 0 L' && Nat.ble L' L)))
  | _, _ => false

def weakL : List RK → List RK → Bool
  | [], [] => true
  | a :: r, b :: s => weakK a b && weakL r s
  | _, _ => false

def weakV : List (Bool × List RK) → List (Bool × List RK) → Bool
  | [], [] => true
  | a :: r, b :: s => (!(Bool.xor a.1 b.1)) && (weakL a.2 b.2 && weakV r s)
  | _, _ => false

def weakB : List (List RK) → List (List RK) → Bool
  | [], [] => true
  | a :: r, b :: s => weakL a b && weakB r s
  | _, _ => false

/-- What is given up: pairs of what was owned and what still is. -/
def Up (ps : List (CS × CS)) : CS := fun b o => ∃ p ∈ ps, p.1 b o ∧ ¬ p.2 b o

def Sub (ps : List (CS × CS)) : Prop := ∀ p ∈ ps, ∀ b o, p.2 b o → p.1 b o

section
variable {w : World} {K : CS}

theorem weak_cells : ∀ {ks ks' : List RK} {ds : List D} {vs : List Value} {Fs : List CS}, weakL ks ks' = true → ARepL w K (mkACells ks ds).1 vs Fs →
    ∃ ps : List (CS × CS), ps.map (·.1) = Fs ∧ Sub ps ∧ (mkACells ks' ds).2 = (mkACells ks ds).2 ∧ ∀ K' : CS, (∀ b o, K b o → K' b o) → (∀ b o, Up ps b o → K' b o) → ARepL w K' (mkACells ks' ds).1 vs (ps.map (·.2))
  | [], [], ds, vs, Fs, _, h => by
    cases h
    exact ⟨[], rfl, (fun _ h => nomatch h), rfl, fun K' _ _ => .nil⟩
  | [], _ :: _, _, _, _, h, _ => by cases h
  | _ :: _, [], _, _, _, h, _ => by cases h
  | k :: ks, k' :: ks', ds, vs, Fs, hw, h => by
    unfold weakL at hw
    rw [Bool.and_eq_true] at hw
    have done : ∀ {a a' : ACell} {ds' : List D} {v : Value} {vs : List Value} {F : CS} {Fs : List CS}, mkACells (k :: ks) ds = (a :: (mkACells ks ds').1, (mkACells ks ds').2) → mkACells (k' :: ks') ds = (a' :: (mkACells ks' ds').1, (mkACells ks' ds').2) →
        ARepL w K (mkACells ks ds').1 vs Fs → (∃ S : CS, (∀ b o, S b o → F b o) ∧ ∀ K' : CS, (∀ b o, K b o → K' b o) → (∀ b o, F b o → ¬ S b o → K' b o) → ARep w K' a' v S) →
        ∃ ps : List (CS × CS), ps.map (·.1) = F :: Fs ∧ Sub ps ∧ (mkACells (k' :: ks') ds).2 = (mkACells (k :: ks) ds).2 ∧ ∀ K' : CS, (∀ b o, K b o → K' b o) → (∀ b o, Up ps b o → K' b o) → ARepL w K' (mkACells (k' :: ks') ds).1 (v :: vs) (ps.map (·.2)) := by
      intro a a' ds' v vs F Fs e1 e2 ht ⟨S, s1, s2⟩
      obtain ⟨ps, p1, p2, p3, p4⟩ := weak_cells hw.2 ht
      refine ⟨(F, S) :: ps, by simp [p1], fun p hp => ?_, by rw [e1, e2]; exact p3, fun K' h1 h2 => ?_⟩
      · rcases List.mem_cons.1 hp with rfl | hp
        · exact s1
        · exact p2 p hp
      · rw [e2]
        exact .cons (s2 K' h1 fun b o hf hs => h2 b o ⟨(F, S), by simp, hf, hs⟩) (p4 K' h1 fun b o ⟨p, hp, h3⟩ => h2 b o ⟨p, List.mem_cons_of_mem _ hp, h3⟩)
    have plain : ∀ {a : ACell} {v : Value} {F : CS}, ARep w K a v F → (∀ t, a ≠ .own t) → ∃ S : CS, (∀ b o, S b o → F b o) ∧ ∀ K' : CS, (∀ b o, K b o → K' b o) → (∀ b o, F b o → ¬ S b o → K' b o) → ARep w K' a v S := by
      intro a v F ha hn
      cases ha with
      | any h => exact ⟨_, fun _ _ h => h, fun K' _ _ => .any h⟩
      | c h => exact ⟨_, fun _ _ h => h, fun K' h1 _ => .c (h.mono h1)⟩
      | nil => exact ⟨_, fun _ _ h => h, fun K' _ _ => .nil⟩
      | own h => exact absurd rfl (hn _)
    cases k with
    | c q =>
      cases k' with
      | own => cases hw.1
      | c q' =>
        cases ds with
        | nil =>
          cases h with
          | cons ha ht => exact done (a := .any) (a' := .any) (ds' := []) rfl rfl ht (plain ha fun _ h => nomatch h)
        | cons d ds =>
          cases h with
          | cons ha ht => exact done (a := .c d) (a' := .c d) (ds' := ds) rfl rfl ht (plain ha fun _ h => nomatch h)
    | own L T e B =>
      cases ds with
      | nil =>
        cases h with
        | cons ha ht =>
          refine done (a := .any) (a' := .any) (ds' := []) rfl ?_ ht (plain ha fun _ h => nomatch h)
          cases k' <;> rfl
      | cons d ds =>
        cases d with
        | sl Bd xs =>
          cases h with
          | cons ha ht =>
            cases ha with
            | own hT =>
              cases k' with
              | own L' T' e' B' =>
                have hk := hw.1
                simp only [weakK, Bool.and_eq_true] at hk
                obtain ⟨k1, k2, k3, k4, k5⟩ := hk
                obtain rfl := Nat.eq_of_beq_eq_true k1
                obtain rfl := Nat.eq_of_beq_eq_true k2
                obtain rfl := Nat.eq_of_beq_eq_true k3
                have k4 : 0 < L' := Nat.le_of_ble_eq_true k4
                have k5 := Nat.le_of_ble_eq_true k5
                obtain ⟨S, s1, s2⟩ := hT.levelTo k4 k5
                exact done (a := .own ⟨L, T, e, B, xs⟩) (a' := .own ⟨L', T, e, B, xs⟩) (ds' := ds) rfl rfl ht ⟨S, s1, fun K' h1 h2 => .own (s2 K' h1 h2)⟩
              | c q => cases hw.1
        | int _ _ =>
          cases h with
          | cons ha ht =>
            cases k' with
            | own => exact done (a := .any) (a' := .any) (ds' := .int _ _ :: ds) rfl rfl ht (plain ha fun _ h => nomatch h)
            | c q => cases hw.1
        | bool _ =>
          cases h with
          | cons ha ht =>
            cases k' with
            | own => exact done (a := .any) (a' := .any) (ds' := .bool _ :: ds) rfl rfl ht (plain ha fun _ h => nomatch h)
            | c q => cases hw.1
        | str _ =>
          cases h with
          | cons ha ht =>
            cases k' with
            | own => exact done (a := .any) (a' := .any) (ds' := .str _ :: ds) rfl rfl ht (plain ha fun _ h => nomatch h)
            | c q => cases hw.1

theorem weak_val {b : Bool} {ks ks' : List RK} {ds : List D} {v : Value} {Fs : List CS} (hw : weakL ks ks' = true) (h : AVal w K b (mkACells ks ds).1 v Fs) :
    ∃ ps : List (CS × CS), ps.map (·.1) = Fs ∧ Sub ps ∧ (mkACells ks' ds).2 = (mkACells ks ds).2 ∧ ∀ K' : CS, (∀ b o, K b o → K' b o) → (∀ b o, Up ps b o → K' b o) → AVal w K' b (mkACells ks' ds).1 v (ps.map (·.2)) := by
  generalize hc : (mkACells ks ds).1 = cs at h
  cases h with
  | one ha =>
    obtain ⟨ps, p1, p2, p3, p4⟩ := weak_cells (w := w) (K := K) (ds := ds) (vs := [v]) (Fs := [_]) hw (by rw [hc]; exact .cons ha .nil)
    refine ⟨ps, p1, p2, p3, fun K' h1 h2 => ?_⟩
    have := p4 K' h1 h2
    match ps, p1 with
    | [p], _ =>
      generalize (mkACells ks' ds).1 = cs' at this
      cases this with
      | cons ha ht => cases ht; exact .one ha
  | agg ha =>
    obtain ⟨ps, p1, p2, p3, p4⟩ := weak_cells (w := w) (K := K) (ds := ds) hw (by rw [hc]; exact ha)
    exact ⟨ps, p1, p2, p3, fun K' h1 h2 => .agg (p4 K' h1 h2)⟩

theorem Up.left {ps qs : List (CS × CS)} {K' : CS} (h : ∀ b o, Up (ps ++ qs) b o → K' b o) : ∀ b o, Up ps b o → K' b o := fun b o ⟨p, hp, h1⟩ => h b o ⟨p, List.mem_append_left _ hp, h1⟩
theorem Up.right {ps qs : List (CS × CS)} {K' : CS} (h : ∀ b o, Up (ps ++ qs) b o → K' b o) : ∀ b o, Up qs b o → K' b o := fun b o ⟨p, hp, h1⟩ => h b o ⟨p, List.mem_append_right _ hp, h1⟩
theorem Sub.append {ps qs : List (CS × CS)} (h1 : Sub ps) (h2 : Sub qs) : Sub (ps ++ qs) := fun p hp => (List.mem_append.1 hp).elim (h1 p) (h2 p)

theorem weak_res : ∀ {xs xs' : List (Bool × List RK)} {ds : List D} {rs : List Value} {Ls : List CS}, weakV xs xs' = true → ResRep w K (mkVals xs ds).1 rs Ls →
    ∃ ps : List (CS × CS), ps.map (·.1) = Ls ∧ Sub ps ∧ (mkVals xs' ds).2 = (mkVals xs ds).2 ∧ ∀ K' : CS, (∀ b o, K b o → K' b o) → (∀ b o, Up ps b o → K' b o) → ResRep w K' (mkVals xs' ds).1 rs (ps.map (·.2))
  | [], [], ds, rs, Ls, _, h => by
    cases h
    exact ⟨[], rfl, (fun _ h => nomatch h), rfl, fun K' _ _ => .nil⟩
  | [], _ :: _, _, _, _, h, _ => by cases h
  | _ :: _, [], _, _, _, h, _ => by cases h
  | (b, ks) :: xs, (b', ks') :: xs', ds, rs, Ls, hw, h => by
    unfold weakV at hw
    simp only [Bool.and_eq_true] at hw
    obtain ⟨w0, w1, w2⟩ := hw
    obtain rfl : b = b' := by cases b <;> cases b' <;> simp_all
    have h : ResRep w K ((b, (mkACells ks ds).1) :: (mkVals xs (mkACells ks ds).2).1) rs Ls := h
    cases h with
    | cons hv ht =>
      obtain ⟨ps, p1, p2, p3, p4⟩ := weak_val w1 hv
      obtain ⟨qs, q1, q2, q3, q4⟩ := weak_res w2 ht
      refine ⟨ps ++ qs, by rw [List.map_append, p1, q1], p2.append q2, ?_, fun K' h1 h2 => ?_⟩
      · show (mkVals xs' (mkACells ks' ds).2).2 = (mkVals xs (mkACells ks ds).2).2
        rw [p3]; exact q3
      · show ResRep w K' ((b, (mkACells ks' ds).1) :: (mkVals xs' (mkACells ks' ds).2).1) _ _
        rw [List.map_append, p3]
        exact .cons (p4 K' h1 (Up.left h2)) (q4 K' h1 (Up.right h2))

theorem weak_bx : ∀ {xs xs' : List (List RK)} {ds : List D} {gs : List Nat} {Ls : List CS}, weakB xs xs' = true → BRepL w K (mkBxs xs ds) gs Ls →
    ∃ ps : List (CS × CS), ps.map (·.1) = Ls ∧ Sub ps ∧ ∀ K' : CS, (∀ b o, K b o → K' b o) → (∀ b o, Up ps b o → K' b o) → BRepL w K' (mkBxs xs' ds) gs (ps.map (·.2))
  | [], [], ds, gs, Ls, _, h => by
    cases h
    exact ⟨[], rfl, (fun _ h => nomatch h), fun K' _ _ => .nil⟩
  | [], _ :: _, _, _, _, h, _ => by cases h
  | _ :: _, [], _, _, _, h, _ => by cases h
  | ks :: xs, ks' :: xs', ds, gs, Ls, hw, h => by
    unfold weakB at hw
    rw [Bool.and_eq_true] at hw
    have h : BRepL w K ((mkACells ks ds).1 :: mkBxs xs (mkACells ks ds).2) gs Ls := h
    cases h with
    | cons hh hv ht =>
      obtain ⟨ps, p1, p2, p3, p4⟩ := weak_cells hw.1 hv
      obtain ⟨qs, q1, q2, q4⟩ := weak_bx hw.2 ht
      rename_i g _ _ _ _ _
      refine ⟨(blk g, blk g) :: ps ++ qs, by simp [p1, q1], ?_, fun K' h1 h2 => ?_⟩
      · intro p hp
        rcases List.mem_cons.1 hp with rfl | hp
        · exact fun _ _ h => h
        · exact (p2.append q2) p hp
      · show BRepL w K' ((mkACells ks' ds).1 :: mkBxs xs' (mkACells ks' ds).2) _ _
        have h2' : ∀ b o, Up (ps ++ qs) b o → K' b o := fun b o ⟨p, hp, h3⟩ => h2 b o ⟨p, List.mem_cons_of_mem _ hp, h3⟩
        have := BRepL.cons hh (p4 K' h1 (Up.left h2')) (q4 K' h1 (Up.right h2'))
        rw [p3]
        simpa using this

end

theorem aRepL_lt {w : World} {K : CS} {cs : List ACell} {vs : List Value} {Fs : List CS} (h : ARepL w K cs vs Fs) : ∀ F ∈ Fs, ∀ b o, F b o → b < w.heap.size := by
  induction h with
  | nil => exact fun _ h => nomatch h
  | cons ha _ ih =>
    intro F hF b o hf
    rcases List.mem_cons.1 hF with rfl | hF
    · cases ha with
      | own h => exact h.lt b o hf
      | _ => exact hf.elim
    · exact ih F hF b o hf

theorem aVal_lt {w : World} {K : CS} {b : Bool} {cs : List ACell} {v : Value} {Fs : List CS} (h : AVal w K b cs v Fs) : ∀ F ∈ Fs, ∀ b o, F b o → b < w.heap.size := by
  cases h with
  | one ha => exact aRepL_lt (.cons ha .nil)
  | agg ha => exact aRepL_lt ha

theorem resRep_lt {w : World} {K : CS} {xs : List (Bool × List ACell)} {vs : List Value} {Ls : List CS} (h : ResRep w K xs vs Ls) : ∀ F ∈ Ls, ∀ b o, F b o → b < w.heap.size := by
  induction h with
  | nil => exact fun _ h => nomatch h
  | cons hv _ ih =>
    intro F hF
    rcases List.mem_append.1 hF with hF | hF
    · exact aVal_lt hv F hF
    · exact ih F hF

theorem bRepL_lt {w : World} {K : CS} {xs : List (List ACell)} {gs : List Nat} {Ls : List CS} (h : BRepL w K xs gs Ls) : ∀ F ∈ Ls, ∀ b o, F b o → b < w.heap.size := by
  induction h with
  | nil => exact fun _ h => nomatch h
  | cons hh ha _ ih =>
    intro F hF b o hf
    rcases List.mem_append.1 hF with hF | hF
    · rcases List.mem_cons.1 hF with rfl | hF
      · have e : b = _ := hf
        subst e
        exact (Array.getElem?_eq_some_iff.1 hh).1
      · exact aRepL_lt ha F hF b o hf
    · exact ih F hF b o hf

/-- The same contract, with a weaker word on what is returned. -/
theorem C.weak {P : Program} {f : FuncId} {args : List Arg} {sg sg' : Sig} {R : Pay sg.kinds} {R' : Pay sg'.kinds} (h : C P f args sg R) (hw : (weakV sg.res sg'.res && weakB sg.bx sg'.bx) = true) (hR : ∀ ds, Pay.app sg.kinds R ds → Pay.app sg'.kinds R' ds) : C P f args sg' R' := by
  rw [Bool.and_eq_true] at hw
  refine ⟨fun w K vs gs Ls hin hgood => (h.run w K vs gs Ls hin hgood).mono fun e w' ⟨ds, rs, K', L1, L2, q1, q2, q3, q4, q5, q6, q7, q8⟩ => ?_⟩
  obtain ⟨ps, p1, p2, p3, p4⟩ := weak_res hw.1 q3
  obtain ⟨qs, s1, s2, s4⟩ := weak_bx hw.2 q4
  let K'' : CS := fun b o => K' b o ∨ Up (ps ++ qs) b o
  have hmap : L1 ++ L2 = (ps ++ qs).map (·.1) := by rw [List.map_append, p1, s1]
  have hsub := p2.append s2
  refine ⟨ds, rs, K'', ps.map (·.2), qs.map (·.2), hR ds q1, q2, p4 K'' (fun _ _ h => .inl h) (fun b o h => .inr (Up.left (fun _ _ h => h) b o h)), ?_, ?_, q6, fun b o hk => ?_, fun F hF b o hf => ?_⟩
  · rw [p3]
    exact s4 K'' (fun _ _ h => .inl h) fun b o h => .inr (Up.right (fun _ _ h => h) b o h)
  · rw [← List.map_append]
    rw [hmap] at q5
    have hd := q5.d
    rw [List.pairwise_map] at hd
    refine ⟨fun F hF b o hf hk => ?_, ?_, fun b o hk => ?_⟩
    · obtain ⟨p, hp, rfl⟩ := List.mem_map.1 hF
      rcases hk with hk | ⟨p', hp', h1, h2⟩
      · exact q5.k p.1 (List.mem_map_of_mem hp) b o (hsub p hp b o hf) hk
      · by_cases e : p = p'
        · subst e; exact h2 hf
        · obtain ⟨i, hi⟩ := List.mem_iff_getElem?.1 hp
          obtain ⟨j, hj⟩ := List.mem_iff_getElem?.1 hp'
          have hil := List.getElem?_eq_some_iff.1 hi
          have hjl := List.getElem?_eq_some_iff.1 hj
          rcases Nat.lt_trichotomy i j with hlt | heq | hlt
          · have := List.pairwise_iff_getElem.1 hd i j hil.1 hjl.1 hlt b o
            rw [hil.2, hjl.2] at this
            exact this (hsub p hp b o hf) h1
          · subst heq
            rw [hi] at hj
            exact e (Option.some.inj hj)
          · have := List.pairwise_iff_getElem.1 hd j i hjl.1 hil.1 hlt b o
            rw [hil.2, hjl.2] at this
            exact this h1 (hsub p hp b o hf)
    · rw [List.pairwise_map]
      refine hd.imp_of_mem fun {p q} hp hq h b o h1 h2 => h b o (hsub p hp b o h1) (hsub q hq b o h2)
    · rcases hk with hk | ⟨p, hp, h1, _⟩
      · exact q5.lt b o hk
      · have hu := q8 p.1 (by rw [hmap]; exact List.mem_map_of_mem hp) b o h1
        have hm : p.1 ∈ L1 ++ L2 := by rw [hmap]; exact List.mem_map_of_mem hp
        rcases List.mem_append.1 hm with hm | hm
        · exact resRep_lt q3 _ hm b o h1
        · exact bRepL_lt q4 _ hm b o h1
  · rcases hk with hk | ⟨p, hp, h1, _⟩
    · exact q7 b o hk
    · exact .inr (q8 p.1 (by rw [hmap]; exact List.mem_map_of_mem hp) b o h1)
  · rw [← List.map_append] at hF
    obtain ⟨p, hp, rfl⟩ := List.mem_map.1 hF
    exact q8 p.1 (by rw [hmap]; exact List.mem_map_of_mem hp) b o (hsub p hp b o hf)

end Go.Gl
