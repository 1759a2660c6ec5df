import Derived.Test.YtfkeggikdeenbaaT1
import Derived.Test.YtfkeggikdeenbaaT3
import Derived.Test.YtfkeggikdeenbaaL42
import Derived.Test.YtfkeggikdeenbaaChecked
set_option linter.unusedVariables false
set_option linter.unusedSimpArgs false
namespace Go.Gl
open Go.Proofs
def sg18 : Sig := ⟨[(false, [.own 3 3 1 8])], []⟩
def sg20 : Sig := ⟨[(false, [.c .bool])], []⟩
def sg118 : Sig := ⟨[(false, [.c (.int .i64)])], []⟩
def sg67 : Sig := ⟨[(false, [.c (.int .i64)])], []⟩
def sg21 : Sig := ⟨[(false, [.c (.int .i64)])], []⟩
def sg69 : Sig := ⟨[(true, [.own 3 3 1 8, .own 3 3 1 8])], []⟩
def sg23 : Sig := ⟨[(false, [.own 3 87 2 48])], []⟩
def sg119 : Sig := ⟨[(false, [.c .bool])], []⟩
def sg68 : Sig := ⟨[(false, [.c .bool])], []⟩
def sg22 : Sig := ⟨[(false, [.c .bool])], []⟩
def sg120 : Sig := ⟨[(false, [.c .bool])], []⟩
def sg71 : Sig := ⟨[(false, [.c .bool])], []⟩
def sg70 : Sig := ⟨[(false, [.c .bool])], []⟩
def sg24 : Sig := ⟨[(false, [.c .bool])], []⟩
def sg72 : Sig := ⟨[(false, [.c .bool])], []⟩
def sg25 : Sig := ⟨[(false, [.c .bool])], []⟩
def sg5 : Sig := ⟨[(false, [.c .bool])], []⟩
noncomputable def cx18 : Cx := { P := Try.prog, sg := fun i => (alook [(18, sg18)] i).getD ⟨[], []⟩, mv := fun i => (alook [] i).getD [], head := fun i => (alook [(3, ⟨3000, 3, [⟨0, [some (3, 1, 8)]⟩, ⟨3, [some (3, 1, 8)]⟩, ⟨4, [none]⟩]⟩)] i).getD ⟨0, 0, []⟩, ord := fun i => (alook [] i).getD [] }
noncomputable def st18_3 (a : List (List D)) (n4 : Int) (x3000 : List (List D)) : St := (St.of [(4, .v false [.c (.int .i64 n4)]), (3, .v false [.tk 3000]), (0, .v false [.c (.sl 8 a)])] [] [(3000, ⟨3, 3, 1, 8, x3000⟩)] 3064 22)
def q18 (a : List (List D))  (J3 : Int → (List (List D)) → Prop) (R : (List (List D)) → Prop) : Prop :=
  (((0 : Int) ≤ (↑(List.length a) : Int) ∧ (↑(List.length a) : Int) = (↑(List.length a) : Int) ∧ (↑(List.length a) : Int) * (↑(8 : Nat) : Int) ≤ (↑capB : Int)) ∧
  J3 (0 : Int) (List.replicate (Int.toNat (↑(List.length a) : Int)) (List.map CK.zeroD [CK.int IntKind.i64])))
theorem v18 (a : List (List D))  (J : List Item → St → Prop) (R : (List (List D)) → Prop) : wpt cx18 J (fin Try.prog Try.f18.results.toList sg18 R) 100000 [.code (Try.f18.body.getD .skip)] (initSt [.val false [.c (.sl 8 a)]] 22) = q18 a  (fun n4 x3000 => J (td (Try.f18.body.getD .skip) 3) (st18_3 a n4 x3000)) R := by kernel_rfl
def q18_3 (a : List (List D)) (n4 : Int) (x3000 : List (List D)) (J3 : Int → (List (List D)) → Prop) (R : (List (List D)) → Prop) : Prop :=
  ((decide (n4 < (↑(List.length a) : Int)) = true → (((0 : Int) ≤ n4 ∧ n4 < (↑(List.length a) : Int) ∧ List.length (List.getD a (Int.toNat n4) []) = (1 : Nat)) ∧
  (∃ n, ((List.take (1 : Nat) (List.drop (0 : Nat) (List.getD a (Int.toNat n4) [])) = [D.int IntKind.i64 n]) ∧
  (((0 : Int) ≤ n4 ∧ n4 < (↑(List.length x3000) : Int)) ∧
  (((1 : Nat) ≤ List.length (List.getD x3000 (Int.toNat n4) [])) ∧
  J3 (IntKind.wrap IntKind.i64 (n4 + (1 : Int))) (List.set x3000 (Int.toNat n4) (List.take (0 : Nat) (List.getD x3000 (Int.toNat n4) []) ++ [D.int IntKind.i64 n] ++ List.drop (1 : Nat) (List.getD x3000 (Int.toNat n4) []))))))))) ∧
  (decide (n4 < (↑(List.length a) : Int)) = false → R x3000))
theorem v18_3 (a : List (List D)) (n4 : Int) (x3000 : List (List D)) (J : List Item → St → Prop) (R : (List (List D)) → Prop) : wpt cx18 J (fin Try.prog Try.f18.results.toList sg18 R) 100000 (td (Try.f18.body.getD .skip) 3) (st18_3 a n4 x3000) = q18_3 a n4 x3000 (fun n4 x3000 => J (td (Try.f18.body.getD .skip) 3) (st18_3 a n4 x3000)) R := by kernel_rfl
theorem r18 (a : List (List D)) (R : (List (List D)) → Prop) (I3 : Nat → Int → (List (List D)) → Prop)
    (h : DFact (.sl 8 a) → ∀ (J3 : Int → (List (List D)) → Prop), (∀ m n4' x3000', I3 m n4' x3000' → J3 n4' x3000') → q18 a J3 R)
    (h3 : ∀ x (n4 : Int) (x3000 : List (List D)), I3 x n4 x3000 → DFact (.sl 8 a) → DFact (.sl 8 x3000) → ∀ (J3 : Int → (List (List D)) → Prop), (∀ m n4' x3000', m < x → I3 m n4' x3000' → J3 n4' x3000') → q18_3 a n4 x3000 J3 R) :
    C Try.prog 18 [.val false [.c (.sl 8 a)]] sg18 R :=
  C_rule (cx := cx18) (P := Try.prog) (f := 18) (fn := Try.f18) (c := (Try.f18.body.getD .skip)) (args := [.val false [.c (.sl 8 a)]]) (sg := sg18) (rv := Try.f18.results.toList) (N := 22) (R := R) (μ := Nat) (lt := (· < ·)) Nat.lt_wfRel.wf (fun m td st => (∃ (n4 : Int) (x3000 : List (List D)), td = _root_.Go.Gl.td (Try.f18.body.getD .skip) 3 ∧ st = st18_3 a n4 x3000 ∧ I3 m n4 x3000)) (by kernel_rfl) (by kernel_rfl) Try.func18 (by kernel_rfl) (by kernel_rfl) (by kernel_rfl) (by kernel_rfl) (by kernel_rfl)
    (fun x td st h hf => by
      obtain ⟨n4, x3000, rfl, rfl, hi⟩ := h
      rw [v18_3]
      exact h3 x n4 x3000 hi (hf.sd 0 false [.c (.sl 8 a)] 0 (.sl 8 a) (by kernel_rfl) (by kernel_rfl)) (hf.td 3000 3 3 1 8 x3000 (by kernel_rfl)) _ (fun m n4 x3000 hm hi => ⟨m, hm, ⟨n4, x3000, rfl, rfl, hi⟩⟩))
    (fun hf => by rw [v18]; exact h (hf.sd 0 false [.c (.sl 8 a)] 0 (.sl 8 a) (by kernel_rfl) (by kernel_rfl)) _ (fun m n4 x3000 hi => ⟨m, ⟨n4, x3000, rfl, rfl, hi⟩⟩))

theorem d18 (xs : List Int) :
    C Try.prog 18 [.val false [.c (.sl 8 (xs.map I.row))]] sg18 (fun l => l = xs.map I.row) := by
  refine r18 _ _ (fun m i l => ∃ pre post, xs = pre ++ post ∧ m = post.length ∧ i = pre.length ∧ l = pre.map I.row ++ List.replicate post.length [.int .i64 0]) ?_ ?_
  · intro f1 J hJ
    have f1 := fact_sl f1
    simp only [q18, List.length_map, capB] at f1 ⊢
    exact ⟨⟨by omega, trivial, by omega⟩, hJ xs.length _ _ ⟨[], xs, rfl, rfl, rfl, by rw [Int.toNat_natCast]; rfl⟩⟩
  · rintro m i l ⟨pre, post, rfl, rfl, rfl, rfl⟩ f1 _ J hJ
    have f1 := fact_sl f1
    simp only [q18_3, List.length_map, List.length_append, decide_eq_true_eq, decide_eq_false_iff_not] at f1 ⊢
    cases post with
    | nil => exact ⟨fun h => absurd h (by simp), fun _ => by simp⟩
    | cons x post =>
      simp only [List.length_cons, List.length_replicate] at f1 ⊢
      refine ⟨fun _ => ⟨⟨by omega, by omega, by rw [Int.toNat_natCast, getD_mid, I.row_eq]; rfl⟩, x, by rw [Int.toNat_natCast, getD_mid, I.row_eq]; rfl, ?_⟩, fun h => absurd h (by omega)⟩
      refine ⟨⟨by omega, by omega⟩, by rw [Int.toNat_natCast, getD_rep]; simp, ?_⟩
      rw [wrap_id (by omega) (by omega)]
      refine hJ post.length _ _ (by simp) ⟨pre ++ [x], post, by simp, rfl, by simp, ?_⟩
      rw [Int.toNat_natCast, getD_rep, set_rep, List.map_append, List.map_cons, I.row_eq]; simp
def F18 (a : List Int) : List Int := a
theorem F18_eq (a : List Int) : F18 a = a := rfl
theorem c18 (a : List Int) (RES : List Int) (hr : F18 a = RES) :
    C Try.prog 18 [.val false [.c (.sl 8 (a.map I.row))]] sg18 (fun r0 => r0 = RES.map I.row) := by
  subst hr
  exact d18 a
attribute [irreducible] F18

noncomputable def cx20 : Cx := { P := Try.prog, sg := fun i => (alook [(20, sg20)] i).getD ⟨[], []⟩, mv := fun i => (alook [] i).getD [], head := fun i => (alook [(4, ⟨3000, 3, [⟨0, [some (3, 1, 8)]⟩, ⟨1, [some (3, 1, 8)]⟩, ⟨5, [none]⟩]⟩)] i).getD ⟨0, 0, []⟩, ord := fun i => (alook [(6, [0, 1, 2, 3, 4, 5, 6, 7, 8])] i).getD [] }
noncomputable def st20_4 (a : List (List D)) (b : List (List D)) (n5 : Int) : St := (St.of [(5, .v false [.c (.int .i64 n5)]), (1, .v false [.c (.sl 8 b)]), (0, .v false [.c (.sl 8 a)])] [] [] 3064 26)
def q20 (a : List (List D)) (b : List (List D))  (J4 : Int → Prop) (R : Bool → Prop) : Prop :=
  ((((↑(List.length a) : Int) != (↑(List.length b) : Int)) = true → R false) ∧
  (((↑(List.length a) : Int) != (↑(List.length b) : Int)) = false → J4 (0 : Int)))
theorem v20 (a : List (List D)) (b : List (List D))  (J : List Item → St → Prop) (R : Bool → Prop) : wpt cx20 J (fin Try.prog Try.f20.results.toList sg20 R) 100000 [.code (Try.f20.body.getD .skip)] (initSt [.val false [.c (.sl 8 a)], .val false [.c (.sl 8 b)]] 26) = q20 a b  (fun n5 => J (td (Try.f20.body.getD .skip) 4) (st20_4 a b n5)) R := by kernel_rfl
def q20_4 (a : List (List D)) (b : List (List D)) (n5 : Int) (J4 : Int → Prop) (R : Bool → Prop) : Prop :=
  ((decide (n5 < (↑(List.length a) : Int)) = true → (((0 : Int) ≤ n5 ∧ n5 < (↑(List.length a) : Int) ∧ List.length (List.getD a (Int.toNat n5) []) = (1 : Nat)) ∧
  (∃ n, ((List.take (1 : Nat) (List.drop (0 : Nat) (List.getD a (Int.toNat n5) [])) = [D.int IntKind.i64 n]) ∧
  (((0 : Int) ≤ n5 ∧ n5 < (↑(List.length b) : Int) ∧ List.length (List.getD b (Int.toNat n5) []) = (1 : Nat)) ∧
  (∃ n1, ((List.take (1 : Nat) (List.drop (0 : Nat) (List.getD b (Int.toNat n5) [])) = [D.int IntKind.i64 n1]) ∧
  (((n != n1) = true → R false) ∧
  ((n != n1) = false → J4 (IntKind.wrap IntKind.i64 (n5 + (1 : Int)))))))))))) ∧
  (decide (n5 < (↑(List.length a) : Int)) = false → R true))
theorem v20_4 (a : List (List D)) (b : List (List D)) (n5 : Int) (J : List Item → St → Prop) (R : Bool → Prop) : wpt cx20 J (fin Try.prog Try.f20.results.toList sg20 R) 100000 (td (Try.f20.body.getD .skip) 4) (st20_4 a b n5) = q20_4 a b n5 (fun n5 => J (td (Try.f20.body.getD .skip) 4) (st20_4 a b n5)) R := by kernel_rfl
theorem r20 (a : List (List D)) (b : List (List D)) (R : Bool → Prop) (I4 : Nat → Int → Prop)
    (h : DFact (.sl 8 a) → DFact (.sl 8 b) → ∀ (J4 : Int → Prop), (∀ m n5', I4 m n5' → J4 n5') → q20 a b J4 R)
    (h4 : ∀ x (n5 : Int), I4 x n5 → DFact (.sl 8 b) → DFact (.sl 8 a) → ∀ (J4 : Int → Prop), (∀ m n5', m < x → I4 m n5' → J4 n5') → q20_4 a b n5 J4 R) :
    C Try.prog 20 [.val false [.c (.sl 8 a)], .val false [.c (.sl 8 b)]] sg20 R :=
  C_rule (cx := cx20) (P := Try.prog) (f := 20) (fn := Try.f20) (c := (Try.f20.body.getD .skip)) (args := [.val false [.c (.sl 8 a)], .val false [.c (.sl 8 b)]]) (sg := sg20) (rv := Try.f20.results.toList) (N := 26) (R := R) (μ := Nat) (lt := (· < ·)) Nat.lt_wfRel.wf (fun m td st => (∃ (n5 : Int), td = _root_.Go.Gl.td (Try.f20.body.getD .skip) 4 ∧ st = st20_4 a b n5 ∧ I4 m n5)) (by kernel_rfl) (by kernel_rfl) Try.func20 (by kernel_rfl) (by kernel_rfl) (by kernel_rfl) (by kernel_rfl) (by kernel_rfl)
    (fun x td st h hf => by
      obtain ⟨n5, rfl, rfl, hi⟩ := h
      rw [v20_4]
      exact h4 x n5 hi (hf.sd 1 false [.c (.sl 8 b)] 0 (.sl 8 b) (by kernel_rfl) (by kernel_rfl)) (hf.sd 0 false [.c (.sl 8 a)] 0 (.sl 8 a) (by kernel_rfl) (by kernel_rfl)) _ (fun m n5 hm hi => ⟨m, hm, ⟨n5, rfl, rfl, hi⟩⟩))
    (fun hf => by rw [v20]; exact h (hf.sd 0 false [.c (.sl 8 a)] 0 (.sl 8 a) (by kernel_rfl) (by kernel_rfl)) (hf.sd 1 false [.c (.sl 8 b)] 0 (.sl 8 b) (by kernel_rfl) (by kernel_rfl)) _ (fun m n5 hi => ⟨m, ⟨n5, rfl, rfl, hi⟩⟩))

def F20_4 (b : List Int) : Int → (List Int) → Option Bool
  | i, [] => some true
  | i, x :: post => (if (0 : Int) ≤ i then (match b[Int.toNat i]? with | some x1 => (if (x != x1) = true then some false else (F20_4 b (i + 1) post)) | none => none) else none)
@[irreducible] def F20 (a : List Int) (b : List Int) : Option Bool := (if ((↑(List.length (List.map I.row a)) : Int) != (↑(List.length (List.map I.row b)) : Int)) = true then some false else (F20_4 b 0 a))
theorem c20 (a : List Int) (b : List Int) (RES : Bool) (hr : F20 a b = some RES) :
    C Try.prog 20 [.val false [.c (.sl 8 (List.map I.row a))], .val false [.c (.sl 8 (List.map I.row b))]] sg20 (fun r0 => r0 = RES) := by
  refine r20 (List.map I.row a) (List.map I.row b) _ (fun m i => ∃ pre post, a = pre ++ post ∧ m = post.length ∧ i = (pre.length : Int) ∧ F20_4 b i post = some RES) ?_ ?_
  · intro ef0 ef1 J4 hJ4
    unfold q20
    rw [F20] at hr
    refine ⟨fun hb6 => ?_, fun hb6 => ?_⟩
    · rw [if_pos hb6] at hr
      obtain rfl := Option.some.inj hr
      exact by first | rfl | trivial | simp [Ty.row_eq, Ex.row_eq, I.row_eq, S.row_eq, Il.row_eq, Cf.row_eq, Ch.row_eq]
    · rw [if_neg (by rw [hb6]; decide)] at hr
      exact hJ4 a.length _ ⟨[], a, rfl, rfl, rfl, hr⟩
  · rintro m i ⟨pre, post, hL, rfl, hi, hr⟩ sf0 sf1 J4 hJ4
    have hf := fact_sl sf1
    simp only [List.length_map] at hf
    have hlen : a.length = pre.length + post.length := by rw [hL, List.length_append]
    unfold q20_4
    cases post with
    | nil =>
      simp only [List.length_nil] at hlen
      rw [F20_4] at hr
      refine ⟨fun h => absurd h (by simp only [decide_eq_true_eq, List.length_map]; omega), fun _ => ?_⟩
      obtain rfl := Option.some.inj hr
      exact by first | rfl | trivial | simp [Ty.row_eq, Ex.row_eq, I.row_eq, S.row_eq, Il.row_eq, Cf.row_eq, Ch.row_eq]
    | cons x post =>
      simp only [List.length_cons] at hlen
      rw [F20_4] at hr
      have hrow : List.getD (List.map I.row a) (Int.toNat i) [] = I.row x := by rw [hL, hi, Int.toNat_natCast, getD_mid]
      refine ⟨fun _ => ?_, fun h => absurd h (by simp only [decide_eq_false_iff_not, List.length_map]; omega)⟩
      refine ⟨⟨by omega, by simp only [List.length_map]; omega, by rw [hrow, I.row_eq]; rfl⟩, ?_⟩
      refine ⟨x, by rw [hrow, I.row_eq]; rfl, ?_⟩
      by_cases hg5 : (0 : Int) ≤ i
      · rw [if_pos hg5] at hr
        cases hx2 : b[Int.toNat i]? with
        | none => rw [hx2] at hr; cases hr
        | some x1 =>
          rw [hx2] at hr
          dsimp only at hr
          have hrow3 : List.getD (List.map I.row b) (Int.toNat i) [] = I.row x1 := idx_row hx2
          refine ⟨(idx_ok hx2 ⟨by omega, rfl⟩ I.row_len), ?_⟩
          refine ⟨x1, by rw [hrow3, I.row_eq]; rfl, ?_⟩
          refine ⟨fun hb4 => ?_, fun hb4 => ?_⟩
          · rw [if_pos hb4] at hr
            obtain rfl := Option.some.inj hr
            exact by first | rfl | trivial | (simp only [hrow, hrow3]; simp [Ty.row_eq, Ex.row_eq, I.row_eq, S.row_eq, Il.row_eq, Cf.row_eq, Ch.row_eq]; done) | simp [Ty.row_eq, Ex.row_eq, I.row_eq, S.row_eq, Il.row_eq, Cf.row_eq, Ch.row_eq]
          · rw [if_neg (by rw [hb4]; decide)] at hr
            exact hJ4 post.length _ (by simp) ⟨pre ++ [x], post, by simp [hL], rfl, by rw [wrap_id (by omega) (by omega), hi]; simp, by rw [wrap_id (by omega) (by omega)]; exact hr⟩
      · rw [if_neg hg5] at hr; cases hr

noncomputable def cx118 : Cx := { P := Try.prog, sg := fun i => (alook [(118, sg118)] i).getD ⟨[], []⟩, mv := fun i => (alook [] i).getD [], head := fun i => (alook [] i).getD ⟨0, 0, []⟩, ord := fun i => (alook [] i).getD [] }
def q118 (a : List (List D)) (b : Int)   (R : Int → Prop) : Prop :=
  ((decide (IntKind.wrap IntKind.i64 (b - (↑(List.length a) : Int)) < (0 : Int)) = true → R (-1 : Int)) ∧
  (decide (IntKind.wrap IntKind.i64 (b - (↑(List.length a) : Int)) < (0 : Int)) = false → R (IntKind.wrap IntKind.i64 (b - (↑(List.length a) : Int)))))
theorem v118 (a : List (List D)) (b : Int)  (J : List Item → St → Prop) (R : Int → Prop) : wpt cx118 J (fin Try.prog Try.f118.results.toList sg118 R) 100000 [.code (Try.f118.body.getD .skip)] (initSt [.val false [.c (.sl 8 a)], .val false [.c (.int .i64 b)]] 12) = q118 a b   R := by kernel_rfl
theorem r118 (a : List (List D)) (b : Int) (R : Int → Prop) 
    (h : DFact (.sl 8 a) → DFact (.int .i64 b) → q118 a b  R) :
    C Try.prog 118 [.val false [.c (.sl 8 a)], .val false [.c (.int .i64 b)]] sg118 R :=
  C_rule (cx := cx118) (P := Try.prog) (f := 118) (fn := Try.f118) (c := (Try.f118.body.getD .skip)) (args := [.val false [.c (.sl 8 a)], .val false [.c (.int .i64 b)]]) (sg := sg118) (rv := Try.f118.results.toList) (N := 12) (R := R) (μ := Nat) (lt := (· < ·)) Nat.lt_wfRel.wf (fun m td st => False) (by kernel_rfl) (by kernel_rfl) Try.func118 (by kernel_rfl) (by kernel_rfl) (by kernel_rfl) (by kernel_rfl) (by kernel_rfl)
    (fun _ _ _ h => h.elim)
    (fun hf => by rw [v118]; exact h (hf.sd 0 false [.c (.sl 8 a)] 0 (.sl 8 a) (by kernel_rfl) (by kernel_rfl)) (hf.sd 1 false [.c (.int .i64 b)] 0 (.int .i64 b) (by kernel_rfl) (by kernel_rfl)) )

@[irreducible] def F118 (a : List Int) (b : Int) : Int := (if (decide (IntKind.wrap IntKind.i64 (b - (↑(List.length (List.map I.row a)) : Int)) < (0 : Int))) = true then (-1 : Int) else (IntKind.wrap IntKind.i64 (b - (↑(List.length (List.map I.row a)) : Int))))
theorem c118 (a : List Int) (b : Int) (RES : Int) (hr : F118 a b = RES) :
    C Try.prog 118 [.val false [.c (.sl 8 (List.map I.row a))], .val false [.c (.int .i64 b)]] sg118 (fun r0 => r0 = RES) := by
  refine r118 (List.map I.row a) b _  ?_
  · intro ef0 ef1
    unfold q118
    rw [F118] at hr
    refine ⟨fun hb1 => ?_, fun hb1 => ?_⟩
    · rw [if_pos hb1] at hr
      obtain rfl := hr
      exact by first | rfl | trivial | simp [Ty.row_eq, Ex.row_eq, I.row_eq, S.row_eq, Il.row_eq, Cf.row_eq, Ch.row_eq]
    · rw [if_neg (by rw [hb1]; decide)] at hr
      obtain rfl := hr
      exact by first | rfl | trivial | simp [Ty.row_eq, Ex.row_eq, I.row_eq, S.row_eq, Il.row_eq, Cf.row_eq, Ch.row_eq]

noncomputable def cx67 : Cx := { P := Try.prog, sg := fun i => (alook [(118, sg118), (67, sg67)] i).getD ⟨[], []⟩, mv := fun i => (alook [] i).getD [], head := fun i => (alook [] i).getD ⟨0, 0, []⟩, ord := fun i => (alook [] i).getD [] }
def q67 (a0 : List (List D)) (a1 : List (List D)) (b : Int)   (R : Int → Prop) : Prop :=
  C Try.prog 118 [.val false [.c (.sl 8 a0)], .val false [.c (.int .i64 b)]] sg118 (fun n => ((decide (n < (0 : Int)) = true → R (-1 : Int)) ∧
  (decide (n < (0 : Int)) = false → C Try.prog 118 [.val false [.c (.sl 8 a1)], .val false [.c (.int .i64 n)]] sg118 (fun n1 => ((decide (n1 < (0 : Int)) = true → R (-1 : Int)) ∧
  (decide (n1 < (0 : Int)) = false → R n1))))))
theorem v67 (a0 : List (List D)) (a1 : List (List D)) (b : Int)  (J : List Item → St → Prop) (R : Int → Prop) : wpt cx67 J (fin Try.prog Try.f67.results.toList sg67 R) 100000 [.code (Try.f67.body.getD .skip)] (initSt [.val true [.c (.sl 8 a0), .c (.sl 8 a1)], .val false [.c (.int .i64 b)]] 18) = q67 a0 a1 b   R := by kernel_rfl
theorem r67 (a0 : List (List D)) (a1 : List (List D)) (b : Int) (R : Int → Prop) 
    (h : DFact (.sl 8 a0) → DFact (.sl 8 a1) → DFact (.int .i64 b) → q67 a0 a1 b  R) :
    C Try.prog 67 [.val true [.c (.sl 8 a0), .c (.sl 8 a1)], .val false [.c (.int .i64 b)]] sg67 R :=
  C_rule (cx := cx67) (P := Try.prog) (f := 67) (fn := Try.f67) (c := (Try.f67.body.getD .skip)) (args := [.val true [.c (.sl 8 a0), .c (.sl 8 a1)], .val false [.c (.int .i64 b)]]) (sg := sg67) (rv := Try.f67.results.toList) (N := 18) (R := R) (μ := Nat) (lt := (· < ·)) Nat.lt_wfRel.wf (fun m td st => False) (by kernel_rfl) (by kernel_rfl) Try.func67 (by kernel_rfl) (by kernel_rfl) (by kernel_rfl) (by kernel_rfl) (by kernel_rfl)
    (fun _ _ _ h => h.elim)
    (fun hf => by rw [v67]; exact h (hf.sd 0 true [.c (.sl 8 a0), .c (.sl 8 a1)] 0 (.sl 8 a0) (by kernel_rfl) (by kernel_rfl)) (hf.sd 0 true [.c (.sl 8 a0), .c (.sl 8 a1)] 1 (.sl 8 a1) (by kernel_rfl) (by kernel_rfl)) (hf.sd 1 false [.c (.int .i64 b)] 0 (.int .i64 b) (by kernel_rfl) (by kernel_rfl)) )

@[irreducible] def F67 (a : Cf) (b : Int) : Int := (if (decide ((F118 a.o b) < (0 : Int))) = true then (-1 : Int) else (if (decide ((F118 a.t (F118 a.o b)) < (0 : Int))) = true then (-1 : Int) else (F118 a.t (F118 a.o b))))
theorem c67 (a : Cf) (b : Int) (RES : Int) (hr : F67 a b = RES) :
    C Try.prog 67 [.val true [.c (.sl 8 (List.map I.row a.o)), .c (.sl 8 (List.map I.row a.t))], .val false [.c (.int .i64 b)]] sg67 (fun r0 => r0 = RES) := by
  refine r67 (List.map I.row a.o) (List.map I.row a.t) b _  ?_
  · intro ef0 ef1 ef2
    unfold q67
    rw [F67] at hr
    refine (c118 a.o b _ rfl).imp ?_
    rintro r4_0 er4_0
    obtain rfl := er4_0.symm
    refine ⟨fun hb1 => ?_, fun hb1 => ?_⟩
    · rw [if_pos hb1] at hr
      obtain rfl := hr
      exact by first | rfl | trivial | simp [Ty.row_eq, Ex.row_eq, I.row_eq, S.row_eq, Il.row_eq, Cf.row_eq, Ch.row_eq]
    · rw [if_neg (by rw [hb1]; decide)] at hr
      refine (c118 a.t (F118 a.o b) _ rfl).imp ?_
      rintro r3_0 er3_0
      obtain rfl := er3_0.symm
      refine ⟨fun hb2 => ?_, fun hb2 => ?_⟩
      · rw [if_pos hb2] at hr
        obtain rfl := hr
        exact by first | rfl | trivial | simp [Ty.row_eq, Ex.row_eq, I.row_eq, S.row_eq, Il.row_eq, Cf.row_eq, Ch.row_eq]
      · rw [if_neg (by rw [hb2]; decide)] at hr
        obtain rfl := hr
        exact by first | rfl | trivial | simp [Ty.row_eq, Ex.row_eq, I.row_eq, S.row_eq, Il.row_eq, Cf.row_eq, Ch.row_eq]

noncomputable def cx21 : Cx := { P := Try.prog, sg := fun i => (alook [(67, sg67), (21, sg21)] i).getD ⟨[], []⟩, mv := fun i => (alook [] i).getD [], head := fun i => (alook [(5, ⟨3000, 3, [⟨0, [some (86, 2, 48)]⟩, ⟨1, [none]⟩, ⟨5, [none]⟩]⟩)] i).getD ⟨0, 0, []⟩, ord := fun i => (alook [] i).getD [] }
noncomputable def st21_5 (a : List (List D)) (b : Int) (n5 : Int) (n1 : Int) : St := (St.of [(5, .v false [.c (.int .i64 n5)]), (1, .v false [.c (.int .i64 n1)]), (0, .v false [.c (.sl 48 a)])] [] [] 3064 27)
def q21 (a : List (List D)) (b : Int)  (J5 : Int → Int → Prop) (R : Int → Prop) : Prop :=
  ((decide (IntKind.wrap IntKind.i64 (b - (↑(List.length a) : Int)) < (0 : Int)) = true → R (-1 : Int)) ∧
  (decide (IntKind.wrap IntKind.i64 (b - (↑(List.length a) : Int)) < (0 : Int)) = false → J5 (0 : Int) (IntKind.wrap IntKind.i64 (b - (↑(List.length a) : Int)))))
theorem v21 (a : List (List D)) (b : Int)  (J : List Item → St → Prop) (R : Int → Prop) : wpt cx21 J (fin Try.prog Try.f21.results.toList sg21 R) 100000 [.code (Try.f21.body.getD .skip)] (initSt [.val false [.c (.sl 48 a)], .val false [.c (.int .i64 b)]] 27) = q21 a b  (fun n5 n1 => J (td (Try.f21.body.getD .skip) 5) (st21_5 a b n5 n1)) R := by kernel_rfl
def q21_5 (a : List (List D)) (b : Int) (n5 : Int) (n1 : Int) (J5 : Int → Int → Prop) (R : Int → Prop) : Prop :=
  ((decide (n5 < (↑(List.length a) : Int)) = true → (((0 : Int) ≤ n5 ∧ n5 < (↑(List.length a) : Int) ∧ List.length (List.getD a (Int.toNat n5) []) = (2 : Nat)) ∧
  (∃ xs, (∃ xs1, ((List.take (2 : Nat) (List.drop (0 : Nat) (List.getD a (Int.toNat n5) [])) = [D.sl (8 : Nat) xs, D.sl (8 : Nat) xs1]) ∧
  C Try.prog 67 [.val true [.c (.sl 8 xs), .c (.sl 8 xs1)], .val false [.c (.int .i64 n1)]] sg67 (fun n => ((decide (n < (0 : Int)) = true → R (-1 : Int)) ∧
  (decide (n < (0 : Int)) = false → J5 (IntKind.wrap IntKind.i64 (n5 + (1 : Int))) n)))))))) ∧
  (decide (n5 < (↑(List.length a) : Int)) = false → R n1))
theorem v21_5 (a : List (List D)) (b : Int) (n5 : Int) (n1 : Int) (J : List Item → St → Prop) (R : Int → Prop) : wpt cx21 J (fin Try.prog Try.f21.results.toList sg21 R) 100000 (td (Try.f21.body.getD .skip) 5) (st21_5 a b n5 n1) = q21_5 a b n5 n1 (fun n5 n1 => J (td (Try.f21.body.getD .skip) 5) (st21_5 a b n5 n1)) R := by kernel_rfl
theorem r21 (a : List (List D)) (b : Int) (R : Int → Prop) (I5 : Nat → Int → Int → Prop)
    (h : DFact (.sl 48 a) → DFact (.int .i64 b) → ∀ (J5 : Int → Int → Prop), (∀ m n5' n1', I5 m n5' n1' → J5 n5' n1') → q21 a b J5 R)
    (h5 : ∀ x (n5 : Int) (n1 : Int), I5 x n5 n1 → DFact (.sl 48 a) → ∀ (J5 : Int → Int → Prop), (∀ m n5' n1', m < x → I5 m n5' n1' → J5 n5' n1') → q21_5 a b n5 n1 J5 R) :
    C Try.prog 21 [.val false [.c (.sl 48 a)], .val false [.c (.int .i64 b)]] sg21 R :=
  C_rule (cx := cx21) (P := Try.prog) (f := 21) (fn := Try.f21) (c := (Try.f21.body.getD .skip)) (args := [.val false [.c (.sl 48 a)], .val false [.c (.int .i64 b)]]) (sg := sg21) (rv := Try.f21.results.toList) (N := 27) (R := R) (μ := Nat) (lt := (· < ·)) Nat.lt_wfRel.wf (fun m td st => (∃ (n5 : Int) (n1 : Int), td = _root_.Go.Gl.td (Try.f21.body.getD .skip) 5 ∧ st = st21_5 a b n5 n1 ∧ I5 m n5 n1)) (by kernel_rfl) (by kernel_rfl) Try.func21 (by kernel_rfl) (by kernel_rfl) (by kernel_rfl) (by kernel_rfl) (by kernel_rfl)
    (fun x td st h hf => by
      obtain ⟨n5, n1, rfl, rfl, hi⟩ := h
      rw [v21_5]
      exact h5 x n5 n1 hi (hf.sd 0 false [.c (.sl 48 a)] 0 (.sl 48 a) (by kernel_rfl) (by kernel_rfl)) _ (fun m n5 n1 hm hi => ⟨m, hm, ⟨n5, n1, rfl, rfl, hi⟩⟩))
    (fun hf => by rw [v21]; exact h (hf.sd 0 false [.c (.sl 48 a)] 0 (.sl 48 a) (by kernel_rfl) (by kernel_rfl)) (hf.sd 1 false [.c (.int .i64 b)] 0 (.int .i64 b) (by kernel_rfl) (by kernel_rfl)) _ (fun m n5 n1 hi => ⟨m, ⟨n5, n1, rfl, rfl, hi⟩⟩))

def F21_5  : (List Cf) → Int → Int
  | [], n1 => n1
  | x :: post, n1 => (if (decide ((F67 x n1) < (0 : Int))) = true then (-1 : Int) else (F21_5 post (F67 x n1)))
@[irreducible] def F21 (a : List Cf) (b : Int) : Int := (if (decide (IntKind.wrap IntKind.i64 (b - (↑(List.length (List.map Cf.row a)) : Int)) < (0 : Int))) = true then (-1 : Int) else (F21_5 a (IntKind.wrap IntKind.i64 (b - (↑(List.length (List.map Cf.row a)) : Int)))))
theorem c21 (a : List Cf) (b : Int) (RES : Int) (hr : F21 a b = RES) :
    C Try.prog 21 [.val false [.c (.sl 48 (List.map Cf.row a))], .val false [.c (.int .i64 b)]] sg21 (fun r0 => r0 = RES) := by
  refine r21 (List.map Cf.row a) b _ (fun m i n1 => ∃ pre post, a = pre ++ post ∧ m = post.length ∧ i = (pre.length : Int) ∧ F21_5 post n1 = RES) ?_ ?_
  · intro ef0 ef1 J5 hJ5
    unfold q21
    rw [F21] at hr
    refine ⟨fun hb3 => ?_, fun hb3 => ?_⟩
    · rw [if_pos hb3] at hr
      obtain rfl := hr
      exact by first | rfl | trivial | simp [Ty.row_eq, Ex.row_eq, I.row_eq, S.row_eq, Il.row_eq, Cf.row_eq, Ch.row_eq]
    · rw [if_neg (by rw [hb3]; decide)] at hr
      exact hJ5 a.length _ _ ⟨[], a, rfl, rfl, rfl, hr⟩
  · rintro m i n1 ⟨pre, post, hL, rfl, hi, hr⟩ sf0 J5 hJ5
    have hf := fact_sl sf0
    simp only [List.length_map] at hf
    have hlen : a.length = pre.length + post.length := by rw [hL, List.length_append]
    unfold q21_5
    cases post with
    | nil =>
      simp only [List.length_nil] at hlen
      rw [F21_5] at hr
      refine ⟨fun h => absurd h (by simp only [decide_eq_true_eq, List.length_map]; omega), fun _ => ?_⟩
      obtain rfl := hr
      exact by first | rfl | trivial | simp [Ty.row_eq, Ex.row_eq, I.row_eq, S.row_eq, Il.row_eq, Cf.row_eq, Ch.row_eq]
    | cons x post =>
      simp only [List.length_cons] at hlen
      rw [F21_5] at hr
      have hrow : List.getD (List.map Cf.row a) (Int.toNat i) [] = Cf.row x := by rw [hL, hi, Int.toNat_natCast, getD_mid]
      refine ⟨fun _ => ?_, fun h => absurd h (by simp only [decide_eq_false_iff_not, List.length_map]; omega)⟩
      refine ⟨⟨by omega, by simp only [List.length_map]; omega, by rw [hrow, Cf.row_eq]; rfl⟩, ?_⟩
      refine ⟨(List.map I.row x.o), (List.map I.row x.t), by rw [hrow, Cf.row_eq]; rfl, ?_⟩
      refine (c67 x n1 _ rfl).imp ?_
      rintro r2_0 er2_0
      obtain rfl := er2_0.symm
      refine ⟨fun hb1 => ?_, fun hb1 => ?_⟩
      · rw [if_pos hb1] at hr
        obtain rfl := hr
        exact by first | rfl | trivial | (simp only [hrow]; simp [Ty.row_eq, Ex.row_eq, I.row_eq, S.row_eq, Il.row_eq, Cf.row_eq, Ch.row_eq]; done) | simp [Ty.row_eq, Ex.row_eq, I.row_eq, S.row_eq, Il.row_eq, Cf.row_eq, Ch.row_eq]
      · rw [if_neg (by rw [hb1]; decide)] at hr
        exact hJ5 post.length _ _ (by simp) ⟨pre ++ [x], post, by simp [hL], rfl, by rw [wrap_id (by omega) (by omega), hi]; simp, hr⟩

noncomputable def cx69 : Cx := { P := Try.prog, sg := fun i => (alook [(18, sg18), (69, sg69)] i).getD ⟨[], []⟩, mv := fun i => (alook [] i).getD [], head := fun i => (alook [] i).getD ⟨0, 0, []⟩, ord := fun i => (alook [] i).getD [] }
def q69 (a0 : List (List D)) (a1 : List (List D))   (R : (List (List D)) → (List (List D)) → Prop) : Prop :=
  C Try.prog 18 [.val false [.c (.sl 8 a0)]] sg18 (fun xs => C Try.prog 18 [.val false [.c (.sl 8 a1)]] sg18 (fun xs1 => R xs xs1))
theorem v69 (a0 : List (List D)) (a1 : List (List D))  (J : List Item → St → Prop) (R : (List (List D)) → (List (List D)) → Prop) : wpt cx69 J (fin Try.prog Try.f69.results.toList sg69 R) 100000 [.code (Try.f69.body.getD .skip)] (initSt [.val true [.c (.sl 8 a0), .c (.sl 8 a1)]] 13) = q69 a0 a1   R := by kernel_rfl
theorem r69 (a0 : List (List D)) (a1 : List (List D)) (R : (List (List D)) → (List (List D)) → Prop) 
    (h : DFact (.sl 8 a0) → DFact (.sl 8 a1) → q69 a0 a1  R) :
    C Try.prog 69 [.val true [.c (.sl 8 a0), .c (.sl 8 a1)]] sg69 R :=
  C_rule (cx := cx69) (P := Try.prog) (f := 69) (fn := Try.f69) (c := (Try.f69.body.getD .skip)) (args := [.val true [.c (.sl 8 a0), .c (.sl 8 a1)]]) (sg := sg69) (rv := Try.f69.results.toList) (N := 13) (R := R) (μ := Nat) (lt := (· < ·)) Nat.lt_wfRel.wf (fun m td st => False) (by kernel_rfl) (by kernel_rfl) Try.func69 (by kernel_rfl) (by kernel_rfl) (by kernel_rfl) (by kernel_rfl) (by kernel_rfl)
    (fun _ _ _ h => h.elim)
    (fun hf => by rw [v69]; exact h (hf.sd 0 true [.c (.sl 8 a0), .c (.sl 8 a1)] 0 (.sl 8 a0) (by kernel_rfl) (by kernel_rfl)) (hf.sd 0 true [.c (.sl 8 a0), .c (.sl 8 a1)] 1 (.sl 8 a1) (by kernel_rfl) (by kernel_rfl)) )

@[irreducible] def F69 (a : Cf) : Cf := (Cf.mk (F18 a.o) (F18 a.t))
theorem c69 (a : Cf) (RES : Cf) (hr : F69 a = RES) :
    C Try.prog 69 [.val true [.c (.sl 8 (List.map I.row a.o)), .c (.sl 8 (List.map I.row a.t))]] sg69 (fun r0 r1 => r0 = (List.map I.row RES.o) ∧ r1 = (List.map I.row RES.t)) := by
  refine r69 (List.map I.row a.o) (List.map I.row a.t) _  ?_
  · intro ef0 ef1
    unfold q69
    rw [F69] at hr
    refine (c18 a.o _ rfl).imp ?_
    rintro r2_0 er2_0
    obtain rfl := er2_0.symm
    refine (c18 a.t _ rfl).imp ?_
    rintro r1_0 er1_0
    obtain rfl := er1_0.symm
    obtain rfl := hr
    exact ⟨by first | rfl | trivial | simp [Ty.row_eq, Ex.row_eq, I.row_eq, S.row_eq, Il.row_eq, Cf.row_eq, Ch.row_eq], by first | rfl | trivial | simp [Ty.row_eq, Ex.row_eq, I.row_eq, S.row_eq, Il.row_eq, Cf.row_eq, Ch.row_eq]⟩

noncomputable def cx23 : Cx := { P := Try.prog, sg := fun i => (alook [(69, sg69), (23, sg23)] i).getD ⟨[], []⟩, mv := fun i => (alook [] i).getD [], head := fun i => (alook [(3, ⟨3000, 3, [⟨0, [some (86, 2, 48)]⟩, ⟨3, [some (87, 2, 48)]⟩, ⟨4, [none]⟩]⟩)] i).getD ⟨0, 0, []⟩, ord := fun i => (alook [] i).getD [] }
noncomputable def st23_3 (a : List (List D)) (n4 : Int) (x3000 : List (List D)) : St := (St.of [(4, .v false [.c (.int .i64 n4)]), (3, .v false [.tk 3000]), (0, .v false [.c (.sl 48 a)])] [] [(3000, ⟨3, 87, 2, 48, x3000⟩)] 3064 23)
def q23 (a : List (List D))  (J3 : Int → (List (List D)) → Prop) (R : (List (List D)) → Prop) : Prop :=
  (((0 : Int) ≤ (↑(List.length a) : Int) ∧ (↑(List.length a) : Int) = (↑(List.length a) : Int) ∧ (↑(List.length a) : Int) * (↑(48 : Nat) : Int) ≤ (↑capB : Int)) ∧
  J3 (0 : Int) (List.replicate (Int.toNat (↑(List.length a) : Int)) (List.map CK.zeroD ([CK.sl (3 : Nat) (1 : Nat) (8 : Nat)] ++ ([CK.sl (3 : Nat) (1 : Nat) (8 : Nat)] ++ [])))))
theorem v23 (a : List (List D))  (J : List Item → St → Prop) (R : (List (List D)) → Prop) : wpt cx23 J (fin Try.prog Try.f23.results.toList sg23 R) 100000 [.code (Try.f23.body.getD .skip)] (initSt [.val false [.c (.sl 48 a)]] 23) = q23 a  (fun n4 x3000 => J (td (Try.f23.body.getD .skip) 3) (st23_3 a n4 x3000)) R := by kernel_rfl
def q23_3 (a : List (List D)) (n4 : Int) (x3000 : List (List D)) (J3 : Int → (List (List D)) → Prop) (R : (List (List D)) → Prop) : Prop :=
  ((decide (n4 < (↑(List.length a) : Int)) = true → (((0 : Int) ≤ n4 ∧ n4 < (↑(List.length a) : Int) ∧ List.length (List.getD a (Int.toNat n4) []) = (2 : Nat)) ∧
  (∃ xs, (∃ xs1, ((List.take (2 : Nat) (List.drop (0 : Nat) (List.getD a (Int.toNat n4) [])) = [D.sl (8 : Nat) xs, D.sl (8 : Nat) xs1]) ∧
  C Try.prog 69 [.val true [.c (.sl 8 xs), .c (.sl 8 xs1)]] sg69 (fun xs2 => (fun xs3 => (((0 : Int) ≤ n4 ∧ n4 < (↑(List.length x3000) : Int)) ∧
  (((2 : Nat) ≤ List.length (List.getD x3000 (Int.toNat n4) [])) ∧
  J3 (IntKind.wrap IntKind.i64 (n4 + (1 : Int))) (List.set x3000 (Int.toNat n4) (List.take (0 : Nat) (List.getD x3000 (Int.toNat n4) []) ++ [D.sl (8 : Nat) xs2, D.sl (8 : Nat) xs3] ++ List.drop (2 : Nat) (List.getD x3000 (Int.toNat n4) [])))))))))))) ∧
  (decide (n4 < (↑(List.length a) : Int)) = false → R x3000))
theorem v23_3 (a : List (List D)) (n4 : Int) (x3000 : List (List D)) (J : List Item → St → Prop) (R : (List (List D)) → Prop) : wpt cx23 J (fin Try.prog Try.f23.results.toList sg23 R) 100000 (td (Try.f23.body.getD .skip) 3) (st23_3 a n4 x3000) = q23_3 a n4 x3000 (fun n4 x3000 => J (td (Try.f23.body.getD .skip) 3) (st23_3 a n4 x3000)) R := by kernel_rfl
theorem r23 (a : List (List D)) (R : (List (List D)) → Prop) (I3 : Nat → Int → (List (List D)) → Prop)
    (h : DFact (.sl 48 a) → ∀ (J3 : Int → (List (List D)) → Prop), (∀ m n4' x3000', I3 m n4' x3000' → J3 n4' x3000') → q23 a J3 R)
    (h3 : ∀ x (n4 : Int) (x3000 : List (List D)), I3 x n4 x3000 → DFact (.sl 48 a) → DFact (.sl 48 x3000) → ∀ (J3 : Int → (List (List D)) → Prop), (∀ m n4' x3000', m < x → I3 m n4' x3000' → J3 n4' x3000') → q23_3 a n4 x3000 J3 R) :
    C Try.prog 23 [.val false [.c (.sl 48 a)]] sg23 R :=
  C_rule (cx := cx23) (P := Try.prog) (f := 23) (fn := Try.f23) (c := (Try.f23.body.getD .skip)) (args := [.val false [.c (.sl 48 a)]]) (sg := sg23) (rv := Try.f23.results.toList) (N := 23) (R := R) (μ := Nat) (lt := (· < ·)) Nat.lt_wfRel.wf (fun m td st => (∃ (n4 : Int) (x3000 : List (List D)), td = _root_.Go.Gl.td (Try.f23.body.getD .skip) 3 ∧ st = st23_3 a n4 x3000 ∧ I3 m n4 x3000)) (by kernel_rfl) (by kernel_rfl) Try.func23 (by kernel_rfl) (by kernel_rfl) (by kernel_rfl) (by kernel_rfl) (by kernel_rfl)
    (fun x td st h hf => by
      obtain ⟨n4, x3000, rfl, rfl, hi⟩ := h
      rw [v23_3]
      exact h3 x n4 x3000 hi (hf.sd 0 false [.c (.sl 48 a)] 0 (.sl 48 a) (by kernel_rfl) (by kernel_rfl)) (hf.td 3000 3 87 2 48 x3000 (by kernel_rfl)) _ (fun m n4 x3000 hm hi => ⟨m, hm, ⟨n4, x3000, rfl, rfl, hi⟩⟩))
    (fun hf => by rw [v23]; exact h (hf.sd 0 false [.c (.sl 48 a)] 0 (.sl 48 a) (by kernel_rfl) (by kernel_rfl)) _ (fun m n4 x3000 hi => ⟨m, ⟨n4, x3000, rfl, rfl, hi⟩⟩))

theorem F69_eq (x : Cf) : F69 x = x := by
  rw [F69]; simp only [F18_eq]
theorem d69 (x : Cf) : C Try.prog 69 [.val true [.c (.sl 8 (x.o.map I.row)), .c (.sl 8 (x.t.map I.row))]] sg69 (fun r0 r1 => r0 = (x.o.map I.row) ∧ r1 = (x.t.map I.row)) := c69 x x (F69_eq x)
theorem d23 (xs : List Cf) :
    C Try.prog 23 [.val false [.c (.sl 48 (xs.map Cf.row))]] sg23 (fun l => l = xs.map Cf.row) := by
  refine r23 _ _ (fun m i l => ∃ pre post, xs = pre ++ post ∧ m = post.length ∧ i = pre.length ∧ l = pre.map Cf.row ++ List.replicate post.length [.sl 8 [], .sl 8 []]) ?_ ?_
  · intro f1 J hJ
    have f1 := fact_sl f1
    simp only [q23, List.length_map, capB] at f1 ⊢
    exact ⟨⟨by omega, trivial, by omega⟩, hJ xs.length _ _ ⟨[], xs, rfl, rfl, rfl, by rw [Int.toNat_natCast]; rfl⟩⟩
  · rintro m i l ⟨pre, post, rfl, rfl, rfl, rfl⟩ f1 _ J hJ
    have f1 := fact_sl f1
    simp only [q23_3, List.length_map, List.length_append, decide_eq_true_eq, decide_eq_false_iff_not] at f1 ⊢
    cases post with
    | nil => exact ⟨fun h => absurd h (by simp), fun _ => by simp⟩
    | cons x post =>
      simp only [List.length_cons, List.length_replicate] at f1 ⊢
      refine ⟨fun _ => ⟨⟨by omega, by omega, by rw [Int.toNat_natCast, getD_mid, Cf.row_eq]; rfl⟩, (x.o.map I.row), (x.t.map I.row), by rw [Int.toNat_natCast, getD_mid, Cf.row_eq]; rfl, ((d69 x)).imp ?_⟩, fun h => absurd h (by omega)⟩
      rintro r0 r1 ⟨rfl, rfl⟩
      refine ⟨⟨by omega, by omega⟩, by rw [Int.toNat_natCast, getD_rep]; simp, ?_⟩
      rw [wrap_id (by omega) (by omega)]
      refine hJ post.length _ _ (by simp) ⟨pre ++ [x], post, by simp, rfl, by simp, ?_⟩
      rw [Int.toNat_natCast, getD_rep, set_rep, List.map_append, List.map_cons, Cf.row_eq]; simp
def F23 (a : List Cf) : List Cf := a
theorem F23_eq (a : List Cf) : F23 a = a := rfl
theorem c23 (a : List Cf) (RES : List Cf) (hr : F23 a = RES) :
    C Try.prog 23 [.val false [.c (.sl 48 (a.map Cf.row))]] sg23 (fun r0 => r0 = RES.map Cf.row) := by
  subst hr
  exact d23 a
attribute [irreducible] F23

noncomputable def cx119 : Cx := { P := Try.prog, sg := fun i => (alook [(119, sg119)] i).getD ⟨[], []⟩, mv := fun i => (alook [] i).getD [], head := fun i => (alook [(4, ⟨3000, 3, [⟨0, [some (3, 1, 8)]⟩, ⟨1, [some (3, 1, 8)]⟩, ⟨5, [none]⟩]⟩)] i).getD ⟨0, 0, []⟩, ord := fun i => (alook [(6, [0, 1, 2, 3, 4, 5, 6, 7, 8])] i).getD [] }
noncomputable def st119_4 (a : List (List D)) (b : List (List D)) (n5 : Int) : St := (St.of [(5, .v false [.c (.int .i64 n5)]), (1, .v false [.c (.sl 8 b)]), (0, .v false [.c (.sl 8 a)])] [] [] 3064 26)
def q119 (a : List (List D)) (b : List (List D))  (J4 : Int → Prop) (R : Bool → Prop) : Prop :=
  ((decide ((↑(List.length a) : Int) < (↑(List.length b) : Int)) = true → R false) ∧
  (decide ((↑(List.length a) : Int) < (↑(List.length b) : Int)) = false → J4 (0 : Int)))
theorem v119 (a : List (List D)) (b : List (List D))  (J : List Item → St → Prop) (R : Bool → Prop) : wpt cx119 J (fin Try.prog Try.f119.results.toList sg119 R) 100000 [.code (Try.f119.body.getD .skip)] (initSt [.val false [.c (.sl 8 a)], .val false [.c (.sl 8 b)]] 26) = q119 a b  (fun n5 => J (td (Try.f119.body.getD .skip) 4) (st119_4 a b n5)) R := by kernel_rfl
def q119_4 (a : List (List D)) (b : List (List D)) (n5 : Int) (J4 : Int → Prop) (R : Bool → Prop) : Prop :=
  ((decide (n5 < (↑(List.length b) : Int)) = true → (((0 : Int) ≤ n5 ∧ n5 < (↑(List.length b) : Int) ∧ List.length (List.getD b (Int.toNat n5) []) = (1 : Nat)) ∧
  (∃ n, ((List.take (1 : Nat) (List.drop (0 : Nat) (List.getD b (Int.toNat n5) [])) = [D.int IntKind.i64 n]) ∧
  (((0 : Int) ≤ n5 ∧ n5 < (↑(List.length a) : Int) ∧ List.length (List.getD a (Int.toNat n5) []) = (1 : Nat)) ∧
  (∃ n1, ((List.take (1 : Nat) (List.drop (0 : Nat) (List.getD a (Int.toNat n5) [])) = [D.int IntKind.i64 n1]) ∧
  (((n != n1) = true → R false) ∧
  ((n != n1) = false → J4 (IntKind.wrap IntKind.i64 (n5 + (1 : Int)))))))))))) ∧
  (decide (n5 < (↑(List.length b) : Int)) = false → R true))
theorem v119_4 (a : List (List D)) (b : List (List D)) (n5 : Int) (J : List Item → St → Prop) (R : Bool → Prop) : wpt cx119 J (fin Try.prog Try.f119.results.toList sg119 R) 100000 (td (Try.f119.body.getD .skip) 4) (st119_4 a b n5) = q119_4 a b n5 (fun n5 => J (td (Try.f119.body.getD .skip) 4) (st119_4 a b n5)) R := by kernel_rfl
theorem r119 (a : List (List D)) (b : List (List D)) (R : Bool → Prop) (I4 : Nat → Int → Prop)
    (h : DFact (.sl 8 a) → DFact (.sl 8 b) → ∀ (J4 : Int → Prop), (∀ m n5', I4 m n5' → J4 n5') → q119 a b J4 R)
    (h4 : ∀ x (n5 : Int), I4 x n5 → DFact (.sl 8 b) → DFact (.sl 8 a) → ∀ (J4 : Int → Prop), (∀ m n5', m < x → I4 m n5' → J4 n5') → q119_4 a b n5 J4 R) :
    C Try.prog 119 [.val false [.c (.sl 8 a)], .val false [.c (.sl 8 b)]] sg119 R :=
  C_rule (cx := cx119) (P := Try.prog) (f := 119) (fn := Try.f119) (c := (Try.f119.body.getD .skip)) (args := [.val false [.c (.sl 8 a)], .val false [.c (.sl 8 b)]]) (sg := sg119) (rv := Try.f119.results.toList) (N := 26) (R := R) (μ := Nat) (lt := (· < ·)) Nat.lt_wfRel.wf (fun m td st => (∃ (n5 : Int), td = _root_.Go.Gl.td (Try.f119.body.getD .skip) 4 ∧ st = st119_4 a b n5 ∧ I4 m n5)) (by kernel_rfl) (by kernel_rfl) Try.func119 (by kernel_rfl) (by kernel_rfl) (by kernel_rfl) (by kernel_rfl) (by kernel_rfl)
    (fun x td st h hf => by
      obtain ⟨n5, rfl, rfl, hi⟩ := h
      rw [v119_4]
      exact h4 x n5 hi (hf.sd 1 false [.c (.sl 8 b)] 0 (.sl 8 b) (by kernel_rfl) (by kernel_rfl)) (hf.sd 0 false [.c (.sl 8 a)] 0 (.sl 8 a) (by kernel_rfl) (by kernel_rfl)) _ (fun m n5 hm hi => ⟨m, hm, ⟨n5, rfl, rfl, hi⟩⟩))
    (fun hf => by rw [v119]; exact h (hf.sd 0 false [.c (.sl 8 a)] 0 (.sl 8 a) (by kernel_rfl) (by kernel_rfl)) (hf.sd 1 false [.c (.sl 8 b)] 0 (.sl 8 b) (by kernel_rfl) (by kernel_rfl)) _ (fun m n5 hi => ⟨m, ⟨n5, rfl, rfl, hi⟩⟩))

def F119_4 (a : List Int) : Int → (List Int) → Option Bool
  | i, [] => some true
  | i, x :: post => (if (0 : Int) ≤ i then (match a[Int.toNat i]? with | some x1 => (if (x != x1) = true then some false else (F119_4 a (i + 1) post)) | none => none) else none)
@[irreducible] def F119 (a : List Int) (b : List Int) : Option Bool := (if (decide ((↑(List.length (List.map I.row a)) : Int) < (↑(List.length (List.map I.row b)) : Int))) = true then some false else (F119_4 a 0 b))
theorem c119 (a : List Int) (b : List Int) (RES : Bool) (hr : F119 a b = some RES) :
    C Try.prog 119 [.val false [.c (.sl 8 (List.map I.row a))], .val false [.c (.sl 8 (List.map I.row b))]] sg119 (fun r0 => r0 = RES) := by
  refine r119 (List.map I.row a) (List.map I.row b) _ (fun m i => ∃ pre post, b = pre ++ post ∧ m = post.length ∧ i = (pre.length : Int) ∧ F119_4 a i post = some RES) ?_ ?_
  · intro ef0 ef1 J4 hJ4
    unfold q119
    rw [F119] at hr
    refine ⟨fun hb6 => ?_, fun hb6 => ?_⟩
    · rw [if_pos hb6] at hr
      obtain rfl := Option.some.inj hr
      exact by first | rfl | trivial | simp [Ty.row_eq, Ex.row_eq, I.row_eq, S.row_eq, Il.row_eq, Cf.row_eq, Ch.row_eq]
    · rw [if_neg (by rw [hb6]; decide)] at hr
      exact hJ4 b.length _ ⟨[], b, rfl, rfl, rfl, hr⟩
  · rintro m i ⟨pre, post, hL, rfl, hi, hr⟩ sf0 sf1 J4 hJ4
    have hf := fact_sl sf0
    simp only [List.length_map] at hf
    have hlen : b.length = pre.length + post.length := by rw [hL, List.length_append]
    unfold q119_4
    cases post with
    | nil =>
      simp only [List.length_nil] at hlen
      rw [F119_4] at hr
      refine ⟨fun h => absurd h (by simp only [decide_eq_true_eq, List.length_map]; omega), fun _ => ?_⟩
      obtain rfl := Option.some.inj hr
      exact by first | rfl | trivial | simp [Ty.row_eq, Ex.row_eq, I.row_eq, S.row_eq, Il.row_eq, Cf.row_eq, Ch.row_eq]
    | cons x post =>
      simp only [List.length_cons] at hlen
      rw [F119_4] at hr
      have hrow : List.getD (List.map I.row b) (Int.toNat i) [] = I.row x := by rw [hL, hi, Int.toNat_natCast, getD_mid]
      refine ⟨fun _ => ?_, fun h => absurd h (by simp only [decide_eq_false_iff_not, List.length_map]; omega)⟩
      refine ⟨⟨by omega, by simp only [List.length_map]; omega, by rw [hrow, I.row_eq]; rfl⟩, ?_⟩
      refine ⟨x, by rw [hrow, I.row_eq]; rfl, ?_⟩
      by_cases hg5 : (0 : Int) ≤ i
      · rw [if_pos hg5] at hr
        cases hx2 : a[Int.toNat i]? with
        | none => rw [hx2] at hr; cases hr
        | some x1 =>
          rw [hx2] at hr
          dsimp only at hr
          have hrow3 : List.getD (List.map I.row a) (Int.toNat i) [] = I.row x1 := idx_row hx2
          refine ⟨(idx_ok hx2 ⟨by omega, rfl⟩ I.row_len), ?_⟩
          refine ⟨x1, by rw [hrow3, I.row_eq]; rfl, ?_⟩
          refine ⟨fun hb4 => ?_, fun hb4 => ?_⟩
          · rw [if_pos hb4] at hr
            obtain rfl := Option.some.inj hr
            exact by first | rfl | trivial | (simp only [hrow, hrow3]; simp [Ty.row_eq, Ex.row_eq, I.row_eq, S.row_eq, Il.row_eq, Cf.row_eq, Ch.row_eq]; done) | simp [Ty.row_eq, Ex.row_eq, I.row_eq, S.row_eq, Il.row_eq, Cf.row_eq, Ch.row_eq]
          · rw [if_neg (by rw [hb4]; decide)] at hr
            exact hJ4 post.length _ (by simp) ⟨pre ++ [x], post, by simp [hL], rfl, by rw [wrap_id (by omega) (by omega), hi]; simp, by rw [wrap_id (by omega) (by omega)]; exact hr⟩
      · rw [if_neg hg5] at hr; cases hr

noncomputable def cx68 : Cx := { P := Try.prog, sg := fun i => (alook [(119, sg119), (68, sg68)] i).getD ⟨[], []⟩, mv := fun i => (alook [] i).getD [], head := fun i => (alook [] i).getD ⟨0, 0, []⟩, ord := fun i => (alook [] i).getD [] }
def q68 (a : List (List D)) (b : List (List D))   (R : Bool → Prop) : Prop :=
  ((((↑(List.length a) : Int) == (↑(List.length b) : Int)) = true → C Try.prog 119 [.val false [.c (.sl 8 a)], .val false [.c (.sl 8 b)]] sg119 (fun b1 => R b1)) ∧
  (((↑(List.length a) : Int) == (↑(List.length b) : Int)) = false → R false))
theorem v68 (a : List (List D)) (b : List (List D))  (J : List Item → St → Prop) (R : Bool → Prop) : wpt cx68 J (fin Try.prog Try.f68.results.toList sg68 R) 100000 [.code (Try.f68.body.getD .skip)] (initSt [.val false [.c (.sl 8 a)], .val false [.c (.sl 8 b)]] 15) = q68 a b   R := by kernel_rfl
theorem r68 (a : List (List D)) (b : List (List D)) (R : Bool → Prop) 
    (h : DFact (.sl 8 a) → DFact (.sl 8 b) → q68 a b  R) :
    C Try.prog 68 [.val false [.c (.sl 8 a)], .val false [.c (.sl 8 b)]] sg68 R :=
  C_rule (cx := cx68) (P := Try.prog) (f := 68) (fn := Try.f68) (c := (Try.f68.body.getD .skip)) (args := [.val false [.c (.sl 8 a)], .val false [.c (.sl 8 b)]]) (sg := sg68) (rv := Try.f68.results.toList) (N := 15) (R := R) (μ := Nat) (lt := (· < ·)) Nat.lt_wfRel.wf (fun m td st => False) (by kernel_rfl) (by kernel_rfl) Try.func68 (by kernel_rfl) (by kernel_rfl) (by kernel_rfl) (by kernel_rfl) (by kernel_rfl)
    (fun _ _ _ h => h.elim)
    (fun hf => by rw [v68]; exact h (hf.sd 0 false [.c (.sl 8 a)] 0 (.sl 8 a) (by kernel_rfl) (by kernel_rfl)) (hf.sd 1 false [.c (.sl 8 b)] 0 (.sl 8 b) (by kernel_rfl) (by kernel_rfl)) )

@[irreducible] def F68 (a : List Int) (b : List Int) : Option Bool := (if ((↑(List.length (List.map I.row a)) : Int) == (↑(List.length (List.map I.row b)) : Int)) = true then (match (F119 a b) with | some v2 => some v2 | none => none) else some false)
theorem c68 (a : List Int) (b : List Int) (RES : Bool) (hr : F68 a b = some RES) :
    C Try.prog 68 [.val false [.c (.sl 8 (List.map I.row a))], .val false [.c (.sl 8 (List.map I.row b))]] sg68 (fun r0 => r0 = RES) := by
  refine r68 (List.map I.row a) (List.map I.row b) _  ?_
  · intro ef0 ef1
    unfold q68
    rw [F68] at hr
    refine ⟨fun hb1 => ?_, fun hb1 => ?_⟩
    · rw [if_pos hb1] at hr
      cases hv4 : (F119 a b) with
      | none => rw [hv4] at hr; cases hr
      | some v2 =>
        rw [hv4] at hr
        dsimp only at hr
        refine (c119 a b _ hv4).imp ?_
        rintro r3_0 er3_0
        obtain rfl := er3_0.symm
        obtain rfl := Option.some.inj hr
        exact by first | rfl | trivial | simp [Ty.row_eq, Ex.row_eq, I.row_eq, S.row_eq, Il.row_eq, Cf.row_eq, Ch.row_eq]
    · rw [if_neg (by rw [hb1]; decide)] at hr
      obtain rfl := Option.some.inj hr
      exact by first | rfl | trivial | simp [Ty.row_eq, Ex.row_eq, I.row_eq, S.row_eq, Il.row_eq, Cf.row_eq, Ch.row_eq]

noncomputable def cx22 : Cx := { P := Try.prog, sg := fun i => (alook [(68, sg68), (22, sg22)] i).getD ⟨[], []⟩, mv := fun i => (alook [] i).getD [], head := fun i => (alook [(4, ⟨3000, 3, [⟨0, [some (87, 2, 48)]⟩, ⟨1, [some (87, 2, 48)]⟩, ⟨5, [none]⟩]⟩)] i).getD ⟨0, 0, []⟩, ord := fun i => (alook [(6, [0, 1, 2, 3, 4, 5, 6, 7, 8, 9, 10, 11, 12, 13, 14, 15, 16, 17, 18, 19, 20, 21, 22, 23, 24, 25])] i).getD [] }
noncomputable def st22_4 (a : List (List D)) (b : List (List D)) (n5 : Int) : St := (St.of [(5, .v false [.c (.int .i64 n5)]), (1, .v false [.c (.sl 48 b)]), (0, .v false [.c (.sl 48 a)])] [] [] 3064 43)
def q22 (a : List (List D)) (b : List (List D))  (J4 : Int → Prop) (R : Bool → Prop) : Prop :=
  ((((↑(List.length a) : Int) != (↑(List.length b) : Int)) = true → R false) ∧
  (((↑(List.length a) : Int) != (↑(List.length b) : Int)) = false → J4 (0 : Int)))
theorem v22 (a : List (List D)) (b : List (List D))  (J : List Item → St → Prop) (R : Bool → Prop) : wpt cx22 J (fin Try.prog Try.f22.results.toList sg22 R) 100000 [.code (Try.f22.body.getD .skip)] (initSt [.val false [.c (.sl 48 a)], .val false [.c (.sl 48 b)]] 43) = q22 a b  (fun n5 => J (td (Try.f22.body.getD .skip) 4) (st22_4 a b n5)) R := by kernel_rfl
def q22_4 (a : List (List D)) (b : List (List D)) (n5 : Int) (J4 : Int → Prop) (R : Bool → Prop) : Prop :=
  ((decide (n5 < (↑(List.length a) : Int)) = true → (((0 : Int) ≤ n5 ∧ n5 < (↑(List.length a) : Int) ∧ List.length (List.getD a (Int.toNat n5) []) = (2 : Nat)) ∧
  (∃ xs, ((List.take (1 : Nat) (List.drop (0 : Nat) (List.getD a (Int.toNat n5) [])) = [D.sl (8 : Nat) xs]) ∧
  (((0 : Int) ≤ n5 ∧ n5 < (↑(List.length b) : Int) ∧ List.length (List.getD b (Int.toNat n5) []) = (2 : Nat)) ∧
  (∃ xs1, ((List.take (1 : Nat) (List.drop (0 : Nat) (List.getD b (Int.toNat n5) [])) = [D.sl (8 : Nat) xs1]) ∧
  C Try.prog 68 [.val false [.c (.sl 8 xs)], .val false [.c (.sl 8 xs1)]] sg68 (fun b1 => (((!b1) = true → ((true = true → R false) ∧
  (true = false → J4 (IntKind.wrap IntKind.i64 (n5 + (1 : Int)))))) ∧
  ((!b1) = false → (((0 : Int) ≤ n5 ∧ n5 < (↑(List.length a) : Int) ∧ List.length (List.getD a (Int.toNat n5) []) = (2 : Nat)) ∧
  (∃ xs2, ((List.take (1 : Nat) (List.drop (1 : Nat) (List.getD a (Int.toNat n5) [])) = [D.sl (8 : Nat) xs2]) ∧
  (((0 : Int) ≤ n5 ∧ n5 < (↑(List.length b) : Int) ∧ List.length (List.getD b (Int.toNat n5) []) = (2 : Nat)) ∧
  (∃ xs3, ((List.take (1 : Nat) (List.drop (1 : Nat) (List.getD b (Int.toNat n5) [])) = [D.sl (8 : Nat) xs3]) ∧
  C Try.prog 68 [.val false [.c (.sl 8 xs2)], .val false [.c (.sl 8 xs3)]] sg68 (fun b2 => (((!b2) = true → R false) ∧
  ((!b2) = false → J4 (IntKind.wrap IntKind.i64 (n5 + (1 : Int)))))))))))))))))))))) ∧
  (decide (n5 < (↑(List.length a) : Int)) = false → R true))
theorem v22_4 (a : List (List D)) (b : List (List D)) (n5 : Int) (J : List Item → St → Prop) (R : Bool → Prop) : wpt cx22 J (fin Try.prog Try.f22.results.toList sg22 R) 100000 (td (Try.f22.body.getD .skip) 4) (st22_4 a b n5) = q22_4 a b n5 (fun n5 => J (td (Try.f22.body.getD .skip) 4) (st22_4 a b n5)) R := by kernel_rfl
theorem r22 (a : List (List D)) (b : List (List D)) (R : Bool → Prop) (I4 : Nat → Int → Prop)
    (h : DFact (.sl 48 a) → DFact (.sl 48 b) → ∀ (J4 : Int → Prop), (∀ m n5', I4 m n5' → J4 n5') → q22 a b J4 R)
    (h4 : ∀ x (n5 : Int), I4 x n5 → DFact (.sl 48 b) → DFact (.sl 48 a) → ∀ (J4 : Int → Prop), (∀ m n5', m < x → I4 m n5' → J4 n5') → q22_4 a b n5 J4 R) :
    C Try.prog 22 [.val false [.c (.sl 48 a)], .val false [.c (.sl 48 b)]] sg22 R :=
  C_rule (cx := cx22) (P := Try.prog) (f := 22) (fn := Try.f22) (c := (Try.f22.body.getD .skip)) (args := [.val false [.c (.sl 48 a)], .val false [.c (.sl 48 b)]]) (sg := sg22) (rv := Try.f22.results.toList) (N := 43) (R := R) (μ := Nat) (lt := (· < ·)) Nat.lt_wfRel.wf (fun m td st => (∃ (n5 : Int), td = _root_.Go.Gl.td (Try.f22.body.getD .skip) 4 ∧ st = st22_4 a b n5 ∧ I4 m n5)) (by kernel_rfl) (by kernel_rfl) Try.func22 (by kernel_rfl) (by kernel_rfl) (by kernel_rfl) (by kernel_rfl) (by kernel_rfl)
    (fun x td st h hf => by
      obtain ⟨n5, rfl, rfl, hi⟩ := h
      rw [v22_4]
      exact h4 x n5 hi (hf.sd 1 false [.c (.sl 48 b)] 0 (.sl 48 b) (by kernel_rfl) (by kernel_rfl)) (hf.sd 0 false [.c (.sl 48 a)] 0 (.sl 48 a) (by kernel_rfl) (by kernel_rfl)) _ (fun m n5 hm hi => ⟨m, hm, ⟨n5, rfl, rfl, hi⟩⟩))
    (fun hf => by rw [v22]; exact h (hf.sd 0 false [.c (.sl 48 a)] 0 (.sl 48 a) (by kernel_rfl) (by kernel_rfl)) (hf.sd 1 false [.c (.sl 48 b)] 0 (.sl 48 b) (by kernel_rfl) (by kernel_rfl)) _ (fun m n5 hi => ⟨m, ⟨n5, rfl, rfl, hi⟩⟩))

def F22_4 (b : List Cf) : Int → (List Cf) → Option Bool
  | i, [] => some true
  | i, x :: post => (if (0 : Int) ≤ i then (match b[Int.toNat i]? with | some x1 => (match (F68 x.o x1.o) with | some v4 => (if (!v4) = true then some false else (match (F68 x.t x1.t) with | some v6 => (if (!v6) = true then some false else (F22_4 b (i + 1) post)) | none => none)) | none => none) | none => none) else none)
@[irreducible] def F22 (a : List Cf) (b : List Cf) : Option Bool := (if ((↑(List.length (List.map Cf.row a)) : Int) != (↑(List.length (List.map Cf.row b)) : Int)) = true then some false else (F22_4 b 0 a))
theorem c22 (a : List Cf) (b : List Cf) (RES : Bool) (hr : F22 a b = some RES) :
    C Try.prog 22 [.val false [.c (.sl 48 (List.map Cf.row a))], .val false [.c (.sl 48 (List.map Cf.row b))]] sg22 (fun r0 => r0 = RES) := by
  refine r22 (List.map Cf.row a) (List.map Cf.row b) _ (fun m i => ∃ pre post, a = pre ++ post ∧ m = post.length ∧ i = (pre.length : Int) ∧ F22_4 b i post = some RES) ?_ ?_
  · intro ef0 ef1 J4 hJ4
    unfold q22
    rw [F22] at hr
    refine ⟨fun hb13 => ?_, fun hb13 => ?_⟩
    · rw [if_pos hb13] at hr
      obtain rfl := Option.some.inj hr
      exact by first | rfl | trivial | simp [Ty.row_eq, Ex.row_eq, I.row_eq, S.row_eq, Il.row_eq, Cf.row_eq, Ch.row_eq]
    · rw [if_neg (by rw [hb13]; decide)] at hr
      exact hJ4 a.length _ ⟨[], a, rfl, rfl, rfl, hr⟩
  · rintro m i ⟨pre, post, hL, rfl, hi, hr⟩ sf0 sf1 J4 hJ4
    have hf := fact_sl sf1
    simp only [List.length_map] at hf
    have hlen : a.length = pre.length + post.length := by rw [hL, List.length_append]
    unfold q22_4
    cases post with
    | nil =>
      simp only [List.length_nil] at hlen
      rw [F22_4] at hr
      refine ⟨fun h => absurd h (by simp only [decide_eq_true_eq, List.length_map]; omega), fun _ => ?_⟩
      obtain rfl := Option.some.inj hr
      exact by first | rfl | trivial | simp [Ty.row_eq, Ex.row_eq, I.row_eq, S.row_eq, Il.row_eq, Cf.row_eq, Ch.row_eq]
    | cons x post =>
      simp only [List.length_cons] at hlen
      rw [F22_4] at hr
      have hrow : List.getD (List.map Cf.row a) (Int.toNat i) [] = Cf.row x := by rw [hL, hi, Int.toNat_natCast, getD_mid]
      refine ⟨fun _ => ?_, fun h => absurd h (by simp only [decide_eq_false_iff_not, List.length_map]; omega)⟩
      refine ⟨⟨by omega, by simp only [List.length_map]; omega, by rw [hrow, Cf.row_eq]; rfl⟩, ?_⟩
      refine ⟨(List.map I.row x.o), by rw [hrow, Cf.row_eq]; rfl, ?_⟩
      by_cases hg12 : (0 : Int) ≤ i
      · rw [if_pos hg12] at hr
        cases hx2 : b[Int.toNat i]? with
        | none => rw [hx2] at hr; cases hr
        | some x1 =>
          rw [hx2] at hr
          dsimp only at hr
          have hrow3 : List.getD (List.map Cf.row b) (Int.toNat i) [] = Cf.row x1 := idx_row hx2
          refine ⟨(idx_ok hx2 ⟨by omega, rfl⟩ Cf.row_len), ?_⟩
          refine ⟨(List.map I.row x1.o), by rw [hrow3, Cf.row_eq]; rfl, ?_⟩
          cases hv11 : (F68 x.o x1.o) with
          | none => rw [hv11] at hr; cases hr
          | some v4 =>
            rw [hv11] at hr
            dsimp only at hr
            refine (c68 x.o x1.o _ hv11).imp ?_
            rintro r10_0 er10_0
            obtain rfl := er10_0.symm
            refine ⟨fun hb5 => ?_, fun hb5 => ?_⟩
            · rw [if_pos hb5] at hr
              refine ⟨fun _ => ?_, fun h => nomatch h⟩
              obtain rfl := Option.some.inj hr
              exact by first | rfl | trivial | (simp only [hrow, hrow3]; simp [Ty.row_eq, Ex.row_eq, I.row_eq, S.row_eq, Il.row_eq, Cf.row_eq, Ch.row_eq]; done) | simp [Ty.row_eq, Ex.row_eq, I.row_eq, S.row_eq, Il.row_eq, Cf.row_eq, Ch.row_eq]
            · rw [if_neg (by rw [hb5]; decide)] at hr
              refine ⟨⟨by omega, by simp only [List.length_map]; omega, by rw [hrow, Cf.row_eq]; rfl⟩, ?_⟩
              refine ⟨(List.map I.row x.t), by rw [hrow, Cf.row_eq]; rfl, ?_⟩
              refine ⟨(idx_ok hx2 ⟨by omega, rfl⟩ Cf.row_len), ?_⟩
              refine ⟨(List.map I.row x1.t), by rw [hrow3, Cf.row_eq]; rfl, ?_⟩
              cases hv9 : (F68 x.t x1.t) with
              | none => rw [hv9] at hr; cases hr
              | some v6 =>
                rw [hv9] at hr
                dsimp only at hr
                refine (c68 x.t x1.t _ hv9).imp ?_
                rintro r8_0 er8_0
                obtain rfl := er8_0.symm
                refine ⟨fun hb7 => ?_, fun hb7 => ?_⟩
                · rw [if_pos hb7] at hr
                  obtain rfl := Option.some.inj hr
                  exact by first | rfl | trivial | (simp only [hrow, hrow3]; simp [Ty.row_eq, Ex.row_eq, I.row_eq, S.row_eq, Il.row_eq, Cf.row_eq, Ch.row_eq]; done) | simp [Ty.row_eq, Ex.row_eq, I.row_eq, S.row_eq, Il.row_eq, Cf.row_eq, Ch.row_eq]
                · rw [if_neg (by rw [hb7]; decide)] at hr
                  exact hJ4 post.length _ (by simp) ⟨pre ++ [x], post, by simp [hL], rfl, by rw [wrap_id (by omega) (by omega), hi]; simp, by rw [wrap_id (by omega) (by omega)]; exact hr⟩
      · rw [if_neg hg12] at hr; cases hr

noncomputable def cx120 : Cx := { P := Try.prog, sg := fun i => (alook [(120, sg120)] i).getD ⟨[], []⟩, mv := fun i => (alook [] i).getD [], head := fun i => (alook [(4, ⟨3000, 3, [⟨0, [some (3, 1, 8)]⟩, ⟨1, [some (3, 1, 8)]⟩, ⟨12, [none]⟩, ⟨13, [none]⟩]⟩)] i).getD ⟨0, 0, []⟩, ord := fun i => (alook [(6, [0, 1, 2, 3, 4, 5, 6, 7, 8])] i).getD [] }
noncomputable def st120_4 (a : List (List D)) (b : List (List D)) (n13 : Int) : St := (St.of [(13, .v false [.c (.int .i64 n13)]), (12, .v false [.c (.int .i64 (↑(List.length a) : Int))]), (1, .v false [.c (.sl 8 b)]), (0, .v false [.c (.sl 8 a)])] [] [] 3064 26)
def q120 (a : List (List D)) (b : List (List D))  (J4 : Int → Prop) (R : Bool → Prop) : Prop :=
  ((((↑(List.length a) : Int) != (↑(List.length b) : Int)) = true → R false) ∧
  (((↑(List.length a) : Int) != (↑(List.length b) : Int)) = false → J4 (0 : Int)))
theorem v120 (a : List (List D)) (b : List (List D))  (J : List Item → St → Prop) (R : Bool → Prop) : wpt cx120 J (fin Try.prog Try.f120.results.toList sg120 R) 100000 [.code (Try.f120.body.getD .skip)] (initSt [.val false [.c (.sl 8 a)], .val false [.c (.sl 8 b)]] 26) = q120 a b  (fun n13 => J (td (Try.f120.body.getD .skip) 4) (st120_4 a b n13)) R := by kernel_rfl
def q120_4 (a : List (List D)) (b : List (List D)) (n13 : Int) (J4 : Int → Prop) (R : Bool → Prop) : Prop :=
  ((decide (n13 < (↑(List.length a) : Int)) = true → (((0 : Int) ≤ n13 ∧ n13 < (↑(List.length a) : Int) ∧ List.length (List.getD a (Int.toNat n13) []) = (1 : Nat)) ∧
  (∃ n, ((List.take (1 : Nat) (List.drop (0 : Nat) (List.getD a (Int.toNat n13) [])) = [D.int IntKind.i64 n]) ∧
  (((0 : Int) ≤ n13 ∧ n13 < (↑(List.length b) : Int) ∧ List.length (List.getD b (Int.toNat n13) []) = (1 : Nat)) ∧
  (∃ n1, ((List.take (1 : Nat) (List.drop (0 : Nat) (List.getD b (Int.toNat n13) [])) = [D.int IntKind.i64 n1]) ∧
  (((n != n1) = true → R false) ∧
  ((n != n1) = false → J4 (IntKind.wrap IntKind.i64 (n13 + (1 : Int)))))))))))) ∧
  (decide (n13 < (↑(List.length a) : Int)) = false → R true))
theorem v120_4 (a : List (List D)) (b : List (List D)) (n13 : Int) (J : List Item → St → Prop) (R : Bool → Prop) : wpt cx120 J (fin Try.prog Try.f120.results.toList sg120 R) 100000 (td (Try.f120.body.getD .skip) 4) (st120_4 a b n13) = q120_4 a b n13 (fun n13 => J (td (Try.f120.body.getD .skip) 4) (st120_4 a b n13)) R := by kernel_rfl
theorem r120 (a : List (List D)) (b : List (List D)) (R : Bool → Prop) (I4 : Nat → Int → Prop)
    (h : DFact (.sl 8 a) → DFact (.sl 8 b) → ∀ (J4 : Int → Prop), (∀ m n13', I4 m n13' → J4 n13') → q120 a b J4 R)
    (h4 : ∀ x (n13 : Int), I4 x n13 → DFact (.sl 8 b) → DFact (.sl 8 a) → ∀ (J4 : Int → Prop), (∀ m n13', m < x → I4 m n13' → J4 n13') → q120_4 a b n13 J4 R) :
    C Try.prog 120 [.val false [.c (.sl 8 a)], .val false [.c (.sl 8 b)]] sg120 R :=
  C_rule (cx := cx120) (P := Try.prog) (f := 120) (fn := Try.f120) (c := (Try.f120.body.getD .skip)) (args := [.val false [.c (.sl 8 a)], .val false [.c (.sl 8 b)]]) (sg := sg120) (rv := Try.f120.results.toList) (N := 26) (R := R) (μ := Nat) (lt := (· < ·)) Nat.lt_wfRel.wf (fun m td st => (∃ (n13 : Int), td = _root_.Go.Gl.td (Try.f120.body.getD .skip) 4 ∧ st = st120_4 a b n13 ∧ I4 m n13)) (by kernel_rfl) (by kernel_rfl) Try.func120 (by kernel_rfl) (by kernel_rfl) (by kernel_rfl) (by kernel_rfl) (by kernel_rfl)
    (fun x td st h hf => by
      obtain ⟨n13, rfl, rfl, hi⟩ := h
      rw [v120_4]
      exact h4 x n13 hi (hf.sd 1 false [.c (.sl 8 b)] 0 (.sl 8 b) (by kernel_rfl) (by kernel_rfl)) (hf.sd 0 false [.c (.sl 8 a)] 0 (.sl 8 a) (by kernel_rfl) (by kernel_rfl)) _ (fun m n13 hm hi => ⟨m, hm, ⟨n13, rfl, rfl, hi⟩⟩))
    (fun hf => by rw [v120]; exact h (hf.sd 0 false [.c (.sl 8 a)] 0 (.sl 8 a) (by kernel_rfl) (by kernel_rfl)) (hf.sd 1 false [.c (.sl 8 b)] 0 (.sl 8 b) (by kernel_rfl) (by kernel_rfl)) _ (fun m n13 hi => ⟨m, ⟨n13, rfl, rfl, hi⟩⟩))

def F120_4 (b : List Int) : Int → (List Int) → Option Bool
  | i, [] => some true
  | i, x :: post => (if (0 : Int) ≤ i then (match b[Int.toNat i]? with | some x1 => (if (x != x1) = true then some false else (F120_4 b (i + 1) post)) | none => none) else none)
@[irreducible] def F120 (a : List Int) (b : List Int) : Option Bool := (if ((↑(List.length (List.map I.row a)) : Int) != (↑(List.length (List.map I.row b)) : Int)) = true then some false else (F120_4 b 0 a))
theorem c120 (a : List Int) (b : List Int) (RES : Bool) (hr : F120 a b = some RES) :
    C Try.prog 120 [.val false [.c (.sl 8 (List.map I.row a))], .val false [.c (.sl 8 (List.map I.row b))]] sg120 (fun r0 => r0 = RES) := by
  refine r120 (List.map I.row a) (List.map I.row b) _ (fun m i => ∃ pre post, a = pre ++ post ∧ m = post.length ∧ i = (pre.length : Int) ∧ F120_4 b i post = some RES) ?_ ?_
  · intro ef0 ef1 J4 hJ4
    unfold q120
    rw [F120] at hr
    refine ⟨fun hb6 => ?_, fun hb6 => ?_⟩
    · rw [if_pos hb6] at hr
      obtain rfl := Option.some.inj hr
      exact by first | rfl | trivial | simp [Ty.row_eq, Ex.row_eq, I.row_eq, S.row_eq, Il.row_eq, Cf.row_eq, Ch.row_eq]
    · rw [if_neg (by rw [hb6]; decide)] at hr
      exact hJ4 a.length _ ⟨[], a, rfl, rfl, rfl, hr⟩
  · rintro m i ⟨pre, post, hL, rfl, hi, hr⟩ sf0 sf1 J4 hJ4
    have hf := fact_sl sf1
    simp only [List.length_map] at hf
    have hlen : a.length = pre.length + post.length := by rw [hL, List.length_append]
    unfold q120_4
    cases post with
    | nil =>
      simp only [List.length_nil] at hlen
      rw [F120_4] at hr
      refine ⟨fun h => absurd h (by simp only [decide_eq_true_eq, List.length_map]; omega), fun _ => ?_⟩
      obtain rfl := Option.some.inj hr
      exact by first | rfl | trivial | simp [Ty.row_eq, Ex.row_eq, I.row_eq, S.row_eq, Il.row_eq, Cf.row_eq, Ch.row_eq]
    | cons x post =>
      simp only [List.length_cons] at hlen
      rw [F120_4] at hr
      have hrow : List.getD (List.map I.row a) (Int.toNat i) [] = I.row x := by rw [hL, hi, Int.toNat_natCast, getD_mid]
      refine ⟨fun _ => ?_, fun h => absurd h (by simp only [decide_eq_false_iff_not, List.length_map]; omega)⟩
      refine ⟨⟨by omega, by simp only [List.length_map]; omega, by rw [hrow, I.row_eq]; rfl⟩, ?_⟩
      refine ⟨x, by rw [hrow, I.row_eq]; rfl, ?_⟩
      by_cases hg5 : (0 : Int) ≤ i
      · rw [if_pos hg5] at hr
        cases hx2 : b[Int.toNat i]? with
        | none => rw [hx2] at hr; cases hr
        | some x1 =>
          rw [hx2] at hr
          dsimp only at hr
          have hrow3 : List.getD (List.map I.row b) (Int.toNat i) [] = I.row x1 := idx_row hx2
          refine ⟨(idx_ok hx2 ⟨by omega, rfl⟩ I.row_len), ?_⟩
          refine ⟨x1, by rw [hrow3, I.row_eq]; rfl, ?_⟩
          refine ⟨fun hb4 => ?_, fun hb4 => ?_⟩
          · rw [if_pos hb4] at hr
            obtain rfl := Option.some.inj hr
            exact by first | rfl | trivial | (simp only [hrow, hrow3]; simp [Ty.row_eq, Ex.row_eq, I.row_eq, S.row_eq, Il.row_eq, Cf.row_eq, Ch.row_eq]; done) | simp [Ty.row_eq, Ex.row_eq, I.row_eq, S.row_eq, Il.row_eq, Cf.row_eq, Ch.row_eq]
          · rw [if_neg (by rw [hb4]; decide)] at hr
            exact hJ4 post.length _ (by simp) ⟨pre ++ [x], post, by simp [hL], rfl, by rw [wrap_id (by omega) (by omega), hi]; simp, by rw [wrap_id (by omega) (by omega)]; exact hr⟩
      · rw [if_neg hg5] at hr; cases hr

noncomputable def cx71 : Cx := { P := Try.prog, sg := fun i => (alook [(120, sg120), (71, sg71)] i).getD ⟨[], []⟩, mv := fun i => (alook [] i).getD [], head := fun i => (alook [] i).getD ⟨0, 0, []⟩, ord := fun i => (alook [] i).getD [] }
def q71 (a0 : List (List D)) (a1 : List (List D)) (b0 : List (List D)) (b1 : List (List D))   (R : Bool → Prop) : Prop :=
  C Try.prog 120 [.val false [.c (.sl 8 a0)], .val false [.c (.sl 8 b0)]] sg120 (fun b => ((b = true → C Try.prog 120 [.val false [.c (.sl 8 a1)], .val false [.c (.sl 8 b1)]] sg120 (fun b2 => R b2)) ∧
  (b = false → R false)))
theorem v71 (a0 : List (List D)) (a1 : List (List D)) (b0 : List (List D)) (b1 : List (List D))  (J : List Item → St → Prop) (R : Bool → Prop) : wpt cx71 J (fin Try.prog Try.f71.results.toList sg71 R) 100000 [.code (Try.f71.body.getD .skip)] (initSt [.val true [.c (.sl 8 a0), .c (.sl 8 a1)], .val true [.c (.sl 8 b0), .c (.sl 8 b1)]] 17) = q71 a0 a1 b0 b1   R := by kernel_rfl
theorem r71 (a0 : List (List D)) (a1 : List (List D)) (b0 : List (List D)) (b1 : List (List D)) (R : Bool → Prop) 
    (h : DFact (.sl 8 a0) → DFact (.sl 8 a1) → DFact (.sl 8 b0) → DFact (.sl 8 b1) → q71 a0 a1 b0 b1  R) :
    C Try.prog 71 [.val true [.c (.sl 8 a0), .c (.sl 8 a1)], .val true [.c (.sl 8 b0), .c (.sl 8 b1)]] sg71 R :=
  C_rule (cx := cx71) (P := Try.prog) (f := 71) (fn := Try.f71) (c := (Try.f71.body.getD .skip)) (args := [.val true [.c (.sl 8 a0), .c (.sl 8 a1)], .val true [.c (.sl 8 b0), .c (.sl 8 b1)]]) (sg := sg71) (rv := Try.f71.results.toList) (N := 17) (R := R) (μ := Nat) (lt := (· < ·)) Nat.lt_wfRel.wf (fun m td st => False) (by kernel_rfl) (by kernel_rfl) Try.func71 (by kernel_rfl) (by kernel_rfl) (by kernel_rfl) (by kernel_rfl) (by kernel_rfl)
    (fun _ _ _ h => h.elim)
    (fun hf => by rw [v71]; exact h (hf.sd 0 true [.c (.sl 8 a0), .c (.sl 8 a1)] 0 (.sl 8 a0) (by kernel_rfl) (by kernel_rfl)) (hf.sd 0 true [.c (.sl 8 a0), .c (.sl 8 a1)] 1 (.sl 8 a1) (by kernel_rfl) (by kernel_rfl)) (hf.sd 1 true [.c (.sl 8 b0), .c (.sl 8 b1)] 0 (.sl 8 b0) (by kernel_rfl) (by kernel_rfl)) (hf.sd 1 true [.c (.sl 8 b0), .c (.sl 8 b1)] 1 (.sl 8 b1) (by kernel_rfl) (by kernel_rfl)) )

@[irreducible] def F71 (a : Cf) (b : Cf) : Option Bool := (match (F120 a.o b.o) with | some v1 => (if v1 = true then (match (F120 a.t b.t) with | some v3 => some v3 | none => none) else some false) | none => none)
theorem c71 (a : Cf) (b : Cf) (RES : Bool) (hr : F71 a b = some RES) :
    C Try.prog 71 [.val true [.c (.sl 8 (List.map I.row a.o)), .c (.sl 8 (List.map I.row a.t))], .val true [.c (.sl 8 (List.map I.row b.o)), .c (.sl 8 (List.map I.row b.t))]] sg71 (fun r0 => r0 = RES) := by
  refine r71 (List.map I.row a.o) (List.map I.row a.t) (List.map I.row b.o) (List.map I.row b.t) _  ?_
  · intro ef0 ef1 ef2 ef3
    unfold q71
    rw [F71] at hr
    cases hv7 : (F120 a.o b.o) with
    | none => rw [hv7] at hr; cases hr
    | some v1 =>
      rw [hv7] at hr
      dsimp only at hr
      refine (c120 a.o b.o _ hv7).imp ?_
      rintro r6_0 er6_0
      obtain rfl := er6_0.symm
      refine ⟨fun hb2 => ?_, fun hb2 => ?_⟩
      · rw [if_pos hb2] at hr
        cases hv5 : (F120 a.t b.t) with
        | none => rw [hv5] at hr; cases hr
        | some v3 =>
          rw [hv5] at hr
          dsimp only at hr
          refine (c120 a.t b.t _ hv5).imp ?_
          rintro r4_0 er4_0
          obtain rfl := er4_0.symm
          obtain rfl := Option.some.inj hr
          exact by first | rfl | trivial | simp [Ty.row_eq, Ex.row_eq, I.row_eq, S.row_eq, Il.row_eq, Cf.row_eq, Ch.row_eq]
      · rw [if_neg (by rw [hb2]; decide)] at hr
        obtain rfl := Option.some.inj hr
        exact by first | rfl | trivial | simp [Ty.row_eq, Ex.row_eq, I.row_eq, S.row_eq, Il.row_eq, Cf.row_eq, Ch.row_eq]

noncomputable def cx70 : Cx := { P := Try.prog, sg := fun i => (alook [(71, sg71), (70, sg70)] i).getD ⟨[], []⟩, mv := fun i => (alook [] i).getD [], head := fun i => (alook [(4, ⟨3000, 3, [⟨1, [some (87, 2, 48)]⟩, ⟨2, []⟩, ⟨15, [some (87, 2, 48)]⟩, ⟨16, [none]⟩, ⟨17, [none]⟩]⟩)] i).getD ⟨0, 0, []⟩, ord := fun i => (alook [] i).getD [] }
noncomputable def st70_4 (a : List (List D)) (b : List (List D)) (n17 : Int) : St := (St.of [(17, .v false [.c (.int .i64 n17)]), (16, .v false [.c (.int .i64 (↑(List.length a) : Int))]), (15, .v false [.c (.sl 48 a)]), (2, .fn 71 []), (1, .v false [.c (.sl 48 b)])] [] [] 3064 32)
def q70 (a : List (List D)) (b : List (List D))  (J4 : Int → Prop) (R : Bool → Prop) : Prop :=
  ((((↑(List.length a) : Int) != (↑(List.length b) : Int)) = true → R false) ∧
  (((↑(List.length a) : Int) != (↑(List.length b) : Int)) = false → J4 (0 : Int)))
theorem v70 (a : List (List D)) (b : List (List D))  (J : List Item → St → Prop) (R : Bool → Prop) : wpt cx70 J (fin Try.prog Try.f70.results.toList sg70 R) 100000 [.code (Try.f70.body.getD .skip)] (initSt [.val false [.c (.sl 48 a)], .val false [.c (.sl 48 b)], .fn 71 []] 32) = q70 a b  (fun n17 => J (td (Try.f70.body.getD .skip) 4) (st70_4 a b n17)) R := by kernel_rfl
def q70_4 (a : List (List D)) (b : List (List D)) (n17 : Int) (J4 : Int → Prop) (R : Bool → Prop) : Prop :=
  ((decide (n17 < (↑(List.length a) : Int)) = true → (((0 : Int) ≤ n17 ∧ n17 < (↑(List.length a) : Int) ∧ List.length (List.getD a (Int.toNat n17) []) = (2 : Nat)) ∧
  (∃ xs, (∃ xs1, ((List.take (2 : Nat) (List.drop (0 : Nat) (List.getD a (Int.toNat n17) [])) = [D.sl (8 : Nat) xs, D.sl (8 : Nat) xs1]) ∧
  (((0 : Int) ≤ n17 ∧ n17 < (↑(List.length b) : Int) ∧ List.length (List.getD b (Int.toNat n17) []) = (2 : Nat)) ∧
  (∃ xs2, (∃ xs3, ((List.take (2 : Nat) (List.drop (0 : Nat) (List.getD b (Int.toNat n17) [])) = [D.sl (8 : Nat) xs2, D.sl (8 : Nat) xs3]) ∧
  C Try.prog 71 [.val true [.c (.sl 8 xs), .c (.sl 8 xs1)], .val true [.c (.sl 8 xs2), .c (.sl 8 xs3)]] sg71 (fun b1 => (((!b1) = true → R false) ∧
  ((!b1) = false → J4 (IntKind.wrap IntKind.i64 (n17 + (1 : Int))))))))))))))) ∧
  (decide (n17 < (↑(List.length a) : Int)) = false → R true))
theorem v70_4 (a : List (List D)) (b : List (List D)) (n17 : Int) (J : List Item → St → Prop) (R : Bool → Prop) : wpt cx70 J (fin Try.prog Try.f70.results.toList sg70 R) 100000 (td (Try.f70.body.getD .skip) 4) (st70_4 a b n17) = q70_4 a b n17 (fun n17 => J (td (Try.f70.body.getD .skip) 4) (st70_4 a b n17)) R := by kernel_rfl
theorem r70 (a : List (List D)) (b : List (List D)) (R : Bool → Prop) (I4 : Nat → Int → Prop)
    (h : DFact (.sl 48 a) → DFact (.sl 48 b) → ∀ (J4 : Int → Prop), (∀ m n17', I4 m n17' → J4 n17') → q70 a b J4 R)
    (h4 : ∀ x (n17 : Int), I4 x n17 → DFact (.sl 48 a) → DFact (.sl 48 b) → ∀ (J4 : Int → Prop), (∀ m n17', m < x → I4 m n17' → J4 n17') → q70_4 a b n17 J4 R) :
    C Try.prog 70 [.val false [.c (.sl 48 a)], .val false [.c (.sl 48 b)], .fn 71 []] sg70 R :=
  C_rule (cx := cx70) (P := Try.prog) (f := 70) (fn := Try.f70) (c := (Try.f70.body.getD .skip)) (args := [.val false [.c (.sl 48 a)], .val false [.c (.sl 48 b)], .fn 71 []]) (sg := sg70) (rv := Try.f70.results.toList) (N := 32) (R := R) (μ := Nat) (lt := (· < ·)) Nat.lt_wfRel.wf (fun m td st => (∃ (n17 : Int), td = _root_.Go.Gl.td (Try.f70.body.getD .skip) 4 ∧ st = st70_4 a b n17 ∧ I4 m n17)) (by kernel_rfl) (by kernel_rfl) Try.func70 (by kernel_rfl) (by kernel_rfl) (by kernel_rfl) (by kernel_rfl) (by kernel_rfl)
    (fun x td st h hf => by
      obtain ⟨n17, rfl, rfl, hi⟩ := h
      rw [v70_4]
      exact h4 x n17 hi (hf.sd 15 false [.c (.sl 48 a)] 0 (.sl 48 a) (by kernel_rfl) (by kernel_rfl)) (hf.sd 1 false [.c (.sl 48 b)] 0 (.sl 48 b) (by kernel_rfl) (by kernel_rfl)) _ (fun m n17 hm hi => ⟨m, hm, ⟨n17, rfl, rfl, hi⟩⟩))
    (fun hf => by rw [v70]; exact h (hf.sd 0 false [.c (.sl 48 a)] 0 (.sl 48 a) (by kernel_rfl) (by kernel_rfl)) (hf.sd 1 false [.c (.sl 48 b)] 0 (.sl 48 b) (by kernel_rfl) (by kernel_rfl)) _ (fun m n17 hi => ⟨m, ⟨n17, rfl, rfl, hi⟩⟩))

def F70_4 (b : List Cf) : Int → (List Cf) → Option Bool
  | i, [] => some true
  | i, x :: post => (if (0 : Int) ≤ i then (match b[Int.toNat i]? with | some x1 => (match (F71 x x1) with | some v4 => (if (!v4) = true then some false else (F70_4 b (i + 1) post)) | none => none) | none => none) else none)
@[irreducible] def F70 (a : List Cf) (b : List Cf) : Option Bool := (if ((↑(List.length (List.map Cf.row a)) : Int) != (↑(List.length (List.map Cf.row b)) : Int)) = true then some false else (F70_4 b 0 a))
theorem c70 (a : List Cf) (b : List Cf) (RES : Bool) (hr : F70 a b = some RES) :
    C Try.prog 70 [.val false [.c (.sl 48 (List.map Cf.row a))], .val false [.c (.sl 48 (List.map Cf.row b))], .fn 71 []] sg70 (fun r0 => r0 = RES) := by
  refine r70 (List.map Cf.row a) (List.map Cf.row b) _ (fun m i => ∃ pre post, a = pre ++ post ∧ m = post.length ∧ i = (pre.length : Int) ∧ F70_4 b i post = some RES) ?_ ?_
  · intro ef0 ef1 J4 hJ4
    unfold q70
    rw [F70] at hr
    refine ⟨fun hb9 => ?_, fun hb9 => ?_⟩
    · rw [if_pos hb9] at hr
      obtain rfl := Option.some.inj hr
      exact by first | rfl | trivial | simp [Ty.row_eq, Ex.row_eq, I.row_eq, S.row_eq, Il.row_eq, Cf.row_eq, Ch.row_eq]
    · rw [if_neg (by rw [hb9]; decide)] at hr
      exact hJ4 a.length _ ⟨[], a, rfl, rfl, rfl, hr⟩
  · rintro m i ⟨pre, post, hL, rfl, hi, hr⟩ sf0 sf1 J4 hJ4
    have hf := fact_sl sf0
    simp only [List.length_map] at hf
    have hlen : a.length = pre.length + post.length := by rw [hL, List.length_append]
    unfold q70_4
    cases post with
    | nil =>
      simp only [List.length_nil] at hlen
      rw [F70_4] at hr
      refine ⟨fun h => absurd h (by simp only [decide_eq_true_eq, List.length_map]; omega), fun _ => ?_⟩
      obtain rfl := Option.some.inj hr
      exact by first | rfl | trivial | simp [Ty.row_eq, Ex.row_eq, I.row_eq, S.row_eq, Il.row_eq, Cf.row_eq, Ch.row_eq]
    | cons x post =>
      simp only [List.length_cons] at hlen
      rw [F70_4] at hr
      have hrow : List.getD (List.map Cf.row a) (Int.toNat i) [] = Cf.row x := by rw [hL, hi, Int.toNat_natCast, getD_mid]
      refine ⟨fun _ => ?_, fun h => absurd h (by simp only [decide_eq_false_iff_not, List.length_map]; omega)⟩
      refine ⟨⟨by omega, by simp only [List.length_map]; omega, by rw [hrow, Cf.row_eq]; rfl⟩, ?_⟩
      refine ⟨(List.map I.row x.o), (List.map I.row x.t), by rw [hrow, Cf.row_eq]; rfl, ?_⟩
      by_cases hg8 : (0 : Int) ≤ i
      · rw [if_pos hg8] at hr
        cases hx2 : b[Int.toNat i]? with
        | none => rw [hx2] at hr; cases hr
        | some x1 =>
          rw [hx2] at hr
          dsimp only at hr
          have hrow3 : List.getD (List.map Cf.row b) (Int.toNat i) [] = Cf.row x1 := idx_row hx2
          refine ⟨(idx_ok hx2 ⟨by omega, rfl⟩ Cf.row_len), ?_⟩
          refine ⟨(List.map I.row x1.o), (List.map I.row x1.t), by rw [hrow3, Cf.row_eq]; rfl, ?_⟩
          cases hv7 : (F71 x x1) with
          | none => rw [hv7] at hr; cases hr
          | some v4 =>
            rw [hv7] at hr
            dsimp only at hr
            refine (c71 x x1 _ hv7).imp ?_
            rintro r6_0 er6_0
            obtain rfl := er6_0.symm
            refine ⟨fun hb5 => ?_, fun hb5 => ?_⟩
            · rw [if_pos hb5] at hr
              obtain rfl := Option.some.inj hr
              exact by first | rfl | trivial | (simp only [hrow, hrow3]; simp [Ty.row_eq, Ex.row_eq, I.row_eq, S.row_eq, Il.row_eq, Cf.row_eq, Ch.row_eq]; done) | simp [Ty.row_eq, Ex.row_eq, I.row_eq, S.row_eq, Il.row_eq, Cf.row_eq, Ch.row_eq]
            · rw [if_neg (by rw [hb5]; decide)] at hr
              exact hJ4 post.length _ (by simp) ⟨pre ++ [x], post, by simp [hL], rfl, by rw [wrap_id (by omega) (by omega), hi]; simp, by rw [wrap_id (by omega) (by omega)]; exact hr⟩
      · rw [if_neg hg8] at hr; cases hr

noncomputable def cx24 : Cx := { P := Try.prog, sg := fun i => (alook [(70, sg70), (71, sg71), (24, sg24)] i).getD ⟨[], []⟩, mv := fun i => (alook [] i).getD [], head := fun i => (alook [] i).getD ⟨0, 0, []⟩, ord := fun i => (alook [] i).getD [] }
def q24 (a : List (List D)) (b : List (List D))   (R : Bool → Prop) : Prop :=
  C Try.prog 70 [.val false [.c (.sl 48 a)], .val false [.c (.sl 48 b)], .fn 71 []] sg70 (fun b1 => R b1)
theorem v24 (a : List (List D)) (b : List (List D))  (J : List Item → St → Prop) (R : Bool → Prop) : wpt cx24 J (fin Try.prog Try.f24.results.toList sg24 R) 100000 [.code (Try.f24.body.getD .skip)] (initSt [.val false [.c (.sl 48 a)], .val false [.c (.sl 48 b)]] 8) = q24 a b   R := by kernel_rfl
theorem r24 (a : List (List D)) (b : List (List D)) (R : Bool → Prop) 
    (h : DFact (.sl 48 a) → DFact (.sl 48 b) → q24 a b  R) :
    C Try.prog 24 [.val false [.c (.sl 48 a)], .val false [.c (.sl 48 b)]] sg24 R :=
  C_rule (cx := cx24) (P := Try.prog) (f := 24) (fn := Try.f24) (c := (Try.f24.body.getD .skip)) (args := [.val false [.c (.sl 48 a)], .val false [.c (.sl 48 b)]]) (sg := sg24) (rv := Try.f24.results.toList) (N := 8) (R := R) (μ := Nat) (lt := (· < ·)) Nat.lt_wfRel.wf (fun m td st => False) (by kernel_rfl) (by kernel_rfl) Try.func24 (by kernel_rfl) (by kernel_rfl) (by kernel_rfl) (by kernel_rfl) (by kernel_rfl)
    (fun _ _ _ h => h.elim)
    (fun hf => by rw [v24]; exact h (hf.sd 0 false [.c (.sl 48 a)] 0 (.sl 48 a) (by kernel_rfl) (by kernel_rfl)) (hf.sd 1 false [.c (.sl 48 b)] 0 (.sl 48 b) (by kernel_rfl) (by kernel_rfl)) )

@[irreducible] def F24 (a : List Cf) (b : List Cf) : Option Bool := (match (F70 a b) with | some v1 => some v1 | none => none)
theorem c24 (a : List Cf) (b : List Cf) (RES : Bool) (hr : F24 a b = some RES) :
    C Try.prog 24 [.val false [.c (.sl 48 (List.map Cf.row a))], .val false [.c (.sl 48 (List.map Cf.row b))]] sg24 (fun r0 => r0 = RES) := by
  refine r24 (List.map Cf.row a) (List.map Cf.row b) _  ?_
  · intro ef0 ef1
    unfold q24
    rw [F24] at hr
    cases hv3 : (F70 a b) with
    | none => rw [hv3] at hr; cases hr
    | some v1 =>
      rw [hv3] at hr
      dsimp only at hr
      refine (c70 a b _ hv3).imp ?_
      rintro r2_0 er2_0
      obtain rfl := er2_0.symm
      obtain rfl := Option.some.inj hr
      exact by first | rfl | trivial | simp [Ty.row_eq, Ex.row_eq, I.row_eq, S.row_eq, Il.row_eq, Cf.row_eq, Ch.row_eq]

noncomputable def cx72 : Cx := { P := Try.prog, sg := fun i => (alook [(20, sg20), (72, sg72)] i).getD ⟨[], []⟩, mv := fun i => (alook [] i).getD [], head := fun i => (alook [] i).getD ⟨0, 0, []⟩, ord := fun i => (alook [] i).getD [] }
def q72 (a0 : List (List D)) (a1 : List (List D)) (b0 : List (List D)) (b1 : List (List D))   (R : Bool → Prop) : Prop :=
  C Try.prog 20 [.val false [.c (.sl 8 a0)], .val false [.c (.sl 8 b0)]] sg20 (fun b => (((!b) = true → R false) ∧
  ((!b) = false → C Try.prog 20 [.val false [.c (.sl 8 a1)], .val false [.c (.sl 8 b1)]] sg20 (fun b2 => (((!b2) = true → R false) ∧
  ((!b2) = false → R true))))))
theorem v72 (a0 : List (List D)) (a1 : List (List D)) (b0 : List (List D)) (b1 : List (List D))  (J : List Item → St → Prop) (R : Bool → Prop) : wpt cx72 J (fin Try.prog Try.f72.results.toList sg72 R) 100000 [.code (Try.f72.body.getD .skip)] (initSt [.val true [.c (.sl 8 a0), .c (.sl 8 a1)], .val true [.c (.sl 8 b0), .c (.sl 8 b1)]] 17) = q72 a0 a1 b0 b1   R := by kernel_rfl
theorem r72 (a0 : List (List D)) (a1 : List (List D)) (b0 : List (List D)) (b1 : List (List D)) (R : Bool → Prop) 
    (h : DFact (.sl 8 a0) → DFact (.sl 8 a1) → DFact (.sl 8 b0) → DFact (.sl 8 b1) → q72 a0 a1 b0 b1  R) :
    C Try.prog 72 [.val true [.c (.sl 8 a0), .c (.sl 8 a1)], .val true [.c (.sl 8 b0), .c (.sl 8 b1)]] sg72 R :=
  C_rule (cx := cx72) (P := Try.prog) (f := 72) (fn := Try.f72) (c := (Try.f72.body.getD .skip)) (args := [.val true [.c (.sl 8 a0), .c (.sl 8 a1)], .val true [.c (.sl 8 b0), .c (.sl 8 b1)]]) (sg := sg72) (rv := Try.f72.results.toList) (N := 17) (R := R) (μ := Nat) (lt := (· < ·)) Nat.lt_wfRel.wf (fun m td st => False) (by kernel_rfl) (by kernel_rfl) Try.func72 (by kernel_rfl) (by kernel_rfl) (by kernel_rfl) (by kernel_rfl) (by kernel_rfl)
    (fun _ _ _ h => h.elim)
    (fun hf => by rw [v72]; exact h (hf.sd 0 true [.c (.sl 8 a0), .c (.sl 8 a1)] 0 (.sl 8 a0) (by kernel_rfl) (by kernel_rfl)) (hf.sd 0 true [.c (.sl 8 a0), .c (.sl 8 a1)] 1 (.sl 8 a1) (by kernel_rfl) (by kernel_rfl)) (hf.sd 1 true [.c (.sl 8 b0), .c (.sl 8 b1)] 0 (.sl 8 b0) (by kernel_rfl) (by kernel_rfl)) (hf.sd 1 true [.c (.sl 8 b0), .c (.sl 8 b1)] 1 (.sl 8 b1) (by kernel_rfl) (by kernel_rfl)) )

@[irreducible] def F72 (a : Cf) (b : Cf) : Option Bool := (match (F20 a.o b.o) with | some v1 => (if (!v1) = true then some false else (match (F20 a.t b.t) with | some v3 => (if (!v3) = true then some false else some true) | none => none)) | none => none)
theorem c72 (a : Cf) (b : Cf) (RES : Bool) (hr : F72 a b = some RES) :
    C Try.prog 72 [.val true [.c (.sl 8 (List.map I.row a.o)), .c (.sl 8 (List.map I.row a.t))], .val true [.c (.sl 8 (List.map I.row b.o)), .c (.sl 8 (List.map I.row b.t))]] sg72 (fun r0 => r0 = RES) := by
  refine r72 (List.map I.row a.o) (List.map I.row a.t) (List.map I.row b.o) (List.map I.row b.t) _  ?_
  · intro ef0 ef1 ef2 ef3
    unfold q72
    rw [F72] at hr
    cases hv8 : (F20 a.o b.o) with
    | none => rw [hv8] at hr; cases hr
    | some v1 =>
      rw [hv8] at hr
      dsimp only at hr
      refine (c20 a.o b.o _ hv8).imp ?_
      rintro r7_0 er7_0
      obtain rfl := er7_0.symm
      refine ⟨fun hb2 => ?_, fun hb2 => ?_⟩
      · rw [if_pos hb2] at hr
        obtain rfl := Option.some.inj hr
        exact by first | rfl | trivial | simp [Ty.row_eq, Ex.row_eq, I.row_eq, S.row_eq, Il.row_eq, Cf.row_eq, Ch.row_eq]
      · rw [if_neg (by rw [hb2]; decide)] at hr
        cases hv6 : (F20 a.t b.t) with
        | none => rw [hv6] at hr; cases hr
        | some v3 =>
          rw [hv6] at hr
          dsimp only at hr
          refine (c20 a.t b.t _ hv6).imp ?_
          rintro r5_0 er5_0
          obtain rfl := er5_0.symm
          refine ⟨fun hb4 => ?_, fun hb4 => ?_⟩
          · rw [if_pos hb4] at hr
            obtain rfl := Option.some.inj hr
            exact by first | rfl | trivial | simp [Ty.row_eq, Ex.row_eq, I.row_eq, S.row_eq, Il.row_eq, Cf.row_eq, Ch.row_eq]
          · rw [if_neg (by rw [hb4]; decide)] at hr
            obtain rfl := Option.some.inj hr
            exact by first | rfl | trivial | simp [Ty.row_eq, Ex.row_eq, I.row_eq, S.row_eq, Il.row_eq, Cf.row_eq, Ch.row_eq]

noncomputable def cx25 : Cx := { P := Try.prog, sg := fun i => (alook [(72, sg72), (25, sg25)] i).getD ⟨[], []⟩, mv := fun i => (alook [] i).getD [], head := fun i => (alook [(4, ⟨3000, 3, [⟨0, [some (87, 2, 48)]⟩, ⟨1, [some (87, 2, 48)]⟩, ⟨5, [none]⟩]⟩)] i).getD ⟨0, 0, []⟩, ord := fun i => (alook [(6, [0, 1, 2, 3, 4, 5, 6, 7, 8, 9])] i).getD [] }
noncomputable def st25_4 (a : List (List D)) (b : List (List D)) (n5 : Int) : St := (St.of [(5, .v false [.c (.int .i64 n5)]), (1, .v false [.c (.sl 48 b)]), (0, .v false [.c (.sl 48 a)])] [] [] 3064 27)
def q25 (a : List (List D)) (b : List (List D))  (J4 : Int → Prop) (R : Bool → Prop) : Prop :=
  ((((↑(List.length a) : Int) != (↑(List.length b) : Int)) = true → R false) ∧
  (((↑(List.length a) : Int) != (↑(List.length b) : Int)) = false → J4 (0 : Int)))
theorem v25 (a : List (List D)) (b : List (List D))  (J : List Item → St → Prop) (R : Bool → Prop) : wpt cx25 J (fin Try.prog Try.f25.results.toList sg25 R) 100000 [.code (Try.f25.body.getD .skip)] (initSt [.val false [.c (.sl 48 a)], .val false [.c (.sl 48 b)]] 27) = q25 a b  (fun n5 => J (td (Try.f25.body.getD .skip) 4) (st25_4 a b n5)) R := by kernel_rfl
def q25_4 (a : List (List D)) (b : List (List D)) (n5 : Int) (J4 : Int → Prop) (R : Bool → Prop) : Prop :=
  ((decide (n5 < (↑(List.length a) : Int)) = true → (((0 : Int) ≤ n5 ∧ n5 < (↑(List.length a) : Int) ∧ List.length (List.getD a (Int.toNat n5) []) = (2 : Nat)) ∧
  (∃ xs, (∃ xs1, ((List.take (2 : Nat) (List.drop (0 : Nat) (List.getD a (Int.toNat n5) [])) = [D.sl (8 : Nat) xs, D.sl (8 : Nat) xs1]) ∧
  (((0 : Int) ≤ n5 ∧ n5 < (↑(List.length b) : Int) ∧ List.length (List.getD b (Int.toNat n5) []) = (2 : Nat)) ∧
  (∃ xs2, (∃ xs3, ((List.take (2 : Nat) (List.drop (0 : Nat) (List.getD b (Int.toNat n5) [])) = [D.sl (8 : Nat) xs2, D.sl (8 : Nat) xs3]) ∧
  C Try.prog 72 [.val true [.c (.sl 8 xs), .c (.sl 8 xs1)], .val true [.c (.sl 8 xs2), .c (.sl 8 xs3)]] sg72 (fun b1 => (((!b1) = true → R false) ∧
  ((!b1) = false → J4 (IntKind.wrap IntKind.i64 (n5 + (1 : Int))))))))))))))) ∧
  (decide (n5 < (↑(List.length a) : Int)) = false → R true))
theorem v25_4 (a : List (List D)) (b : List (List D)) (n5 : Int) (J : List Item → St → Prop) (R : Bool → Prop) : wpt cx25 J (fin Try.prog Try.f25.results.toList sg25 R) 100000 (td (Try.f25.body.getD .skip) 4) (st25_4 a b n5) = q25_4 a b n5 (fun n5 => J (td (Try.f25.body.getD .skip) 4) (st25_4 a b n5)) R := by kernel_rfl
theorem r25 (a : List (List D)) (b : List (List D)) (R : Bool → Prop) (I4 : Nat → Int → Prop)
    (h : DFact (.sl 48 a) → DFact (.sl 48 b) → ∀ (J4 : Int → Prop), (∀ m n5', I4 m n5' → J4 n5') → q25 a b J4 R)
    (h4 : ∀ x (n5 : Int), I4 x n5 → DFact (.sl 48 b) → DFact (.sl 48 a) → ∀ (J4 : Int → Prop), (∀ m n5', m < x → I4 m n5' → J4 n5') → q25_4 a b n5 J4 R) :
    C Try.prog 25 [.val false [.c (.sl 48 a)], .val false [.c (.sl 48 b)]] sg25 R :=
  C_rule (cx := cx25) (P := Try.prog) (f := 25) (fn := Try.f25) (c := (Try.f25.body.getD .skip)) (args := [.val false [.c (.sl 48 a)], .val false [.c (.sl 48 b)]]) (sg := sg25) (rv := Try.f25.results.toList) (N := 27) (R := R) (μ := Nat) (lt := (· < ·)) Nat.lt_wfRel.wf (fun m td st => (∃ (n5 : Int), td = _root_.Go.Gl.td (Try.f25.body.getD .skip) 4 ∧ st = st25_4 a b n5 ∧ I4 m n5)) (by kernel_rfl) (by kernel_rfl) Try.func25 (by kernel_rfl) (by kernel_rfl) (by kernel_rfl) (by kernel_rfl) (by kernel_rfl)
    (fun x td st h hf => by
      obtain ⟨n5, rfl, rfl, hi⟩ := h
      rw [v25_4]
      exact h4 x n5 hi (hf.sd 1 false [.c (.sl 48 b)] 0 (.sl 48 b) (by kernel_rfl) (by kernel_rfl)) (hf.sd 0 false [.c (.sl 48 a)] 0 (.sl 48 a) (by kernel_rfl) (by kernel_rfl)) _ (fun m n5 hm hi => ⟨m, hm, ⟨n5, rfl, rfl, hi⟩⟩))
    (fun hf => by rw [v25]; exact h (hf.sd 0 false [.c (.sl 48 a)] 0 (.sl 48 a) (by kernel_rfl) (by kernel_rfl)) (hf.sd 1 false [.c (.sl 48 b)] 0 (.sl 48 b) (by kernel_rfl) (by kernel_rfl)) _ (fun m n5 hi => ⟨m, ⟨n5, rfl, rfl, hi⟩⟩))

def F25_4 (b : List Cf) : Int → (List Cf) → Option Bool
  | i, [] => some true
  | i, x :: post => (if (0 : Int) ≤ i then (match b[Int.toNat i]? with | some x1 => (match (F72 x x1) with | some v4 => (if (!v4) = true then some false else (F25_4 b (i + 1) post)) | none => none) | none => none) else none)
@[irreducible] def F25 (a : List Cf) (b : List Cf) : Option Bool := (if ((↑(List.length (List.map Cf.row a)) : Int) != (↑(List.length (List.map Cf.row b)) : Int)) = true then some false else (F25_4 b 0 a))
theorem c25 (a : List Cf) (b : List Cf) (RES : Bool) (hr : F25 a b = some RES) :
    C Try.prog 25 [.val false [.c (.sl 48 (List.map Cf.row a))], .val false [.c (.sl 48 (List.map Cf.row b))]] sg25 (fun r0 => r0 = RES) := by
  refine r25 (List.map Cf.row a) (List.map Cf.row b) _ (fun m i => ∃ pre post, a = pre ++ post ∧ m = post.length ∧ i = (pre.length : Int) ∧ F25_4 b i post = some RES) ?_ ?_
  · intro ef0 ef1 J4 hJ4
    unfold q25
    rw [F25] at hr
    refine ⟨fun hb9 => ?_, fun hb9 => ?_⟩
    · rw [if_pos hb9] at hr
      obtain rfl := Option.some.inj hr
      exact by first | rfl | trivial | simp [Ty.row_eq, Ex.row_eq, I.row_eq, S.row_eq, Il.row_eq, Cf.row_eq, Ch.row_eq]
    · rw [if_neg (by rw [hb9]; decide)] at hr
      exact hJ4 a.length _ ⟨[], a, rfl, rfl, rfl, hr⟩
  · rintro m i ⟨pre, post, hL, rfl, hi, hr⟩ sf0 sf1 J4 hJ4
    have hf := fact_sl sf1
    simp only [List.length_map] at hf
    have hlen : a.length = pre.length + post.length := by rw [hL, List.length_append]
    unfold q25_4
    cases post with
    | nil =>
      simp only [List.length_nil] at hlen
      rw [F25_4] at hr
      refine ⟨fun h => absurd h (by simp only [decide_eq_true_eq, List.length_map]; omega), fun _ => ?_⟩
      obtain rfl := Option.some.inj hr
      exact by first | rfl | trivial | simp [Ty.row_eq, Ex.row_eq, I.row_eq, S.row_eq, Il.row_eq, Cf.row_eq, Ch.row_eq]
    | cons x post =>
      simp only [List.length_cons] at hlen
      rw [F25_4] at hr
      have hrow : List.getD (List.map Cf.row a) (Int.toNat i) [] = Cf.row x := by rw [hL, hi, Int.toNat_natCast, getD_mid]
      refine ⟨fun _ => ?_, fun h => absurd h (by simp only [decide_eq_false_iff_not, List.length_map]; omega)⟩
      refine ⟨⟨by omega, by simp only [List.length_map]; omega, by rw [hrow, Cf.row_eq]; rfl⟩, ?_⟩
      refine ⟨(List.map I.row x.o), (List.map I.row x.t), by rw [hrow, Cf.row_eq]; rfl, ?_⟩
      by_cases hg8 : (0 : Int) ≤ i
      · rw [if_pos hg8] at hr
        cases hx2 : b[Int.toNat i]? with
        | none => rw [hx2] at hr; cases hr
        | some x1 =>
          rw [hx2] at hr
          dsimp only at hr
          have hrow3 : List.getD (List.map Cf.row b) (Int.toNat i) [] = Cf.row x1 := idx_row hx2
          refine ⟨(idx_ok hx2 ⟨by omega, rfl⟩ Cf.row_len), ?_⟩
          refine ⟨(List.map I.row x1.o), (List.map I.row x1.t), by rw [hrow3, Cf.row_eq]; rfl, ?_⟩
          cases hv7 : (F72 x x1) with
          | none => rw [hv7] at hr; cases hr
          | some v4 =>
            rw [hv7] at hr
            dsimp only at hr
            refine (c72 x x1 _ hv7).imp ?_
            rintro r6_0 er6_0
            obtain rfl := er6_0.symm
            refine ⟨fun hb5 => ?_, fun hb5 => ?_⟩
            · rw [if_pos hb5] at hr
              obtain rfl := Option.some.inj hr
              exact by first | rfl | trivial | (simp only [hrow, hrow3]; simp [Ty.row_eq, Ex.row_eq, I.row_eq, S.row_eq, Il.row_eq, Cf.row_eq, Ch.row_eq]; done) | simp [Ty.row_eq, Ex.row_eq, I.row_eq, S.row_eq, Il.row_eq, Cf.row_eq, Ch.row_eq]
            · rw [if_neg (by rw [hb5]; decide)] at hr
              exact hJ4 post.length _ (by simp) ⟨pre ++ [x], post, by simp [hL], rfl, by rw [wrap_id (by omega) (by omega), hi]; simp, by rw [wrap_id (by omega) (by omega)]; exact hr⟩
      · rw [if_neg hg8] at hr; cases hr

noncomputable def cx5 : Cx := { P := Try.prog, sg := fun i => (alook [(21, sg21), (23, sg23), (22, sg22), (24, sg24), (25, sg25), (5, sg5)] i).getD ⟨[], []⟩, mv := fun i => (alook [] i).getD [], head := fun i => (alook [] i).getD ⟨0, 0, []⟩, ord := fun i => (alook [] i).getD [] }
def q5 (a : List (List D)) (b : List (List D))   (R : Bool → Prop) : Prop :=
  C Try.prog 21 [.val false [.c (.sl 48 a)], .val false [.c (.int .i64 (1048576 : Int))]] sg21 (fun n => ((decide (n < (0 : Int)) = true → R true) ∧
  (decide (n < (0 : Int)) = false → C Try.prog 21 [.val false [.c (.sl 48 b)], .val false [.c (.int .i64 n)]] sg21 (fun n1 => ((decide (n1 < (0 : Int)) = true → R true) ∧
  (decide (n1 < (0 : Int)) = false → C Try.prog 23 [.val false [.c (.sl 48 a)]] sg23 (fun xs => C Try.prog 23 [.val false [.c (.sl 48 b)]] sg23 (fun xs1 => C Try.prog 22 [.val false [.c (.sl 48 xs)], .val false [.c (.sl 48 xs1)]] sg22 (fun b1 => C Try.prog 23 [.val false [.c (.sl 48 a)]] sg23 (fun xs2 => C Try.prog 23 [.val false [.c (.sl 48 b)]] sg23 (fun xs3 => C Try.prog 24 [.val false [.c (.sl 48 xs2)], .val false [.c (.sl 48 xs3)]] sg24 (fun b2 => (((b2 != b1) = true → R false) ∧
  ((b2 != b1) = false → C Try.prog 23 [.val false [.c (.sl 48 a)]] sg23 (fun xs4 => C Try.prog 25 [.val false [.c (.sl 48 xs2)], .val false [.c (.sl 48 xs4)]] sg25 (fun b3 => (((!b3) = true → R false) ∧
  ((!b3) = false → C Try.prog 23 [.val false [.c (.sl 48 b)]] sg23 (fun xs5 => C Try.prog 25 [.val false [.c (.sl 48 xs3)], .val false [.c (.sl 48 xs5)]] sg25 (fun b4 => (((!b4) = true → R false) ∧
  ((!b4) = false → R true))))))))))))))))))))))
theorem v5 (a : List (List D)) (b : List (List D))  (J : List Item → St → Prop) (R : Bool → Prop) : wpt cx5 J (fin Try.prog Try.f5.results.toList sg5 R) 100000 [.code (Try.f5.body.getD .skip)] (initSt [.val false [.c (.sl 48 a)], .val false [.c (.sl 48 b)]] 45) = q5 a b   R := by kernel_rfl
theorem r5 (a : List (List D)) (b : List (List D)) (R : Bool → Prop) 
    (h : DFact (.sl 48 a) → DFact (.sl 48 b) → q5 a b  R) :
    C Try.prog 5 [.val false [.c (.sl 48 a)], .val false [.c (.sl 48 b)]] sg5 R :=
  C_rule (cx := cx5) (P := Try.prog) (f := 5) (fn := Try.f5) (c := (Try.f5.body.getD .skip)) (args := [.val false [.c (.sl 48 a)], .val false [.c (.sl 48 b)]]) (sg := sg5) (rv := Try.f5.results.toList) (N := 45) (R := R) (μ := Nat) (lt := (· < ·)) Nat.lt_wfRel.wf (fun m td st => False) (by kernel_rfl) (by kernel_rfl) Try.func5 (by kernel_rfl) (by kernel_rfl) (by kernel_rfl) (by kernel_rfl) (by kernel_rfl)
    (fun _ _ _ h => h.elim)
    (fun hf => by rw [v5]; exact h (hf.sd 0 false [.c (.sl 48 a)] 0 (.sl 48 a) (by kernel_rfl) (by kernel_rfl)) (hf.sd 1 false [.c (.sl 48 b)] 0 (.sl 48 b) (by kernel_rfl) (by kernel_rfl)) )

@[irreducible] def F5 (a : List Cf) (b : List Cf) : Option Bool := (if (decide ((F21 a (1048576 : Int)) < (0 : Int))) = true then some true else (if (decide ((F21 b (F21 a (1048576 : Int))) < (0 : Int))) = true then some true else (match (F22 (F23 a) (F23 b)) with | some v3 => (match (F24 (F23 a) (F23 b)) with | some v4 => (if (v4 != v3) = true then some false else (match (F25 (F23 a) (F23 a)) with | some v6 => (if (!v6) = true then some false else (match (F25 (F23 b) (F23 b)) with | some v8 => (if (!v8) = true then some false else some true) | none => none)) | none => none)) | none => none) | none => none)))
theorem c5 (a : List Cf) (b : List Cf) (RES : Bool) (hr : F5 a b = some RES) :
    C Try.prog 5 [.val false [.c (.sl 48 (List.map Cf.row a))], .val false [.c (.sl 48 (List.map Cf.row b))]] sg5 (fun r0 => r0 = RES) := by
  refine r5 (List.map Cf.row a) (List.map Cf.row b) _  ?_
  · intro ef0 ef1
    unfold q5
    rw [F5] at hr
    refine (c21 a (1048576 : Int) _ rfl).imp ?_
    rintro r25_0 er25_0
    obtain rfl := er25_0.symm
    refine ⟨fun hb1 => ?_, fun hb1 => ?_⟩
    · rw [if_pos hb1] at hr
      obtain rfl := Option.some.inj hr
      exact by first | rfl | trivial | simp [Ty.row_eq, Ex.row_eq, I.row_eq, S.row_eq, Il.row_eq, Cf.row_eq, Ch.row_eq]
    · rw [if_neg (by rw [hb1]; decide)] at hr
      refine (c21 b (F21 a (1048576 : Int)) _ rfl).imp ?_
      rintro r24_0 er24_0
      obtain rfl := er24_0.symm
      refine ⟨fun hb2 => ?_, fun hb2 => ?_⟩
      · rw [if_pos hb2] at hr
        obtain rfl := Option.some.inj hr
        exact by first | rfl | trivial | simp [Ty.row_eq, Ex.row_eq, I.row_eq, S.row_eq, Il.row_eq, Cf.row_eq, Ch.row_eq]
      · rw [if_neg (by rw [hb2]; decide)] at hr
        refine (c23 a _ rfl).imp ?_
        rintro r23_0 er23_0
        obtain rfl := er23_0.symm
        refine (c23 b _ rfl).imp ?_
        rintro r22_0 er22_0
        obtain rfl := er22_0.symm
        cases hv21 : (F22 (F23 a) (F23 b)) with
        | none => rw [hv21] at hr; cases hr
        | some v3 =>
          rw [hv21] at hr
          dsimp only at hr
          refine (c22 (F23 a) (F23 b) _ hv21).imp ?_
          rintro r20_0 er20_0
          obtain rfl := er20_0.symm
          refine (c23 a _ rfl).imp ?_
          rintro r19_0 er19_0
          obtain rfl := er19_0.symm
          refine (c23 b _ rfl).imp ?_
          rintro r18_0 er18_0
          obtain rfl := er18_0.symm
          cases hv17 : (F24 (F23 a) (F23 b)) with
          | none => rw [hv17] at hr; cases hr
          | some v4 =>
            rw [hv17] at hr
            dsimp only at hr
            refine (c24 (F23 a) (F23 b) _ hv17).imp ?_
            rintro r16_0 er16_0
            obtain rfl := er16_0.symm
            refine ⟨fun hb5 => ?_, fun hb5 => ?_⟩
            · rw [if_pos hb5] at hr
              obtain rfl := Option.some.inj hr
              exact by first | rfl | trivial | simp [Ty.row_eq, Ex.row_eq, I.row_eq, S.row_eq, Il.row_eq, Cf.row_eq, Ch.row_eq]
            · rw [if_neg (by rw [hb5]; decide)] at hr
              refine (c23 a _ rfl).imp ?_
              rintro r15_0 er15_0
              obtain rfl := er15_0.symm
              cases hv14 : (F25 (F23 a) (F23 a)) with
              | none => rw [hv14] at hr; cases hr
              | some v6 =>
                rw [hv14] at hr
                dsimp only at hr
                refine (c25 (F23 a) (F23 a) _ hv14).imp ?_
                rintro r13_0 er13_0
                obtain rfl := er13_0.symm
                refine ⟨fun hb7 => ?_, fun hb7 => ?_⟩
                · rw [if_pos hb7] at hr
                  obtain rfl := Option.some.inj hr
                  exact by first | rfl | trivial | simp [Ty.row_eq, Ex.row_eq, I.row_eq, S.row_eq, Il.row_eq, Cf.row_eq, Ch.row_eq]
                · rw [if_neg (by rw [hb7]; decide)] at hr
                  refine (c23 b _ rfl).imp ?_
                  rintro r12_0 er12_0
                  obtain rfl := er12_0.symm
                  cases hv11 : (F25 (F23 b) (F23 b)) with
                  | none => rw [hv11] at hr; cases hr
                  | some v8 =>
                    rw [hv11] at hr
                    dsimp only at hr
                    refine (c25 (F23 b) (F23 b) _ hv11).imp ?_
                    rintro r10_0 er10_0
                    obtain rfl := er10_0.symm
                    refine ⟨fun hb9 => ?_, fun hb9 => ?_⟩
                    · rw [if_pos hb9] at hr
                      obtain rfl := Option.some.inj hr
                      exact by first | rfl | trivial | simp [Ty.row_eq, Ex.row_eq, I.row_eq, S.row_eq, Il.row_eq, Cf.row_eq, Ch.row_eq]
                    · rw [if_neg (by rw [hb9]; decide)] at hr
                      obtain rfl := Option.some.inj hr
                      exact by first | rfl | trivial | simp [Ty.row_eq, Ex.row_eq, I.row_eq, S.row_eq, Il.row_eq, Cf.row_eq, Ch.row_eq]

end Go.Gl
