import Derived.Test.YtfkeggikdeenbaaT1
import Derived.Test.YtfkeggikdeenbaaT3
import Derived.Test.YtfkeggikdeenbaaL42
import Derived.Test.YtfkeggikdeenbaaChecked
set_option linter.unusedVariables false
set_option linter.unusedSimpArgs false
namespace Go.Gl
open Go.Proofs
def sg18 : Sig := ⟨[(false, [.own 3 3 1 8])], []⟩
def sg20 : Sig := ⟨[(false, [.c .bool])], []⟩
def sg118 : Sig := ⟨[(false, [.c (.int .i64)])], []⟩
def sg119 : Sig := ⟨[(false, [.c .bool])], []⟩
def sg68 : Sig := ⟨[(false, [.c .bool])], []⟩
def sg120 : Sig := ⟨[(false, [.c .bool])], []⟩
def sg121 : Sig := ⟨[(false, [.c (.int .i64)])], []⟩
def sg73 : Sig := ⟨[(false, [.c (.int .i64)])], []⟩
def sg74 : Sig := ⟨[(false, [.c (.int .i64)])], []⟩
def sg26 : Sig := ⟨[(false, [.c (.int .i64)])], []⟩
def sg122 : Sig := ⟨[(false, [.own 3 45 2 32])], []⟩
def sg76 : Sig := ⟨[(true, [.c (.int .i64), .own 3 45 2 32])], []⟩
def sg77 : Sig := ⟨[(false, [.own 3 48 6 88])], []⟩
def sg28 : Sig := ⟨[(true, [.c (.int .i64), .c .str, .c (.int .i64), .c (.int .i64), .own 3 45 2 32, .own 3 48 6 88])], []⟩
def sg83 : Sig := ⟨[(false, [.c .bool])], []⟩
def sg33 : Sig := ⟨[(false, [.c .bool])], []⟩
def sg79 : Sig := ⟨[(false, [.c .bool])], []⟩
def sg30 : Sig := ⟨[(false, [.c .bool])], []⟩
def sg91 : Sig := ⟨[(false, [.c (.int .i64)])], []⟩
def sg41 : Sig := ⟨[(false, [.c (.int .i64)])], []⟩
def sg93 : Sig := ⟨[(true, [.own 3 3 1 8, .c (.int .i64), .c .str, .c (.int .i64), .c (.int .i64), .own 3 45 2 32, .own 3 48 6 88])], []⟩
def sg43 : Sig := ⟨[(false, [.own 3 116 7 112])], []⟩
def sg138 : Sig := ⟨[(false, [.c .bool])], []⟩
def sg92 : Sig := ⟨[(false, [.c .bool])], []⟩
def sg42 : Sig := ⟨[(false, [.c .bool])], []⟩
def sg104 : Sig := ⟨[(false, [.c .bool])], []⟩
def sg51 : Sig := ⟨[(false, [.c .bool])], []⟩
def sg155 : Sig := ⟨[(false, [.c .bool])], []⟩
def sg139 : Sig := ⟨[(false, [.c .bool])], []⟩
def sg95 : Sig := ⟨[(false, [.c .bool])], []⟩
def sg94 : Sig := ⟨[(false, [.c .bool])], []⟩
def sg44 : Sig := ⟨[(false, [.c .bool])], []⟩
def sg96 : Sig := ⟨[(false, [.c .bool])], []⟩
def sg45 : Sig := ⟨[(false, [.c .bool])], []⟩
def sg9 : Sig := ⟨[(false, [.c .bool])], []⟩
noncomputable def cx18 : Cx := { P := Try.prog, sg := fun i => (alook [(18, sg18)] i).getD ⟨[], []⟩, mv := fun i => (alook [] i).getD [], head := fun i => (alook [(3, ⟨3000, 3, [⟨0, [some (3, 1, 8)]⟩, ⟨3, [some (3, 1, 8)]⟩, ⟨4, [none]⟩]⟩)] i).getD ⟨0, 0, []⟩, ord := fun i => (alook [] i).getD [] }
noncomputable def st18_3 (a : List (List D)) (n4 : Int) (x3000 : List (List D)) : St := (St.of [(4, .v false [.c (.int .i64 n4)]), (3, .v false [.tk 3000]), (0, .v false [.c (.sl 8 a)])] [] [(3000, ⟨3, 3, 1, 8, x3000⟩)] 3064 22)
def q18 (a : List (List D))  (J3 : Int → (List (List D)) → Prop) (R : (List (List D)) → Prop) : Prop :=
  (((0 : Int) ≤ (↑(List.length a) : Int) ∧ (↑(List.length a) : Int) = (↑(List.length a) : Int) ∧ (↑(List.length a) : Int) * (↑(8 : Nat) : Int) ≤ (↑capB : Int)) ∧
  J3 (0 : Int) (List.replicate (Int.toNat (↑(List.length a) : Int)) (List.map CK.zeroD [CK.int IntKind.i64])))
theorem v18 (a : List (List D))  (J : List Item → St → Prop) (R : (List (List D)) → Prop) : wpt cx18 J (fin Try.prog Try.f18.results.toList sg18 R) 100000 [.code (Try.f18.body.getD .skip)] (initSt [.val false [.c (.sl 8 a)]] 22) = q18 a  (fun n4 x3000 => J (td (Try.f18.body.getD .skip) 3) (st18_3 a n4 x3000)) R := by kernel_rfl
def q18_3 (a : List (List D)) (n4 : Int) (x3000 : List (List D)) (J3 : Int → (List (List D)) → Prop) (R : (List (List D)) → Prop) : Prop :=
  ((decide (n4 < (↑(List.length a) : Int)) = true → (((0 : Int) ≤ n4 ∧ n4 < (↑(List.length a) : Int) ∧ List.length (List.getD a (Int.toNat n4) []) = (1 : Nat)) ∧
  (∃ n, ((List.take (1 : Nat) (List.drop (0 : Nat) (List.getD a (Int.toNat n4) [])) = [D.int IntKind.i64 n]) ∧
  (((0 : Int) ≤ n4 ∧ n4 < (↑(List.length x3000) : Int)) ∧
  (((1 : Nat) ≤ List.length (List.getD x3000 (Int.toNat n4) [])) ∧
  J3 (IntKind.wrap IntKind.i64 (n4 + (1 : Int))) (List.set x3000 (Int.toNat n4) (List.take (0 : Nat) (List.getD x3000 (Int.toNat n4) []) ++ [D.int IntKind.i64 n] ++ List.drop (1 : Nat) (List.getD x3000 (Int.toNat n4) []))))))))) ∧
  (decide (n4 < (↑(List.length a) : Int)) = false → R x3000))
theorem v18_3 (a : List (List D)) (n4 : Int) (x3000 : List (List D)) (J : List Item → St → Prop) (R : (List (List D)) → Prop) : wpt cx18 J (fin Try.prog Try.f18.results.toList sg18 R) 100000 (td (Try.f18.body.getD .skip) 3) (st18_3 a n4 x3000) = q18_3 a n4 x3000 (fun n4 x3000 => J (td (Try.f18.body.getD .skip) 3) (st18_3 a n4 x3000)) R := by kernel_rfl
theorem r18 (a : List (List D)) (R : (List (List D)) → Prop) (I3 : Nat → Int → (List (List D)) → Prop)
    (h : DFact (.sl 8 a) → ∀ (J3 : Int → (List (List D)) → Prop), (∀ m n4' x3000', I3 m n4' x3000' → J3 n4' x3000') → q18 a J3 R)
    (h3 : ∀ x (n4 : Int) (x3000 : List (List D)), I3 x n4 x3000 → DFact (.sl 8 a) → DFact (.sl 8 x3000) → ∀ (J3 : Int → (List (List D)) → Prop), (∀ m n4' x3000', m < x → I3 m n4' x3000' → J3 n4' x3000') → q18_3 a n4 x3000 J3 R) :
    C Try.prog 18 [.val false [.c (.sl 8 a)]] sg18 R :=
  C_rule (cx := cx18) (P := Try.prog) (f := 18) (fn := Try.f18) (c := (Try.f18.body.getD .skip)) (args := [.val false [.c (.sl 8 a)]]) (sg := sg18) (rv := Try.f18.results.toList) (N := 22) (R := R) (μ := Nat) (lt := (· < ·)) Nat.lt_wfRel.wf (fun m td st => (∃ (n4 : Int) (x3000 : List (List D)), td = _root_.Go.Gl.td (Try.f18.body.getD .skip) 3 ∧ st = st18_3 a n4 x3000 ∧ I3 m n4 x3000)) (by kernel_rfl) (by kernel_rfl) Try.func18 (by kernel_rfl) (by kernel_rfl) (by kernel_rfl) (by kernel_rfl) (by kernel_rfl)
    (fun x td st h hf => by
      obtain ⟨n4, x3000, rfl, rfl, hi⟩ := h
      rw [v18_3]
      exact h3 x n4 x3000 hi (hf.sd 0 false [.c (.sl 8 a)] 0 (.sl 8 a) (by kernel_rfl) (by kernel_rfl)) (hf.td 3000 3 3 1 8 x3000 (by kernel_rfl)) _ (fun m n4 x3000 hm hi => ⟨m, hm, ⟨n4, x3000, rfl, rfl, hi⟩⟩))
    (fun hf => by rw [v18]; exact h (hf.sd 0 false [.c (.sl 8 a)] 0 (.sl 8 a) (by kernel_rfl) (by kernel_rfl)) _ (fun m n4 x3000 hi => ⟨m, ⟨n4, x3000, rfl, rfl, hi⟩⟩))

theorem d18 (xs : List Int) :
    C Try.prog 18 [.val false [.c (.sl 8 (xs.map I.row))]] sg18 (fun l => l = xs.map I.row) := by
  refine r18 _ _ (fun m i l => ∃ pre post, xs = pre ++ post ∧ m = post.length ∧ i = pre.length ∧ l = pre.map I.row ++ List.replicate post.length [.int .i64 0]) ?_ ?_
  · intro f1 J hJ
    have f1 := fact_sl f1
    simp only [q18, List.length_map, capB] at f1 ⊢
    exact ⟨⟨by omega, trivial, by omega⟩, hJ xs.length _ _ ⟨[], xs, rfl, rfl, rfl, by rw [Int.toNat_natCast]; rfl⟩⟩
  · rintro m i l ⟨pre, post, rfl, rfl, rfl, rfl⟩ f1 _ J hJ
    have f1 := fact_sl f1
    simp only [q18_3, List.length_map, List.length_append, decide_eq_true_eq, decide_eq_false_iff_not] at f1 ⊢
    cases post with
    | nil => exact ⟨fun h => absurd h (by simp), fun _ => by simp⟩
    | cons x post =>
      simp only [List.length_cons, List.length_replicate] at f1 ⊢
      refine ⟨fun _ => ⟨⟨by omega, by omega, by rw [Int.toNat_natCast, getD_mid, I.row_eq]; rfl⟩, x, by rw [Int.toNat_natCast, getD_mid, I.row_eq]; rfl, ?_⟩, fun h => absurd h (by omega)⟩
      refine ⟨⟨by omega, by omega⟩, by rw [Int.toNat_natCast, getD_rep]; simp, ?_⟩
      rw [wrap_id (by omega) (by omega)]
      refine hJ post.length _ _ (by simp) ⟨pre ++ [x], post, by simp, rfl, by simp, ?_⟩
      rw [Int.toNat_natCast, getD_rep, set_rep, List.map_append, List.map_cons, I.row_eq]; simp
def F18 (a : List Int) : List Int := a
theorem F18_eq (a : List Int) : F18 a = a := rfl
theorem c18 (a : List Int) (RES : List Int) (hr : F18 a = RES) :
    C Try.prog 18 [.val false [.c (.sl 8 (a.map I.row))]] sg18 (fun r0 => r0 = RES.map I.row) := by
  subst hr
  exact d18 a
attribute [irreducible] F18

noncomputable def cx20 : Cx := { P := Try.prog, sg := fun i => (alook [(20, sg20)] i).getD ⟨[], []⟩, mv := fun i => (alook [] i).getD [], head := fun i => (alook [(4, ⟨3000, 3, [⟨0, [some (3, 1, 8)]⟩, ⟨1, [some (3, 1, 8)]⟩, ⟨5, [none]⟩]⟩)] i).getD ⟨0, 0, []⟩, ord := fun i => (alook [(6, [0, 1, 2, 3, 4, 5, 6, 7, 8])] i).getD [] }
noncomputable def st20_4 (a : List (List D)) (b : List (List D)) (n5 : Int) : St := (St.of [(5, .v false [.c (.int .i64 n5)]), (1, .v false [.c (.sl 8 b)]), (0, .v false [.c (.sl 8 a)])] [] [] 3064 26)
def q20 (a : List (List D)) (b : List (List D))  (J4 : Int → Prop) (R : Bool → Prop) : Prop :=
  ((((↑(List.length a) : Int) != (↑(List.length b) : Int)) = true → R false) ∧
  (((↑(List.length a) : Int) != (↑(List.length b) : Int)) = false → J4 (0 : Int)))
theorem v20 (a : List (List D)) (b : List (List D))  (J : List Item → St → Prop) (R : Bool → Prop) : wpt cx20 J (fin Try.prog Try.f20.results.toList sg20 R) 100000 [.code (Try.f20.body.getD .skip)] (initSt [.val false [.c (.sl 8 a)], .val false [.c (.sl 8 b)]] 26) = q20 a b  (fun n5 => J (td (Try.f20.body.getD .skip) 4) (st20_4 a b n5)) R := by kernel_rfl
def q20_4 (a : List (List D)) (b : List (List D)) (n5 : Int) (J4 : Int → Prop) (R : Bool → Prop) : Prop :=
  ((decide (n5 < (↑(List.length a) : Int)) = true → (((0 : Int) ≤ n5 ∧ n5 < (↑(List.length a) : Int) ∧ List.length (List.getD a (Int.toNat n5) []) = (1 : Nat)) ∧
  (∃ n, ((List.take (1 : Nat) (List.drop (0 : Nat) (List.getD a (Int.toNat n5) [])) = [D.int IntKind.i64 n]) ∧
  (((0 : Int) ≤ n5 ∧ n5 < (↑(List.length b) : Int) ∧ List.length (List.getD b (Int.toNat n5) []) = (1 : Nat)) ∧
  (∃ n1, ((List.take (1 : Nat) (List.drop (0 : Nat) (List.getD b (Int.toNat n5) [])) = [D.int IntKind.i64 n1]) ∧
  (((n != n1) = true → R false) ∧
  ((n != n1) = false → J4 (IntKind.wrap IntKind.i64 (n5 + (1 : Int)))))))))))) ∧
  (decide (n5 < (↑(List.length a) : Int)) = false → R true))
theorem v20_4 (a : List (List D)) (b : List (List D)) (n5 : Int) (J : List Item → St → Prop) (R : Bool → Prop) : wpt cx20 J (fin Try.prog Try.f20.results.toList sg20 R) 100000 (td (Try.f20.body.getD .skip) 4) (st20_4 a b n5) = q20_4 a b n5 (fun n5 => J (td (Try.f20.body.getD .skip) 4) (st20_4 a b n5)) R := by kernel_rfl
theorem r20 (a : List (List D)) (b : List (List D)) (R : Bool → Prop) (I4 : Nat → Int → Prop)
    (h : DFact (.sl 8 a) → DFact (.sl 8 b) → ∀ (J4 : Int → Prop), (∀ m n5', I4 m n5' → J4 n5') → q20 a b J4 R)
    (h4 : ∀ x (n5 : Int), I4 x n5 → DFact (.sl 8 b) → DFact (.sl 8 a) → ∀ (J4 : Int → Prop), (∀ m n5', m < x → I4 m n5' → J4 n5') → q20_4 a b n5 J4 R) :
    C Try.prog 20 [.val false [.c (.sl 8 a)], .val false [.c (.sl 8 b)]] sg20 R :=
  C_rule (cx := cx20) (P := Try.prog) (f := 20) (fn := Try.f20) (c := (Try.f20.body.getD .skip)) (args := [.val false [.c (.sl 8 a)], .val false [.c (.sl 8 b)]]) (sg := sg20) (rv := Try.f20.results.toList) (N := 26) (R := R) (μ := Nat) (lt := (· < ·)) Nat.lt_wfRel.wf (fun m td st => (∃ (n5 : Int), td = _root_.Go.Gl.td (Try.f20.body.getD .skip) 4 ∧ st = st20_4 a b n5 ∧ I4 m n5)) (by kernel_rfl) (by kernel_rfl) Try.func20 (by kernel_rfl) (by kernel_rfl) (by kernel_rfl) (by kernel_rfl) (by kernel_rfl)
    (fun x td st h hf => by
      obtain ⟨n5, rfl, rfl, hi⟩ := h
      rw [v20_4]
      exact h4 x n5 hi (hf.sd 1 false [.c (.sl 8 b)] 0 (.sl 8 b) (by kernel_rfl) (by kernel_rfl)) (hf.sd 0 false [.c (.sl 8 a)] 0 (.sl 8 a) (by kernel_rfl) (by kernel_rfl)) _ (fun m n5 hm hi => ⟨m, hm, ⟨n5, rfl, rfl, hi⟩⟩))
    (fun hf => by rw [v20]; exact h (hf.sd 0 false [.c (.sl 8 a)] 0 (.sl 8 a) (by kernel_rfl) (by kernel_rfl)) (hf.sd 1 false [.c (.sl 8 b)] 0 (.sl 8 b) (by kernel_rfl) (by kernel_rfl)) _ (fun m n5 hi => ⟨m, ⟨n5, rfl, rfl, hi⟩⟩))

def F20_4 (b : List Int) : Int → (List Int) → Option Bool
  | i, [] => some true
  | i, x :: post => (if (0 : Int) ≤ i then (match b[Int.toNat i]? with | some x1 => (if (x != x1) = true then some false else (F20_4 b (i + 1) post)) | none => none) else none)
@[irreducible] def F20 (a : List Int) (b : List Int) : Option Bool := (if ((↑(List.length (List.map I.row a)) : Int) != (↑(List.length (List.map I.row b)) : Int)) = true then some false else (F20_4 b 0 a))
theorem c20 (a : List Int) (b : List Int) (RES : Bool) (hr : F20 a b = some RES) :
    C Try.prog 20 [.val false [.c (.sl 8 (List.map I.row a))], .val false [.c (.sl 8 (List.map I.row b))]] sg20 (fun r0 => r0 = RES) := by
  refine r20 (List.map I.row a) (List.map I.row b) _ (fun m i => ∃ pre post, a = pre ++ post ∧ m = post.length ∧ i = (pre.length : Int) ∧ F20_4 b i post = some RES) ?_ ?_
  · intro ef0 ef1 J4 hJ4
    unfold q20
    rw [F20] at hr
    refine ⟨fun hb6 => ?_, fun hb6 => ?_⟩
    · rw [if_pos hb6] at hr
      obtain rfl := Option.some.inj hr
      exact by first | rfl | trivial | simp [Ty.row_eq, Ex.row_eq, I.row_eq, S.row_eq, Il.row_eq, Cf.row_eq, Ch.row_eq]
    · rw [if_neg (by rw [hb6]; decide)] at hr
      exact hJ4 a.length _ ⟨[], a, rfl, rfl, rfl, hr⟩
  · rintro m i ⟨pre, post, hL, rfl, hi, hr⟩ sf0 sf1 J4 hJ4
    have hf := fact_sl sf1
    simp only [List.length_map] at hf
    have hlen : a.length = pre.length + post.length := by rw [hL, List.length_append]
    unfold q20_4
    cases post with
    | nil =>
      simp only [List.length_nil] at hlen
      rw [F20_4] at hr
      refine ⟨fun h => absurd h (by simp only [decide_eq_true_eq, List.length_map]; omega), fun _ => ?_⟩
      obtain rfl := Option.some.inj hr
      exact by first | rfl | trivial | simp [Ty.row_eq, Ex.row_eq, I.row_eq, S.row_eq, Il.row_eq, Cf.row_eq, Ch.row_eq]
    | cons x post =>
      simp only [List.length_cons] at hlen
      rw [F20_4] at hr
      have hrow : List.getD (List.map I.row a) (Int.toNat i) [] = I.row x := by rw [hL, hi, Int.toNat_natCast, getD_mid]
      refine ⟨fun _ => ?_, fun h => absurd h (by simp only [decide_eq_false_iff_not, List.length_map]; omega)⟩
      refine ⟨⟨by omega, by simp only [List.length_map]; omega, by rw [hrow, I.row_eq]; rfl⟩, ?_⟩
      refine ⟨x, by rw [hrow, I.row_eq]; rfl, ?_⟩
      by_cases hg5 : (0 : Int) ≤ i
      · rw [if_pos hg5] at hr
        cases hx2 : b[Int.toNat i]? with
        | none => rw [hx2] at hr; cases hr
        | some x1 =>
          rw [hx2] at hr
          dsimp only at hr
          have hrow3 : List.getD (List.map I.row b) (Int.toNat i) [] = I.row x1 := idx_row hx2
          refine ⟨(idx_ok hx2 ⟨by omega, rfl⟩ I.row_len), ?_⟩
          refine ⟨x1, by rw [hrow3, I.row_eq]; rfl, ?_⟩
          refine ⟨fun hb4 => ?_, fun hb4 => ?_⟩
          · rw [if_pos hb4] at hr
            obtain rfl := Option.some.inj hr
            exact by first | rfl | trivial | (simp only [hrow, hrow3]; simp [Ty.row_eq, Ex.row_eq, I.row_eq, S.row_eq, Il.row_eq, Cf.row_eq, Ch.row_eq]; done) | simp [Ty.row_eq, Ex.row_eq, I.row_eq, S.row_eq, Il.row_eq, Cf.row_eq, Ch.row_eq]
          · rw [if_neg (by rw [hb4]; decide)] at hr
            exact hJ4 post.length _ (by simp) ⟨pre ++ [x], post, by simp [hL], rfl, by rw [wrap_id (by omega) (by omega), hi]; simp, by rw [wrap_id (by omega) (by omega)]; exact hr⟩
      · rw [if_neg hg5] at hr; cases hr

noncomputable def cx118 : Cx := { P := Try.prog, sg := fun i => (alook [(118, sg118)] i).getD ⟨[], []⟩, mv := fun i => (alook [] i).getD [], head := fun i => (alook [] i).getD ⟨0, 0, []⟩, ord := fun i => (alook [] i).getD [] }
def q118 (a : List (List D)) (b : Int)   (R : Int → Prop) : Prop :=
  ((decide (IntKind.wrap IntKind.i64 (b - (↑(List.length a) : Int)) < (0 : Int)) = true → R (-1 : Int)) ∧
  (decide (IntKind.wrap IntKind.i64 (b - (↑(List.length a) : Int)) < (0 : Int)) = false → R (IntKind.wrap IntKind.i64 (b - (↑(List.length a) : Int)))))
theorem v118 (a : List (List D)) (b : Int)  (J : List Item → St → Prop) (R : Int → Prop) : wpt cx118 J (fin Try.prog Try.f118.results.toList sg118 R) 100000 [.code (Try.f118.body.getD .skip)] (initSt [.val false [.c (.sl 8 a)], .val false [.c (.int .i64 b)]] 12) = q118 a b   R := by kernel_rfl
theorem r118 (a : List (List D)) (b : Int) (R : Int → Prop) 
    (h : DFact (.sl 8 a) → DFact (.int .i64 b) → q118 a b  R) :
    C Try.prog 118 [.val false [.c (.sl 8 a)], .val false [.c (.int .i64 b)]] sg118 R :=
  C_rule (cx := cx118) (P := Try.prog) (f := 118) (fn := Try.f118) (c := (Try.f118.body.getD .skip)) (args := [.val false [.c (.sl 8 a)], .val false [.c (.int .i64 b)]]) (sg := sg118) (rv := Try.f118.results.toList) (N := 12) (R := R) (μ := Nat) (lt := (· < ·)) Nat.lt_wfRel.wf (fun m td st => False) (by kernel_rfl) (by kernel_rfl) Try.func118 (by kernel_rfl) (by kernel_rfl) (by kernel_rfl) (by kernel_rfl) (by kernel_rfl)
    (fun _ _ _ h => h.elim)
    (fun hf => by rw [v118]; exact h (hf.sd 0 false [.c (.sl 8 a)] 0 (.sl 8 a) (by kernel_rfl) (by kernel_rfl)) (hf.sd 1 false [.c (.int .i64 b)] 0 (.int .i64 b) (by kernel_rfl) (by kernel_rfl)) )

@[irreducible] def F118 (a : List Int) (b : Int) : Int := (if (decide (IntKind.wrap IntKind.i64 (b - (↑(List.length (List.map I.row a)) : Int)) < (0 : Int))) = true then (-1 : Int) else (IntKind.wrap IntKind.i64 (b - (↑(List.length (List.map I.row a)) : Int))))
theorem c118 (a : List Int) (b : Int) (RES : Int) (hr : F118 a b = RES) :
    C Try.prog 118 [.val false [.c (.sl 8 (List.map I.row a))], .val false [.c (.int .i64 b)]] sg118 (fun r0 => r0 = RES) := by
  refine r118 (List.map I.row a) b _  ?_
  · intro ef0 ef1
    unfold q118
    rw [F118] at hr
    refine ⟨fun hb1 => ?_, fun hb1 => ?_⟩
    · rw [if_pos hb1] at hr
      obtain rfl := hr
      exact by first | rfl | trivial | simp [Ty.row_eq, Ex.row_eq, I.row_eq, S.row_eq, Il.row_eq, Cf.row_eq, Ch.row_eq]
    · rw [if_neg (by rw [hb1]; decide)] at hr
      obtain rfl := hr
      exact by first | rfl | trivial | simp [Ty.row_eq, Ex.row_eq, I.row_eq, S.row_eq, Il.row_eq, Cf.row_eq, Ch.row_eq]

noncomputable def cx119 : Cx := { P := Try.prog, sg := fun i => (alook [(119, sg119)] i).getD ⟨[], []⟩, mv := fun i => (alook [] i).getD [], head := fun i => (alook [(4, ⟨3000, 3, [⟨0, [some (3, 1, 8)]⟩, ⟨1, [some (3, 1, 8)]⟩, ⟨5, [none]⟩]⟩)] i).getD ⟨0, 0, []⟩, ord := fun i => (alook [(6, [0, 1, 2, 3, 4, 5, 6, 7, 8])] i).getD [] }
noncomputable def st119_4 (a : List (List D)) (b : List (List D)) (n5 : Int) : St := (St.of [(5, .v false [.c (.int .i64 n5)]), (1, .v false [.c (.sl 8 b)]), (0, .v false [.c (.sl 8 a)])] [] [] 3064 26)
def q119 (a : List (List D)) (b : List (List D))  (J4 : Int → Prop) (R : Bool → Prop) : Prop :=
  ((decide ((↑(List.length a) : Int) < (↑(List.length b) : Int)) = true → R false) ∧
  (decide ((↑(List.length a) : Int) < (↑(List.length b) : Int)) = false → J4 (0 : Int)))
theorem v119 (a : List (List D)) (b : List (List D))  (J : List Item → St → Prop) (R : Bool → Prop) : wpt cx119 J (fin Try.prog Try.f119.results.toList sg119 R) 100000 [.code (Try.f119.body.getD .skip)] (initSt [.val false [.c (.sl 8 a)], .val false [.c (.sl 8 b)]] 26) = q119 a b  (fun n5 => J (td (Try.f119.body.getD .skip) 4) (st119_4 a b n5)) R := by kernel_rfl
def q119_4 (a : List (List D)) (b : List (List D)) (n5 : Int) (J4 : Int → Prop) (R : Bool → Prop) : Prop :=
  ((decide (n5 < (↑(List.length b) : Int)) = true → (((0 : Int) ≤ n5 ∧ n5 < (↑(List.length b) : Int) ∧ List.length (List.getD b (Int.toNat n5) []) = (1 : Nat)) ∧
  (∃ n, ((List.take (1 : Nat) (List.drop (0 : Nat) (List.getD b (Int.toNat n5) [])) = [D.int IntKind.i64 n]) ∧
  (((0 : Int) ≤ n5 ∧ n5 < (↑(List.length a) : Int) ∧ List.length (List.getD a (Int.toNat n5) []) = (1 : Nat)) ∧
  (∃ n1, ((List.take (1 : Nat) (List.drop (0 : Nat) (List.getD a (Int.toNat n5) [])) = [D.int IntKind.i64 n1]) ∧
  (((n != n1) = true → R false) ∧
  ((n != n1) = false → J4 (IntKind.wrap IntKind.i64 (n5 + (1 : Int)))))))))))) ∧
  (decide (n5 < (↑(List.length b) : Int)) = false → R true))
theorem v119_4 (a : List (List D)) (b : List (List D)) (n5 : Int) (J : List Item → St → Prop) (R : Bool → Prop) : wpt cx119 J (fin Try.prog Try.f119.results.toList sg119 R) 100000 (td (Try.f119.body.getD .skip) 4) (st119_4 a b n5) = q119_4 a b n5 (fun n5 => J (td (Try.f119.body.getD .skip) 4) (st119_4 a b n5)) R := by kernel_rfl
theorem r119 (a : List (List D)) (b : List (List D)) (R : Bool → Prop) (I4 : Nat → Int → Prop)
    (h : DFact (.sl 8 a) → DFact (.sl 8 b) → ∀ (J4 : Int → Prop), (∀ m n5', I4 m n5' → J4 n5') → q119 a b J4 R)
    (h4 : ∀ x (n5 : Int), I4 x n5 → DFact (.sl 8 b) → DFact (.sl 8 a) → ∀ (J4 : Int → Prop), (∀ m n5', m < x → I4 m n5' → J4 n5') → q119_4 a b n5 J4 R) :
    C Try.prog 119 [.val false [.c (.sl 8 a)], .val false [.c (.sl 8 b)]] sg119 R :=
  C_rule (cx := cx119) (P := Try.prog) (f := 119) (fn := Try.f119) (c := (Try.f119.body.getD .skip)) (args := [.val false [.c (.sl 8 a)], .val false [.c (.sl 8 b)]]) (sg := sg119) (rv := Try.f119.results.toList) (N := 26) (R := R) (μ := Nat) (lt := (· < ·)) Nat.lt_wfRel.wf (fun m td st => (∃ (n5 : Int), td = _root_.Go.Gl.td (Try.f119.body.getD .skip) 4 ∧ st = st119_4 a b n5 ∧ I4 m n5)) (by kernel_rfl) (by kernel_rfl) Try.func119 (by kernel_rfl) (by kernel_rfl) (by kernel_rfl) (by kernel_rfl) (by kernel_rfl)
    (fun x td st h hf => by
      obtain ⟨n5, rfl, rfl, hi⟩ := h
      rw [v119_4]
      exact h4 x n5 hi (hf.sd 1 false [.c (.sl 8 b)] 0 (.sl 8 b) (by kernel_rfl) (by kernel_rfl)) (hf.sd 0 false [.c (.sl 8 a)] 0 (.sl 8 a) (by kernel_rfl) (by kernel_rfl)) _ (fun m n5 hm hi => ⟨m, hm, ⟨n5, rfl, rfl, hi⟩⟩))
    (fun hf => by rw [v119]; exact h (hf.sd 0 false [.c (.sl 8 a)] 0 (.sl 8 a) (by kernel_rfl) (by kernel_rfl)) (hf.sd 1 false [.c (.sl 8 b)] 0 (.sl 8 b) (by kernel_rfl) (by kernel_rfl)) _ (fun m n5 hi => ⟨m, ⟨n5, rfl, rfl, hi⟩⟩))

def F119_4 (a : List Int) : Int → (List Int) → Option Bool
  | i, [] => some true
  | i, x :: post => (if (0 : Int) ≤ i then (match a[Int.toNat i]? with | some x1 => (if (x != x1) = true then some false else (F119_4 a (i + 1) post)) | none => none) else none)
@[irreducible] def F119 (a : List Int) (b : List Int) : Option Bool := (if (decide ((↑(List.length (List.map I.row a)) : Int) < (↑(List.length (List.map I.row b)) : Int))) = true then some false else (F119_4 a 0 b))
theorem c119 (a : List Int) (b : List Int) (RES : Bool) (hr : F119 a b = some RES) :
    C Try.prog 119 [.val false [.c (.sl 8 (List.map I.row a))], .val false [.c (.sl 8 (List.map I.row b))]] sg119 (fun r0 => r0 = RES) := by
  refine r119 (List.map I.row a) (List.map I.row b) _ (fun m i => ∃ pre post, b = pre ++ post ∧ m = post.length ∧ i = (pre.length : Int) ∧ F119_4 a i post = some RES) ?_ ?_
  · intro ef0 ef1 J4 hJ4
    unfold q119
    rw [F119] at hr
    refine ⟨fun hb6 => ?_, fun hb6 => ?_⟩
    · rw [if_pos hb6] at hr
      obtain rfl := Option.some.inj hr
      exact by first | rfl | trivial | simp [Ty.row_eq, Ex.row_eq, I.row_eq, S.row_eq, Il.row_eq, Cf.row_eq, Ch.row_eq]
    · rw [if_neg (by rw [hb6]; decide)] at hr
      exact hJ4 b.length _ ⟨[], b, rfl, rfl, rfl, hr⟩
  · rintro m i ⟨pre, post, hL, rfl, hi, hr⟩ sf0 sf1 J4 hJ4
    have hf := fact_sl sf0
    simp only [List.length_map] at hf
    have hlen : b.length = pre.length + post.length := by rw [hL, List.length_append]
    unfold q119_4
    cases post with
    | nil =>
      simp only [List.length_nil] at hlen
      rw [F119_4] at hr
      refine ⟨fun h => absurd h (by simp only [decide_eq_true_eq, List.length_map]; omega), fun _ => ?_⟩
      obtain rfl := Option.some.inj hr
      exact by first | rfl | trivial | simp [Ty.row_eq, Ex.row_eq, I.row_eq, S.row_eq, Il.row_eq, Cf.row_eq, Ch.row_eq]
    | cons x post =>
      simp only [List.length_cons] at hlen
      rw [F119_4] at hr
      have hrow : List.getD (List.map I.row b) (Int.toNat i) [] = I.row x := by rw [hL, hi, Int.toNat_natCast, getD_mid]
      refine ⟨fun _ => ?_, fun h => absurd h (by simp only [decide_eq_false_iff_not, List.length_map]; omega)⟩
      refine ⟨⟨by omega, by simp only [List.length_map]; omega, by rw [hrow, I.row_eq]; rfl⟩, ?_⟩
      refine ⟨x, by rw [hrow, I.row_eq]; rfl, ?_⟩
      by_cases hg5 : (0 : Int) ≤ i
      · rw [if_pos hg5] at hr
        cases hx2 : a[Int.toNat i]? with
        | none => rw [hx2] at hr; cases hr
        | some x1 =>
          rw [hx2] at hr
          dsimp only at hr
          have hrow3 : List.getD (List.map I.row a) (Int.toNat i) [] = I.row x1 := idx_row hx2
          refine ⟨(idx_ok hx2 ⟨by omega, rfl⟩ I.row_len), ?_⟩
          refine ⟨x1, by rw [hrow3, I.row_eq]; rfl, ?_⟩
          refine ⟨fun hb4 => ?_, fun hb4 => ?_⟩
          · rw [if_pos hb4] at hr
            obtain rfl := Option.some.inj hr
            exact by first | rfl | trivial | (simp only [hrow, hrow3]; simp [Ty.row_eq, Ex.row_eq, I.row_eq, S.row_eq, Il.row_eq, Cf.row_eq, Ch.row_eq]; done) | simp [Ty.row_eq, Ex.row_eq, I.row_eq, S.row_eq, Il.row_eq, Cf.row_eq, Ch.row_eq]
          · rw [if_neg (by rw [hb4]; decide)] at hr
            exact hJ4 post.length _ (by simp) ⟨pre ++ [x], post, by simp [hL], rfl, by rw [wrap_id (by omega) (by omega), hi]; simp, by rw [wrap_id (by omega) (by omega)]; exact hr⟩
      · rw [if_neg hg5] at hr; cases hr

noncomputable def cx68 : Cx := { P := Try.prog, sg := fun i => (alook [(119, sg119), (68, sg68)] i).getD ⟨[], []⟩, mv := fun i => (alook [] i).getD [], head := fun i => (alook [] i).getD ⟨0, 0, []⟩, ord := fun i => (alook [] i).getD [] }
def q68 (a : List (List D)) (b : List (List D))   (R : Bool → Prop) : Prop :=
  ((((↑(List.length a) : Int) == (↑(List.length b) : Int)) = true → C Try.prog 119 [.val false [.c (.sl 8 a)], .val false [.c (.sl 8 b)]] sg119 (fun b1 => R b1)) ∧
  (((↑(List.length a) : Int) == (↑(List.length b) : Int)) = false → R false))
theorem v68 (a : List (List D)) (b : List (List D))  (J : List Item → St → Prop) (R : Bool → Prop) : wpt cx68 J (fin Try.prog Try.f68.results.toList sg68 R) 100000 [.code (Try.f68.body.getD .skip)] (initSt [.val false [.c (.sl 8 a)], .val false [.c (.sl 8 b)]] 15) = q68 a b   R := by kernel_rfl
theorem r68 (a : List (List D)) (b : List (List D)) (R : Bool → Prop) 
    (h : DFact (.sl 8 a) → DFact (.sl 8 b) → q68 a b  R) :
    C Try.prog 68 [.val false [.c (.sl 8 a)], .val false [.c (.sl 8 b)]] sg68 R :=
  C_rule (cx := cx68) (P := Try.prog) (f := 68) (fn := Try.f68) (c := (Try.f68.body.getD .skip)) (args := [.val false [.c (.sl 8 a)], .val false [.c (.sl 8 b)]]) (sg := sg68) (rv := Try.f68.results.toList) (N := 15) (R := R) (μ := Nat) (lt := (· < ·)) Nat.lt_wfRel.wf (fun m td st => False) (by kernel_rfl) (by kernel_rfl) Try.func68 (by kernel_rfl) (by kernel_rfl) (by kernel_rfl) (by kernel_rfl) (by kernel_rfl)
    (fun _ _ _ h => h.elim)
    (fun hf => by rw [v68]; exact h (hf.sd 0 false [.c (.sl 8 a)] 0 (.sl 8 a) (by kernel_rfl) (by kernel_rfl)) (hf.sd 1 false [.c (.sl 8 b)] 0 (.sl 8 b) (by kernel_rfl) (by kernel_rfl)) )

@[irreducible] def F68 (a : List Int) (b : List Int) : Option Bool := (if ((↑(List.length (List.map I.row a)) : Int) == (↑(List.length (List.map I.row b)) : Int)) = true then (match (F119 a b) with | some v2 => some v2 | none => none) else some false)
theorem c68 (a : List Int) (b : List Int) (RES : Bool) (hr : F68 a b = some RES) :
    C Try.prog 68 [.val false [.c (.sl 8 (List.map I.row a))], .val false [.c (.sl 8 (List.map I.row b))]] sg68 (fun r0 => r0 = RES) := by
  refine r68 (List.map I.row a) (List.map I.row b) _  ?_
  · intro ef0 ef1
    unfold q68
    rw [F68] at hr
    refine ⟨fun hb1 => ?_, fun hb1 => ?_⟩
    · rw [if_pos hb1] at hr
      cases hv4 : (F119 a b) with
      | none => rw [hv4] at hr; cases hr
      | some v2 =>
        rw [hv4] at hr
        dsimp only at hr
        refine (c119 a b _ hv4).imp ?_
        rintro r3_0 er3_0
        obtain rfl := er3_0.symm
        obtain rfl := Option.some.inj hr
        exact by first | rfl | trivial | simp [Ty.row_eq, Ex.row_eq, I.row_eq, S.row_eq, Il.row_eq, Cf.row_eq, Ch.row_eq]
    · rw [if_neg (by rw [hb1]; decide)] at hr
      obtain rfl := Option.some.inj hr
      exact by first | rfl | trivial | simp [Ty.row_eq, Ex.row_eq, I.row_eq, S.row_eq, Il.row_eq, Cf.row_eq, Ch.row_eq]

noncomputable def cx120 : Cx := { P := Try.prog, sg := fun i => (alook [(120, sg120)] i).getD ⟨[], []⟩, mv := fun i => (alook [] i).getD [], head := fun i => (alook [(4, ⟨3000, 3, [⟨0, [some (3, 1, 8)]⟩, ⟨1, [some (3, 1, 8)]⟩, ⟨12, [none]⟩, ⟨13, [none]⟩]⟩)] i).getD ⟨0, 0, []⟩, ord := fun i => (alook [(6, [0, 1, 2, 3, 4, 5, 6, 7, 8])] i).getD [] }
noncomputable def st120_4 (a : List (List D)) (b : List (List D)) (n13 : Int) : St := (St.of [(13, .v false [.c (.int .i64 n13)]), (12, .v false [.c (.int .i64 (↑(List.length a) : Int))]), (1, .v false [.c (.sl 8 b)]), (0, .v false [.c (.sl 8 a)])] [] [] 3064 26)
def q120 (a : List (List D)) (b : List (List D))  (J4 : Int → Prop) (R : Bool → Prop) : Prop :=
  ((((↑(List.length a) : Int) != (↑(List.length b) : Int)) = true → R false) ∧
  (((↑(List.length a) : Int) != (↑(List.length b) : Int)) = false → J4 (0 : Int)))
theorem v120 (a : List (List D)) (b : List (List D))  (J : List Item → St → Prop) (R : Bool → Prop) : wpt cx120 J (fin Try.prog Try.f120.results.toList sg120 R) 100000 [.code (Try.f120.body.getD .skip)] (initSt [.val false [.c (.sl 8 a)], .val false [.c (.sl 8 b)]] 26) = q120 a b  (fun n13 => J (td (Try.f120.body.getD .skip) 4) (st120_4 a b n13)) R := by kernel_rfl
def q120_4 (a : List (List D)) (b : List (List D)) (n13 : Int) (J4 : Int → Prop) (R : Bool → Prop) : Prop :=
  ((decide (n13 < (↑(List.length a) : Int)) = true → (((0 : Int) ≤ n13 ∧ n13 < (↑(List.length a) : Int) ∧ List.length (List.getD a (Int.toNat n13) []) = (1 : Nat)) ∧
  (∃ n, ((List.take (1 : Nat) (List.drop (0 : Nat) (List.getD a (Int.toNat n13) [])) = [D.int IntKind.i64 n]) ∧
  (((0 : Int) ≤ n13 ∧ n13 < (↑(List.length b) : Int) ∧ List.length (List.getD b (Int.toNat n13) []) = (1 : Nat)) ∧
  (∃ n1, ((List.take (1 : Nat) (List.drop (0 : Nat) (List.getD b (Int.toNat n13) [])) = [D.int IntKind.i64 n1]) ∧
  (((n != n1) = true → R false) ∧
  ((n != n1) = false → J4 (IntKind.wrap IntKind.i64 (n13 + (1 : Int)))))))))))) ∧
  (decide (n13 < (↑(List.length a) : Int)) = false → R true))
theorem v120_4 (a : List (List D)) (b : List (List D)) (n13 : Int) (J : List Item → St → Prop) (R : Bool → Prop) : wpt cx120 J (fin Try.prog Try.f120.results.toList sg120 R) 100000 (td (Try.f120.body.getD .skip) 4) (st120_4 a b n13) = q120_4 a b n13 (fun n13 => J (td (Try.f120.body.getD .skip) 4) (st120_4 a b n13)) R := by kernel_rfl
theorem r120 (a : List (List D)) (b : List (List D)) (R : Bool → Prop) (I4 : Nat → Int → Prop)
    (h : DFact (.sl 8 a) → DFact (.sl 8 b) → ∀ (J4 : Int → Prop), (∀ m n13', I4 m n13' → J4 n13') → q120 a b J4 R)
    (h4 : ∀ x (n13 : Int), I4 x n13 → DFact (.sl 8 b) → DFact (.sl 8 a) → ∀ (J4 : Int → Prop), (∀ m n13', m < x → I4 m n13' → J4 n13') → q120_4 a b n13 J4 R) :
    C Try.prog 120 [.val false [.c (.sl 8 a)], .val false [.c (.sl 8 b)]] sg120 R :=
  C_rule (cx := cx120) (P := Try.prog) (f := 120) (fn := Try.f120) (c := (Try.f120.body.getD .skip)) (args := [.val false [.c (.sl 8 a)], .val false [.c (.sl 8 b)]]) (sg := sg120) (rv := Try.f120.results.toList) (N := 26) (R := R) (μ := Nat) (lt := (· < ·)) Nat.lt_wfRel.wf (fun m td st => (∃ (n13 : Int), td = _root_.Go.Gl.td (Try.f120.body.getD .skip) 4 ∧ st = st120_4 a b n13 ∧ I4 m n13)) (by kernel_rfl) (by kernel_rfl) Try.func120 (by kernel_rfl) (by kernel_rfl) (by kernel_rfl) (by kernel_rfl) (by kernel_rfl)
    (fun x td st h hf => by
      obtain ⟨n13, rfl, rfl, hi⟩ := h
      rw [v120_4]
      exact h4 x n13 hi (hf.sd 1 false [.c (.sl 8 b)] 0 (.sl 8 b) (by kernel_rfl) (by kernel_rfl)) (hf.sd 0 false [.c (.sl 8 a)] 0 (.sl 8 a) (by kernel_rfl) (by kernel_rfl)) _ (fun m n13 hm hi => ⟨m, hm, ⟨n13, rfl, rfl, hi⟩⟩))
    (fun hf => by rw [v120]; exact h (hf.sd 0 false [.c (.sl 8 a)] 0 (.sl 8 a) (by kernel_rfl) (by kernel_rfl)) (hf.sd 1 false [.c (.sl 8 b)] 0 (.sl 8 b) (by kernel_rfl) (by kernel_rfl)) _ (fun m n13 hi => ⟨m, ⟨n13, rfl, rfl, hi⟩⟩))

def F120_4 (b : List Int) : Int → (List Int) → Option Bool
  | i, [] => some true
  | i, x :: post => (if (0 : Int) ≤ i then (match b[Int.toNat i]? with | some x1 => (if (x != x1) = true then some false else (F120_4 b (i + 1) post)) | none => none) else none)
@[irreducible] def F120 (a : List Int) (b : List Int) : Option Bool := (if ((↑(List.length (List.map I.row a)) : Int) != (↑(List.length (List.map I.row b)) : Int)) = true then some false else (F120_4 b 0 a))
theorem c120 (a : List Int) (b : List Int) (RES : Bool) (hr : F120 a b = some RES) :
    C Try.prog 120 [.val false [.c (.sl 8 (List.map I.row a))], .val false [.c (.sl 8 (List.map I.row b))]] sg120 (fun r0 => r0 = RES) := by
  refine r120 (List.map I.row a) (List.map I.row b) _ (fun m i => ∃ pre post, a = pre ++ post ∧ m = post.length ∧ i = (pre.length : Int) ∧ F120_4 b i post = some RES) ?_ ?_
  · intro ef0 ef1 J4 hJ4
    unfold q120
    rw [F120] at hr
    refine ⟨fun hb6 => ?_, fun hb6 => ?_⟩
    · rw [if_pos hb6] at hr
      obtain rfl := Option.some.inj hr
      exact by first | rfl | trivial | simp [Ty.row_eq, Ex.row_eq, I.row_eq, S.row_eq, Il.row_eq, Cf.row_eq, Ch.row_eq]
    · rw [if_neg (by rw [hb6]; decide)] at hr
      exact hJ4 a.length _ ⟨[], a, rfl, rfl, rfl, hr⟩
  · rintro m i ⟨pre, post, hL, rfl, hi, hr⟩ sf0 sf1 J4 hJ4
    have hf := fact_sl sf1
    simp only [List.length_map] at hf
    have hlen : a.length = pre.length + post.length := by rw [hL, List.length_append]
    unfold q120_4
    cases post with
    | nil =>
      simp only [List.length_nil] at hlen
      rw [F120_4] at hr
      refine ⟨fun h => absurd h (by simp only [decide_eq_true_eq, List.length_map]; omega), fun _ => ?_⟩
      obtain rfl := Option.some.inj hr
      exact by first | rfl | trivial | simp [Ty.row_eq, Ex.row_eq, I.row_eq, S.row_eq, Il.row_eq, Cf.row_eq, Ch.row_eq]
    | cons x post =>
      simp only [List.length_cons] at hlen
      rw [F120_4] at hr
      have hrow : List.getD (List.map I.row a) (Int.toNat i) [] = I.row x := by rw [hL, hi, Int.toNat_natCast, getD_mid]
      refine ⟨fun _ => ?_, fun h => absurd h (by simp only [decide_eq_false_iff_not, List.length_map]; omega)⟩
      refine ⟨⟨by omega, by simp only [List.length_map]; omega, by rw [hrow, I.row_eq]; rfl⟩, ?_⟩
      refine ⟨x, by rw [hrow, I.row_eq]; rfl, ?_⟩
      by_cases hg5 : (0 : Int) ≤ i
      · rw [if_pos hg5] at hr
        cases hx2 : b[Int.toNat i]? with
        | none => rw [hx2] at hr; cases hr
        | some x1 =>
          rw [hx2] at hr
          dsimp only at hr
          have hrow3 : List.getD (List.map I.row b) (Int.toNat i) [] = I.row x1 := idx_row hx2
          refine ⟨(idx_ok hx2 ⟨by omega, rfl⟩ I.row_len), ?_⟩
          refine ⟨x1, by rw [hrow3, I.row_eq]; rfl, ?_⟩
          refine ⟨fun hb4 => ?_, fun hb4 => ?_⟩
          · rw [if_pos hb4] at hr
            obtain rfl := Option.some.inj hr
            exact by first | rfl | trivial | (simp only [hrow, hrow3]; simp [Ty.row_eq, Ex.row_eq, I.row_eq, S.row_eq, Il.row_eq, Cf.row_eq, Ch.row_eq]; done) | simp [Ty.row_eq, Ex.row_eq, I.row_eq, S.row_eq, Il.row_eq, Cf.row_eq, Ch.row_eq]
          · rw [if_neg (by rw [hb4]; decide)] at hr
            exact hJ4 post.length _ (by simp) ⟨pre ++ [x], post, by simp [hL], rfl, by rw [wrap_id (by omega) (by omega), hi]; simp, by rw [wrap_id (by omega) (by omega)]; exact hr⟩
      · rw [if_neg hg5] at hr; cases hr

noncomputable def cx121 : Cx := { P := Try.prog, sg := fun i => (alook [(73, sg73), (121, sg121)] i).getD ⟨[], []⟩, mv := fun i => (alook [] i).getD [], head := fun i => (alook [(5, ⟨3000, 3, [⟨0, [some (37, 2, 32)]⟩, ⟨1, [none]⟩, ⟨5, [none]⟩]⟩)] i).getD ⟨0, 0, []⟩, ord := fun i => (alook [] i).getD [] }
noncomputable def st121_5 (a : List (List D)) (b : Int) (n5 : Int) (n1 : Int) : St := (St.of [(5, .v false [.c (.int .i64 n5)]), (1, .v false [.c (.int .i64 n1)]), (0, .v false [.c (.sl 32 a)])] [] [] 3064 27)
def q121 (a : List (List D)) (b : Int)  (J5 : Int → Int → Prop) (R : Int → Prop) : Prop :=
  ((decide (IntKind.wrap IntKind.i64 (b - (↑(List.length a) : Int)) < (0 : Int)) = true → R (-1 : Int)) ∧
  (decide (IntKind.wrap IntKind.i64 (b - (↑(List.length a) : Int)) < (0 : Int)) = false → J5 (0 : Int) (IntKind.wrap IntKind.i64 (b - (↑(List.length a) : Int)))))
theorem v121 (a : List (List D)) (b : Int)  (J : List Item → St → Prop) (R : Int → Prop) : wpt cx121 J (fin Try.prog Try.f121.results.toList sg121 R) 100000 [.code (Try.f121.body.getD .skip)] (initSt [.val false [.c (.sl 32 a)], .val false [.c (.int .i64 b)]] 27) = q121 a b  (fun n5 n1 => J (td (Try.f121.body.getD .skip) 5) (st121_5 a b n5 n1)) R := by kernel_rfl
def q121_5 (a : List (List D)) (b : Int) (n5 : Int) (n1 : Int) (J5 : Int → Int → Prop) (R : Int → Prop) : Prop :=
  ((decide (n5 < (↑(List.length a) : Int)) = true → (((0 : Int) ≤ n5 ∧ n5 < (↑(List.length a) : Int) ∧ List.length (List.getD a (Int.toNat n5) []) = (2 : Nat)) ∧
  (∃ n, (∃ xs, ((List.take (2 : Nat) (List.drop (0 : Nat) (List.getD a (Int.toNat n5) [])) = [D.int IntKind.i64 n, D.sl (32 : Nat) xs]) ∧
  C Try.prog 73 [.val true [.c (.int .i64 n), .c (.sl 32 xs)], .val false [.c (.int .i64 n1)]] sg73 (fun n2 => ((decide (n2 < (0 : Int)) = true → R (-1 : Int)) ∧
  (decide (n2 < (0 : Int)) = false → J5 (IntKind.wrap IntKind.i64 (n5 + (1 : Int))) n2)))))))) ∧
  (decide (n5 < (↑(List.length a) : Int)) = false → R n1))
theorem v121_5 (a : List (List D)) (b : Int) (n5 : Int) (n1 : Int) (J : List Item → St → Prop) (R : Int → Prop) : wpt cx121 J (fin Try.prog Try.f121.results.toList sg121 R) 100000 (td (Try.f121.body.getD .skip) 5) (st121_5 a b n5 n1) = q121_5 a b n5 n1 (fun n5 n1 => J (td (Try.f121.body.getD .skip) 5) (st121_5 a b n5 n1)) R := by kernel_rfl
theorem r121 (a : List (List D)) (b : Int) (R : Int → Prop) (I5 : Nat → Int → Int → Prop)
    (h : DFact (.sl 32 a) → DFact (.int .i64 b) → ∀ (J5 : Int → Int → Prop), (∀ m n5' n1', I5 m n5' n1' → J5 n5' n1') → q121 a b J5 R)
    (h5 : ∀ x (n5 : Int) (n1 : Int), I5 x n5 n1 → DFact (.sl 32 a) → ∀ (J5 : Int → Int → Prop), (∀ m n5' n1', m < x → I5 m n5' n1' → J5 n5' n1') → q121_5 a b n5 n1 J5 R) :
    C Try.prog 121 [.val false [.c (.sl 32 a)], .val false [.c (.int .i64 b)]] sg121 R :=
  C_rule (cx := cx121) (P := Try.prog) (f := 121) (fn := Try.f121) (c := (Try.f121.body.getD .skip)) (args := [.val false [.c (.sl 32 a)], .val false [.c (.int .i64 b)]]) (sg := sg121) (rv := Try.f121.results.toList) (N := 27) (R := R) (μ := Nat) (lt := (· < ·)) Nat.lt_wfRel.wf (fun m td st => (∃ (n5 : Int) (n1 : Int), td = _root_.Go.Gl.td (Try.f121.body.getD .skip) 5 ∧ st = st121_5 a b n5 n1 ∧ I5 m n5 n1)) (by kernel_rfl) (by kernel_rfl) Try.func121 (by kernel_rfl) (by kernel_rfl) (by kernel_rfl) (by kernel_rfl) (by kernel_rfl)
    (fun x td st h hf => by
      obtain ⟨n5, n1, rfl, rfl, hi⟩ := h
      rw [v121_5]
      exact h5 x n5 n1 hi (hf.sd 0 false [.c (.sl 32 a)] 0 (.sl 32 a) (by kernel_rfl) (by kernel_rfl)) _ (fun m n5 n1 hm hi => ⟨m, hm, ⟨n5, n1, rfl, rfl, hi⟩⟩))
    (fun hf => by rw [v121]; exact h (hf.sd 0 false [.c (.sl 32 a)] 0 (.sl 32 a) (by kernel_rfl) (by kernel_rfl)) (hf.sd 1 false [.c (.int .i64 b)] 0 (.int .i64 b) (by kernel_rfl) (by kernel_rfl)) _ (fun m n5 n1 hi => ⟨m, ⟨n5, n1, rfl, rfl, hi⟩⟩))

noncomputable def cx73 : Cx := { P := Try.prog, sg := fun i => (alook [(121, sg121), (73, sg73)] i).getD ⟨[], []⟩, mv := fun i => (alook [] i).getD [], head := fun i => (alook [] i).getD ⟨0, 0, []⟩, ord := fun i => (alook [] i).getD [] }
def q73 (a0 : Int) (a1 : List (List D)) (b : Int)   (R : Int → Prop) : Prop :=
  C Try.prog 121 [.val false [.c (.sl 32 a1)], .val false [.c (.int .i64 b)]] sg121 (fun n => ((decide (n < (0 : Int)) = true → R (-1 : Int)) ∧
  (decide (n < (0 : Int)) = false → R n)))
theorem v73 (a0 : Int) (a1 : List (List D)) (b : Int)  (J : List Item → St → Prop) (R : Int → Prop) : wpt cx73 J (fin Try.prog Try.f73.results.toList sg73 R) 100000 [.code (Try.f73.body.getD .skip)] (initSt [.val true [.c (.int .i64 a0), .c (.sl 32 a1)], .val false [.c (.int .i64 b)]] 12) = q73 a0 a1 b   R := by kernel_rfl
theorem r73 (a0 : Int) (a1 : List (List D)) (b : Int) (R : Int → Prop) 
    (h : DFact (.int .i64 a0) → DFact (.sl 32 a1) → DFact (.int .i64 b) → q73 a0 a1 b  R) :
    C Try.prog 73 [.val true [.c (.int .i64 a0), .c (.sl 32 a1)], .val false [.c (.int .i64 b)]] sg73 R :=
  C_rule (cx := cx73) (P := Try.prog) (f := 73) (fn := Try.f73) (c := (Try.f73.body.getD .skip)) (args := [.val true [.c (.int .i64 a0), .c (.sl 32 a1)], .val false [.c (.int .i64 b)]]) (sg := sg73) (rv := Try.f73.results.toList) (N := 12) (R := R) (μ := Nat) (lt := (· < ·)) Nat.lt_wfRel.wf (fun m td st => False) (by kernel_rfl) (by kernel_rfl) Try.func73 (by kernel_rfl) (by kernel_rfl) (by kernel_rfl) (by kernel_rfl) (by kernel_rfl)
    (fun _ _ _ h => h.elim)
    (fun hf => by rw [v73]; exact h (hf.sd 0 true [.c (.int .i64 a0), .c (.sl 32 a1)] 0 (.int .i64 a0) (by kernel_rfl) (by kernel_rfl)) (hf.sd 0 true [.c (.int .i64 a0), .c (.sl 32 a1)] 1 (.sl 32 a1) (by kernel_rfl) (by kernel_rfl)) (hf.sd 1 false [.c (.int .i64 b)] 0 (.int .i64 b) (by kernel_rfl) (by kernel_rfl)) )

mutual
def F73 : Ty → Int → Int
  | .mk a_k a_ar, b => (if (decide (((if (decide (IntKind.wrap IntKind.i64 (b - (↑(List.length (List.map Ty.row a_ar)) : Int)) < (0 : Int))) = true then (-1 : Int) else (F121_5 a_ar (IntKind.wrap IntKind.i64 (b - (↑(List.length (List.map Ty.row a_ar)) : Int)))))) < (0 : Int))) = true then (-1 : Int) else ((if (decide (IntKind.wrap IntKind.i64 (b - (↑(List.length (List.map Ty.row a_ar)) : Int)) < (0 : Int))) = true then (-1 : Int) else (F121_5 a_ar (IntKind.wrap IntKind.i64 (b - (↑(List.length (List.map Ty.row a_ar)) : Int)))))))
def F121_5  : (List Ty) → Int → Int
  | [], n1 => n1
  | x :: post, n1 => (if (decide ((F73 x n1) < (0 : Int))) = true then (-1 : Int) else (F121_5 post (F73 x n1)))
end
def F121 (a : List Ty) (b : Int) : Int := (if (decide (IntKind.wrap IntKind.i64 (b - (↑(List.length (List.map Ty.row a)) : Int)) < (0 : Int))) = true then (-1 : Int) else (F121_5 a (IntKind.wrap IntKind.i64 (b - (↑(List.length (List.map Ty.row a)) : Int)))))
theorem c121 (S : Ty → Prop) (ih : ∀ a, S a → ∀ (b : Int) (RES : Int), F73 a b = RES → C Try.prog 73 [.val true [.c (.int .i64 a.k), .c (.sl 32 (List.map Ty.row a.ar))], .val false [.c (.int .i64 b)]] sg73 (fun r0 => r0 = RES)) (a : List Ty) (b : Int) (hS : ∀ x ∈ a, S x) (RES : Int) (hr : F121 a b = RES) :
    C Try.prog 121 [.val false [.c (.sl 32 (List.map Ty.row a))], .val false [.c (.int .i64 b)]] sg121 (fun r0 => r0 = RES) := by
  refine r121 (List.map Ty.row a) b _ (fun m i n1 => ∃ pre post, a = pre ++ post ∧ m = post.length ∧ i = (pre.length : Int) ∧ F121_5 post n1 = RES) ?_ ?_
  · intro ef0 ef1 J5 hJ5
    unfold q121
    rw [F121] at hr
    refine ⟨fun hb3 => ?_, fun hb3 => ?_⟩
    · rw [if_pos hb3] at hr
      obtain rfl := hr
      exact by first | rfl | trivial | simp [Ty.row_eq, Ex.row_eq, I.row_eq, S.row_eq, Il.row_eq, Cf.row_eq, Ch.row_eq]
    · rw [if_neg (by rw [hb3]; decide)] at hr
      exact hJ5 a.length _ _ ⟨[], a, rfl, rfl, rfl, hr⟩
  · rintro m i n1 ⟨pre, post, hL, rfl, hi, hr⟩ sf0 J5 hJ5
    have hf := fact_sl sf0
    simp only [List.length_map] at hf
    have hlen : a.length = pre.length + post.length := by rw [hL, List.length_append]
    unfold q121_5
    cases post with
    | nil =>
      simp only [List.length_nil] at hlen
      rw [F121_5] at hr
      refine ⟨fun h => absurd h (by simp only [decide_eq_true_eq, List.length_map]; omega), fun _ => ?_⟩
      obtain rfl := hr
      exact by first | rfl | trivial | simp [Ty.row_eq, Ex.row_eq, I.row_eq, S.row_eq, Il.row_eq, Cf.row_eq, Ch.row_eq]
    | cons x post =>
      simp only [List.length_cons] at hlen
      rw [F121_5] at hr
      have hrow : List.getD (List.map Ty.row a) (Int.toNat i) [] = Ty.row x := by rw [hL, hi, Int.toNat_natCast, getD_mid]
      refine ⟨fun _ => ?_, fun h => absurd h (by simp only [decide_eq_false_iff_not, List.length_map]; omega)⟩
      refine ⟨⟨by omega, by simp only [List.length_map]; omega, by rw [hrow, Ty.row_eq]; rfl⟩, ?_⟩
      refine ⟨x.k, (List.map Ty.row x.ar), by rw [hrow, Ty.row_eq]; rfl, ?_⟩
      refine (ih x (hS _ (by rw [hL]; simp)) n1 _ rfl).imp ?_
      rintro r2_0 er2_0
      obtain rfl := er2_0.symm
      refine ⟨fun hb1 => ?_, fun hb1 => ?_⟩
      · rw [if_pos hb1] at hr
        obtain rfl := hr
        exact by first | rfl | trivial | (simp only [hrow]; simp [Ty.row_eq, Ex.row_eq, I.row_eq, S.row_eq, Il.row_eq, Cf.row_eq, Ch.row_eq]; done) | simp [Ty.row_eq, Ex.row_eq, I.row_eq, S.row_eq, Il.row_eq, Cf.row_eq, Ch.row_eq]
      · rw [if_neg (by rw [hb1]; decide)] at hr
        exact hJ5 post.length _ _ (by simp) ⟨pre ++ [x], post, by simp [hL], rfl, by rw [wrap_id (by omega) (by omega), hi]; simp, hr⟩
theorem c73 : ∀ (a : Ty) (b : Int) (RES : Int), F73 a b = RES →
    C Try.prog 73 [.val true [.c (.int .i64 a.k), .c (.sl 32 (List.map Ty.row a.ar))], .val false [.c (.int .i64 b)]] sg73 (fun r0 => r0 = RES) := by
  intro a
  induction a using Ty.ind with
  | _ a_k a_ar ih =>
  intro b RES hr
  show C Try.prog 73 [.val true [.c (.int .i64 a_k), .c (.sl 32 (List.map Ty.row a_ar))], .val false [.c (.int .i64 b)]] sg73 (fun r0 => r0 = RES)
  refine r73 a_k (List.map Ty.row a_ar) b _  ?_
  · intro ef0 ef1 ef2
    unfold q73
    rw [F73] at hr
    have hr : (if (decide ((F121 a_ar b) < (0 : Int))) = true then (-1 : Int) else (F121 a_ar b)) = RES := hr
    refine (c121 (· ∈ a_ar) ih a_ar b (fun _ h => h) _ rfl).imp ?_
    rintro r2_0 er2_0
    obtain rfl := er2_0.symm
    refine ⟨fun hb1 => ?_, fun hb1 => ?_⟩
    · rw [if_pos hb1] at hr
      obtain rfl := hr
      exact by first | rfl | trivial | simp [Ty.row_eq, Ex.row_eq, I.row_eq, S.row_eq, Il.row_eq, Cf.row_eq, Ch.row_eq]
    · rw [if_neg (by rw [hb1]; decide)] at hr
      obtain rfl := hr
      exact by first | rfl | trivial | simp [Ty.row_eq, Ex.row_eq, I.row_eq, S.row_eq, Il.row_eq, Cf.row_eq, Ch.row_eq]

noncomputable def cx74 : Cx := { P := Try.prog, sg := fun i => (alook [(26, sg26), (74, sg74)] i).getD ⟨[], []⟩, mv := fun i => (alook [] i).getD [], head := fun i => (alook [(5, ⟨3000, 3, [⟨0, [some (40, 6, 88)]⟩, ⟨1, [none]⟩, ⟨5, [none]⟩]⟩)] i).getD ⟨0, 0, []⟩, ord := fun i => (alook [] i).getD [] }
noncomputable def st74_5 (a : List (List D)) (b : Int) (n5 : Int) (n1 : Int) : St := (St.of [(5, .v false [.c (.int .i64 n5)]), (1, .v false [.c (.int .i64 n1)]), (0, .v false [.c (.sl 88 a)])] [] [] 3064 27)
def q74 (a : List (List D)) (b : Int)  (J5 : Int → Int → Prop) (R : Int → Prop) : Prop :=
  ((decide (IntKind.wrap IntKind.i64 (b - (↑(List.length a) : Int)) < (0 : Int)) = true → R (-1 : Int)) ∧
  (decide (IntKind.wrap IntKind.i64 (b - (↑(List.length a) : Int)) < (0 : Int)) = false → J5 (0 : Int) (IntKind.wrap IntKind.i64 (b - (↑(List.length a) : Int)))))
theorem v74 (a : List (List D)) (b : Int)  (J : List Item → St → Prop) (R : Int → Prop) : wpt cx74 J (fin Try.prog Try.f74.results.toList sg74 R) 100000 [.code (Try.f74.body.getD .skip)] (initSt [.val false [.c (.sl 88 a)], .val false [.c (.int .i64 b)]] 27) = q74 a b  (fun n5 n1 => J (td (Try.f74.body.getD .skip) 5) (st74_5 a b n5 n1)) R := by kernel_rfl
def q74_5 (a : List (List D)) (b : Int) (n5 : Int) (n1 : Int) (J5 : Int → Int → Prop) (R : Int → Prop) : Prop :=
  ((decide (n5 < (↑(List.length a) : Int)) = true → (((0 : Int) ≤ n5 ∧ n5 < (↑(List.length a) : Int) ∧ List.length (List.getD a (Int.toNat n5) []) = (6 : Nat)) ∧
  (∃ n, (∃ s, (∃ n2, (∃ n3, (∃ xs, (∃ xs1, ((List.take (6 : Nat) (List.drop (0 : Nat) (List.getD a (Int.toNat n5) [])) = [D.int IntKind.i64 n, D.str s, D.int IntKind.i64 n2, D.int IntKind.i64 n3, D.sl (32 : Nat) xs, D.sl (88 : Nat) xs1]) ∧
  C Try.prog 26 [.val true [.c (.int .i64 n), .c (.str s), .c (.int .i64 n2), .c (.int .i64 n3), .c (.sl 32 xs), .c (.sl 88 xs1)], .val false [.c (.int .i64 n1)]] sg26 (fun n4 => ((decide (n4 < (0 : Int)) = true → R (-1 : Int)) ∧
  (decide (n4 < (0 : Int)) = false → J5 (IntKind.wrap IntKind.i64 (n5 + (1 : Int))) n4)))))))))))) ∧
  (decide (n5 < (↑(List.length a) : Int)) = false → R n1))
theorem v74_5 (a : List (List D)) (b : Int) (n5 : Int) (n1 : Int) (J : List Item → St → Prop) (R : Int → Prop) : wpt cx74 J (fin Try.prog Try.f74.results.toList sg74 R) 100000 (td (Try.f74.body.getD .skip) 5) (st74_5 a b n5 n1) = q74_5 a b n5 n1 (fun n5 n1 => J (td (Try.f74.body.getD .skip) 5) (st74_5 a b n5 n1)) R := by kernel_rfl
theorem r74 (a : List (List D)) (b : Int) (R : Int → Prop) (I5 : Nat → Int → Int → Prop)
    (h : DFact (.sl 88 a) → DFact (.int .i64 b) → ∀ (J5 : Int → Int → Prop), (∀ m n5' n1', I5 m n5' n1' → J5 n5' n1') → q74 a b J5 R)
    (h5 : ∀ x (n5 : Int) (n1 : Int), I5 x n5 n1 → DFact (.sl 88 a) → ∀ (J5 : Int → Int → Prop), (∀ m n5' n1', m < x → I5 m n5' n1' → J5 n5' n1') → q74_5 a b n5 n1 J5 R) :
    C Try.prog 74 [.val false [.c (.sl 88 a)], .val false [.c (.int .i64 b)]] sg74 R :=
  C_rule (cx := cx74) (P := Try.prog) (f := 74) (fn := Try.f74) (c := (Try.f74.body.getD .skip)) (args := [.val false [.c (.sl 88 a)], .val false [.c (.int .i64 b)]]) (sg := sg74) (rv := Try.f74.results.toList) (N := 27) (R := R) (μ := Nat) (lt := (· < ·)) Nat.lt_wfRel.wf (fun m td st => (∃ (n5 : Int) (n1 : Int), td = _root_.Go.Gl.td (Try.f74.body.getD .skip) 5 ∧ st = st74_5 a b n5 n1 ∧ I5 m n5 n1)) (by kernel_rfl) (by kernel_rfl) Try.func74 (by kernel_rfl) (by kernel_rfl) (by kernel_rfl) (by kernel_rfl) (by kernel_rfl)
    (fun x td st h hf => by
      obtain ⟨n5, n1, rfl, rfl, hi⟩ := h
      rw [v74_5]
      exact h5 x n5 n1 hi (hf.sd 0 false [.c (.sl 88 a)] 0 (.sl 88 a) (by kernel_rfl) (by kernel_rfl)) _ (fun m n5 n1 hm hi => ⟨m, hm, ⟨n5, n1, rfl, rfl, hi⟩⟩))
    (fun hf => by rw [v74]; exact h (hf.sd 0 false [.c (.sl 88 a)] 0 (.sl 88 a) (by kernel_rfl) (by kernel_rfl)) (hf.sd 1 false [.c (.int .i64 b)] 0 (.int .i64 b) (by kernel_rfl) (by kernel_rfl)) _ (fun m n5 n1 hi => ⟨m, ⟨n5, n1, rfl, rfl, hi⟩⟩))

noncomputable def cx26 : Cx := { P := Try.prog, sg := fun i => (alook [(73, sg73), (74, sg74), (26, sg26)] i).getD ⟨[], []⟩, mv := fun i => (alook [] i).getD [], head := fun i => (alook [] i).getD ⟨0, 0, []⟩, ord := fun i => (alook [] i).getD [] }
def q26 (a0 : Int) (a1 : List UInt8) (a2 : Int) (a3 : Int) (a4 : List (List D)) (a5 : List (List D)) (b : Int)   (R : Int → Prop) : Prop :=
  ((decide (IntKind.wrap IntKind.i64 (b - (↑(List.length a1) : Int)) < (0 : Int)) = true → R (-1 : Int)) ∧
  (decide (IntKind.wrap IntKind.i64 (b - (↑(List.length a1) : Int)) < (0 : Int)) = false → C Try.prog 73 [.val true [.c (.int .i64 a3), .c (.sl 32 a4)], .val false [.c (.int .i64 (IntKind.wrap IntKind.i64 (b - (↑(List.length a1) : Int))))]] sg73 (fun n => ((decide (n < (0 : Int)) = true → R (-1 : Int)) ∧
  (decide (n < (0 : Int)) = false → C Try.prog 74 [.val false [.c (.sl 88 a5)], .val false [.c (.int .i64 n)]] sg74 (fun n1 => ((decide (n1 < (0 : Int)) = true → R (-1 : Int)) ∧
  (decide (n1 < (0 : Int)) = false → R n1))))))))
theorem v26 (a0 : Int) (a1 : List UInt8) (a2 : Int) (a3 : Int) (a4 : List (List D)) (a5 : List (List D)) (b : Int)  (J : List Item → St → Prop) (R : Int → Prop) : wpt cx26 J (fin Try.prog Try.f26.results.toList sg26 R) 100000 [.code (Try.f26.body.getD .skip)] (initSt [.val true [.c (.int .i64 a0), .c (.str a1), .c (.int .i64 a2), .c (.int .i64 a3), .c (.sl 32 a4), .c (.sl 88 a5)], .val false [.c (.int .i64 b)]] 25) = q26 a0 a1 a2 a3 a4 a5 b   R := by kernel_rfl
theorem r26 (a0 : Int) (a1 : List UInt8) (a2 : Int) (a3 : Int) (a4 : List (List D)) (a5 : List (List D)) (b : Int) (R : Int → Prop) 
    (h : DFact (.int .i64 a0) → DFact (.str a1) → DFact (.int .i64 a2) → DFact (.int .i64 a3) → DFact (.sl 32 a4) → DFact (.sl 88 a5) → DFact (.int .i64 b) → q26 a0 a1 a2 a3 a4 a5 b  R) :
    C Try.prog 26 [.val true [.c (.int .i64 a0), .c (.str a1), .c (.int .i64 a2), .c (.int .i64 a3), .c (.sl 32 a4), .c (.sl 88 a5)], .val false [.c (.int .i64 b)]] sg26 R :=
  C_rule (cx := cx26) (P := Try.prog) (f := 26) (fn := Try.f26) (c := (Try.f26.body.getD .skip)) (args := [.val true [.c (.int .i64 a0), .c (.str a1), .c (.int .i64 a2), .c (.int .i64 a3), .c (.sl 32 a4), .c (.sl 88 a5)], .val false [.c (.int .i64 b)]]) (sg := sg26) (rv := Try.f26.results.toList) (N := 25) (R := R) (μ := Nat) (lt := (· < ·)) Nat.lt_wfRel.wf (fun m td st => False) (by kernel_rfl) (by kernel_rfl) Try.func26 (by kernel_rfl) (by kernel_rfl) (by kernel_rfl) (by kernel_rfl) (by kernel_rfl)
    (fun _ _ _ h => h.elim)
    (fun hf => by rw [v26]; exact h (hf.sd 0 true [.c (.int .i64 a0), .c (.str a1), .c (.int .i64 a2), .c (.int .i64 a3), .c (.sl 32 a4), .c (.sl 88 a5)] 0 (.int .i64 a0) (by kernel_rfl) (by kernel_rfl)) (hf.sd 0 true [.c (.int .i64 a0), .c (.str a1), .c (.int .i64 a2), .c (.int .i64 a3), .c (.sl 32 a4), .c (.sl 88 a5)] 1 (.str a1) (by kernel_rfl) (by kernel_rfl)) (hf.sd 0 true [.c (.int .i64 a0), .c (.str a1), .c (.int .i64 a2), .c (.int .i64 a3), .c (.sl 32 a4), .c (.sl 88 a5)] 2 (.int .i64 a2) (by kernel_rfl) (by kernel_rfl)) (hf.sd 0 true [.c (.int .i64 a0), .c (.str a1), .c (.int .i64 a2), .c (.int .i64 a3), .c (.sl 32 a4), .c (.sl 88 a5)] 3 (.int .i64 a3) (by kernel_rfl) (by kernel_rfl)) (hf.sd 0 true [.c (.int .i64 a0), .c (.str a1), .c (.int .i64 a2), .c (.int .i64 a3), .c (.sl 32 a4), .c (.sl 88 a5)] 4 (.sl 32 a4) (by kernel_rfl) (by kernel_rfl)) (hf.sd 0 true [.c (.int .i64 a0), .c (.str a1), .c (.int .i64 a2), .c (.int .i64 a3), .c (.sl 32 a4), .c (.sl 88 a5)] 5 (.sl 88 a5) (by kernel_rfl) (by kernel_rfl)) (hf.sd 1 false [.c (.int .i64 b)] 0 (.int .i64 b) (by kernel_rfl) (by kernel_rfl)) )

mutual
def F26 : Ex → Int → Int
  | .mk a_k a_nm a_n a_t a_ar, b => (if (decide (IntKind.wrap IntKind.i64 (b - (↑(List.length a_nm) : Int)) < (0 : Int))) = true then (-1 : Int) else (if (decide ((F73 a_t (IntKind.wrap IntKind.i64 (b - (↑(List.length a_nm) : Int)))) < (0 : Int))) = true then (-1 : Int) else (if (decide (((if (decide (IntKind.wrap IntKind.i64 ((F73 a_t (IntKind.wrap IntKind.i64 (b - (↑(List.length a_nm) : Int)))) - (↑(List.length (List.map Ex.row a_ar)) : Int)) < (0 : Int))) = true then (-1 : Int) else (F74_5 a_ar (IntKind.wrap IntKind.i64 ((F73 a_t (IntKind.wrap IntKind.i64 (b - (↑(List.length a_nm) : Int)))) - (↑(List.length (List.map Ex.row a_ar)) : Int)))))) < (0 : Int))) = true then (-1 : Int) else ((if (decide (IntKind.wrap IntKind.i64 ((F73 a_t (IntKind.wrap IntKind.i64 (b - (↑(List.length a_nm) : Int)))) - (↑(List.length (List.map Ex.row a_ar)) : Int)) < (0 : Int))) = true then (-1 : Int) else (F74_5 a_ar (IntKind.wrap IntKind.i64 ((F73 a_t (IntKind.wrap IntKind.i64 (b - (↑(List.length a_nm) : Int)))) - (↑(List.length (List.map Ex.row a_ar)) : Int)))))))))
def F74_5  : (List Ex) → Int → Int
  | [], n1 => n1
  | x :: post, n1 => (if (decide ((F26 x n1) < (0 : Int))) = true then (-1 : Int) else (F74_5 post (F26 x n1)))
end
def F74 (a : List Ex) (b : Int) : Int := (if (decide (IntKind.wrap IntKind.i64 (b - (↑(List.length (List.map Ex.row a)) : Int)) < (0 : Int))) = true then (-1 : Int) else (F74_5 a (IntKind.wrap IntKind.i64 (b - (↑(List.length (List.map Ex.row a)) : Int)))))
theorem c74 (S : Ex → Prop) (ih : ∀ a, S a → ∀ (b : Int) (RES : Int), F26 a b = RES → C Try.prog 26 [.val true [.c (.int .i64 a.k), .c (.str a.nm), .c (.int .i64 a.n), .c (.int .i64 a.t.k), .c (.sl 32 (List.map Ty.row a.t.ar)), .c (.sl 88 (List.map Ex.row a.ar))], .val false [.c (.int .i64 b)]] sg26 (fun r0 => r0 = RES)) (a : List Ex) (b : Int) (hS : ∀ x ∈ a, S x) (RES : Int) (hr : F74 a b = RES) :
    C Try.prog 74 [.val false [.c (.sl 88 (List.map Ex.row a))], .val false [.c (.int .i64 b)]] sg74 (fun r0 => r0 = RES) := by
  refine r74 (List.map Ex.row a) b _ (fun m i n1 => ∃ pre post, a = pre ++ post ∧ m = post.length ∧ i = (pre.length : Int) ∧ F74_5 post n1 = RES) ?_ ?_
  · intro ef0 ef1 J5 hJ5
    unfold q74
    rw [F74] at hr
    refine ⟨fun hb3 => ?_, fun hb3 => ?_⟩
    · rw [if_pos hb3] at hr
      obtain rfl := hr
      exact by first | rfl | trivial | simp [Ty.row_eq, Ex.row_eq, I.row_eq, S.row_eq, Il.row_eq, Cf.row_eq, Ch.row_eq]
    · rw [if_neg (by rw [hb3]; decide)] at hr
      exact hJ5 a.length _ _ ⟨[], a, rfl, rfl, rfl, hr⟩
  · rintro m i n1 ⟨pre, post, hL, rfl, hi, hr⟩ sf0 J5 hJ5
    have hf := fact_sl sf0
    simp only [List.length_map] at hf
    have hlen : a.length = pre.length + post.length := by rw [hL, List.length_append]
    unfold q74_5
    cases post with
    | nil =>
      simp only [List.length_nil] at hlen
      rw [F74_5] at hr
      refine ⟨fun h => absurd h (by simp only [decide_eq_true_eq, List.length_map]; omega), fun _ => ?_⟩
      obtain rfl := hr
      exact by first | rfl | trivial | simp [Ty.row_eq, Ex.row_eq, I.row_eq, S.row_eq, Il.row_eq, Cf.row_eq, Ch.row_eq]
    | cons x post =>
      simp only [List.length_cons] at hlen
      rw [F74_5] at hr
      have hrow : List.getD (List.map Ex.row a) (Int.toNat i) [] = Ex.row x := by rw [hL, hi, Int.toNat_natCast, getD_mid]
      refine ⟨fun _ => ?_, fun h => absurd h (by simp only [decide_eq_false_iff_not, List.length_map]; omega)⟩
      refine ⟨⟨by omega, by simp only [List.length_map]; omega, by rw [hrow, Ex.row_eq]; rfl⟩, ?_⟩
      refine ⟨x.k, x.nm, x.n, x.t.k, (List.map Ty.row x.t.ar), (List.map Ex.row x.ar), by rw [hrow, Ex.row_eq]; rfl, ?_⟩
      refine (ih x (hS _ (by rw [hL]; simp)) n1 _ rfl).imp ?_
      rintro r2_0 er2_0
      obtain rfl := er2_0.symm
      refine ⟨fun hb1 => ?_, fun hb1 => ?_⟩
      · rw [if_pos hb1] at hr
        obtain rfl := hr
        exact by first | rfl | trivial | (simp only [hrow]; simp [Ty.row_eq, Ex.row_eq, I.row_eq, S.row_eq, Il.row_eq, Cf.row_eq, Ch.row_eq]; done) | simp [Ty.row_eq, Ex.row_eq, I.row_eq, S.row_eq, Il.row_eq, Cf.row_eq, Ch.row_eq]
      · rw [if_neg (by rw [hb1]; decide)] at hr
        exact hJ5 post.length _ _ (by simp) ⟨pre ++ [x], post, by simp [hL], rfl, by rw [wrap_id (by omega) (by omega), hi]; simp, hr⟩
theorem c26 : ∀ (a : Ex) (b : Int) (RES : Int), F26 a b = RES →
    C Try.prog 26 [.val true [.c (.int .i64 a.k), .c (.str a.nm), .c (.int .i64 a.n), .c (.int .i64 a.t.k), .c (.sl 32 (List.map Ty.row a.t.ar)), .c (.sl 88 (List.map Ex.row a.ar))], .val false [.c (.int .i64 b)]] sg26 (fun r0 => r0 = RES) := by
  intro a
  induction a using Ex.ind with
  | _ a_k a_nm a_n a_t a_ar ih =>
  intro b RES hr
  show C Try.prog 26 [.val true [.c (.int .i64 a_k), .c (.str a_nm), .c (.int .i64 a_n), .c (.int .i64 a_t.k), .c (.sl 32 (List.map Ty.row a_t.ar)), .c (.sl 88 (List.map Ex.row a_ar))], .val false [.c (.int .i64 b)]] sg26 (fun r0 => r0 = RES)
  refine r26 a_k a_nm a_n a_t.k (List.map Ty.row a_t.ar) (List.map Ex.row a_ar) b _  ?_
  · intro ef0 ef1 ef2 ef3 ef4 ef5 ef6
    unfold q26
    rw [F26] at hr
    have hr : (if (decide (IntKind.wrap IntKind.i64 (b - (↑(List.length a_nm) : Int)) < (0 : Int))) = true then (-1 : Int) else (if (decide ((F73 a_t (IntKind.wrap IntKind.i64 (b - (↑(List.length a_nm) : Int)))) < (0 : Int))) = true then (-1 : Int) else (if (decide ((F74 a_ar (F73 a_t (IntKind.wrap IntKind.i64 (b - (↑(List.length a_nm) : Int))))) < (0 : Int))) = true then (-1 : Int) else (F74 a_ar (F73 a_t (IntKind.wrap IntKind.i64 (b - (↑(List.length a_nm) : Int)))))))) = RES := hr
    refine ⟨fun hb1 => ?_, fun hb1 => ?_⟩
    · rw [if_pos hb1] at hr
      obtain rfl := hr
      exact by first | rfl | trivial | simp [Ty.row_eq, Ex.row_eq, I.row_eq, S.row_eq, Il.row_eq, Cf.row_eq, Ch.row_eq]
    · rw [if_neg (by rw [hb1]; decide)] at hr
      refine (c73 a_t (IntKind.wrap IntKind.i64 (b - (↑(List.length a_nm) : Int))) _ rfl).imp ?_
      rintro r5_0 er5_0
      obtain rfl := er5_0.symm
      refine ⟨fun hb2 => ?_, fun hb2 => ?_⟩
      · rw [if_pos hb2] at hr
        obtain rfl := hr
        exact by first | rfl | trivial | simp [Ty.row_eq, Ex.row_eq, I.row_eq, S.row_eq, Il.row_eq, Cf.row_eq, Ch.row_eq]
      · rw [if_neg (by rw [hb2]; decide)] at hr
        refine (c74 (· ∈ a_ar) ih a_ar (F73 a_t (IntKind.wrap IntKind.i64 (b - (↑(List.length a_nm) : Int)))) (fun _ h => h) _ rfl).imp ?_
        rintro r4_0 er4_0
        obtain rfl := er4_0.symm
        refine ⟨fun hb3 => ?_, fun hb3 => ?_⟩
        · rw [if_pos hb3] at hr
          obtain rfl := hr
          exact by first | rfl | trivial | simp [Ty.row_eq, Ex.row_eq, I.row_eq, S.row_eq, Il.row_eq, Cf.row_eq, Ch.row_eq]
        · rw [if_neg (by rw [hb3]; decide)] at hr
          obtain rfl := hr
          exact by first | rfl | trivial | simp [Ty.row_eq, Ex.row_eq, I.row_eq, S.row_eq, Il.row_eq, Cf.row_eq, Ch.row_eq]

noncomputable def cx122 : Cx := { P := Try.prog, sg := fun i => (alook [(76, sg76), (122, sg122)] i).getD ⟨[], []⟩, mv := fun i => (alook [] i).getD [], head := fun i => (alook [(3, ⟨3000, 3, [⟨0, [some (37, 2, 32)]⟩, ⟨3, [some (45, 2, 32)]⟩, ⟨4, [none]⟩]⟩)] i).getD ⟨0, 0, []⟩, ord := fun i => (alook [] i).getD [] }
noncomputable def st122_3 (a : List (List D)) (n4 : Int) (x3000 : List (List D)) : St := (St.of [(4, .v false [.c (.int .i64 n4)]), (3, .v false [.tk 3000]), (0, .v false [.c (.sl 32 a)])] [] [(3000, ⟨3, 45, 2, 32, x3000⟩)] 3064 23)
def q122 (a : List (List D))  (J3 : Int → (List (List D)) → Prop) (R : (List (List D)) → Prop) : Prop :=
  (((0 : Int) ≤ (↑(List.length a) : Int) ∧ (↑(List.length a) : Int) = (↑(List.length a) : Int) ∧ (↑(List.length a) : Int) * (↑(32 : Nat) : Int) ≤ (↑capB : Int)) ∧
  J3 (0 : Int) (List.replicate (Int.toNat (↑(List.length a) : Int)) (List.map CK.zeroD ([CK.int IntKind.i64] ++ ([CK.sl (45 : Nat) (2 : Nat) (32 : Nat)] ++ [])))))
theorem v122 (a : List (List D))  (J : List Item → St → Prop) (R : (List (List D)) → Prop) : wpt cx122 J (fin Try.prog Try.f122.results.toList sg122 R) 100000 [.code (Try.f122.body.getD .skip)] (initSt [.val false [.c (.sl 32 a)]] 23) = q122 a  (fun n4 x3000 => J (td (Try.f122.body.getD .skip) 3) (st122_3 a n4 x3000)) R := by kernel_rfl
def q122_3 (a : List (List D)) (n4 : Int) (x3000 : List (List D)) (J3 : Int → (List (List D)) → Prop) (R : (List (List D)) → Prop) : Prop :=
  ((decide (n4 < (↑(List.length a) : Int)) = true → (((0 : Int) ≤ n4 ∧ n4 < (↑(List.length a) : Int) ∧ List.length (List.getD a (Int.toNat n4) []) = (2 : Nat)) ∧
  (∃ n, (∃ xs, ((List.take (2 : Nat) (List.drop (0 : Nat) (List.getD a (Int.toNat n4) [])) = [D.int IntKind.i64 n, D.sl (32 : Nat) xs]) ∧
  C Try.prog 76 [.val true [.c (.int .i64 n), .c (.sl 32 xs)]] sg76 (fun n1 => (fun xs1 => (((0 : Int) ≤ n4 ∧ n4 < (↑(List.length x3000) : Int)) ∧
  (((2 : Nat) ≤ List.length (List.getD x3000 (Int.toNat n4) [])) ∧
  J3 (IntKind.wrap IntKind.i64 (n4 + (1 : Int))) (List.set x3000 (Int.toNat n4) (List.take (0 : Nat) (List.getD x3000 (Int.toNat n4) []) ++ [D.int IntKind.i64 n1, D.sl (32 : Nat) xs1] ++ List.drop (2 : Nat) (List.getD x3000 (Int.toNat n4) [])))))))))))) ∧
  (decide (n4 < (↑(List.length a) : Int)) = false → R x3000))
theorem v122_3 (a : List (List D)) (n4 : Int) (x3000 : List (List D)) (J : List Item → St → Prop) (R : (List (List D)) → Prop) : wpt cx122 J (fin Try.prog Try.f122.results.toList sg122 R) 100000 (td (Try.f122.body.getD .skip) 3) (st122_3 a n4 x3000) = q122_3 a n4 x3000 (fun n4 x3000 => J (td (Try.f122.body.getD .skip) 3) (st122_3 a n4 x3000)) R := by kernel_rfl
theorem r122 (a : List (List D)) (R : (List (List D)) → Prop) (I3 : Nat → Int → (List (List D)) → Prop)
    (h : DFact (.sl 32 a) → ∀ (J3 : Int → (List (List D)) → Prop), (∀ m n4' x3000', I3 m n4' x3000' → J3 n4' x3000') → q122 a J3 R)
    (h3 : ∀ x (n4 : Int) (x3000 : List (List D)), I3 x n4 x3000 → DFact (.sl 32 a) → DFact (.sl 32 x3000) → ∀ (J3 : Int → (List (List D)) → Prop), (∀ m n4' x3000', m < x → I3 m n4' x3000' → J3 n4' x3000') → q122_3 a n4 x3000 J3 R) :
    C Try.prog 122 [.val false [.c (.sl 32 a)]] sg122 R :=
  C_rule (cx := cx122) (P := Try.prog) (f := 122) (fn := Try.f122) (c := (Try.f122.body.getD .skip)) (args := [.val false [.c (.sl 32 a)]]) (sg := sg122) (rv := Try.f122.results.toList) (N := 23) (R := R) (μ := Nat) (lt := (· < ·)) Nat.lt_wfRel.wf (fun m td st => (∃ (n4 : Int) (x3000 : List (List D)), td = _root_.Go.Gl.td (Try.f122.body.getD .skip) 3 ∧ st = st122_3 a n4 x3000 ∧ I3 m n4 x3000)) (by kernel_rfl) (by kernel_rfl) Try.func122 (by kernel_rfl) (by kernel_rfl) (by kernel_rfl) (by kernel_rfl) (by kernel_rfl)
    (fun x td st h hf => by
      obtain ⟨n4, x3000, rfl, rfl, hi⟩ := h
      rw [v122_3]
      exact h3 x n4 x3000 hi (hf.sd 0 false [.c (.sl 32 a)] 0 (.sl 32 a) (by kernel_rfl) (by kernel_rfl)) (hf.td 3000 3 45 2 32 x3000 (by kernel_rfl)) _ (fun m n4 x3000 hm hi => ⟨m, hm, ⟨n4, x3000, rfl, rfl, hi⟩⟩))
    (fun hf => by rw [v122]; exact h (hf.sd 0 false [.c (.sl 32 a)] 0 (.sl 32 a) (by kernel_rfl) (by kernel_rfl)) _ (fun m n4 x3000 hi => ⟨m, ⟨n4, x3000, rfl, rfl, hi⟩⟩))

noncomputable def cx76 : Cx := { P := Try.prog, sg := fun i => (alook [(122, sg122), (76, sg76)] i).getD ⟨[], []⟩, mv := fun i => (alook [] i).getD [], head := fun i => (alook [] i).getD ⟨0, 0, []⟩, ord := fun i => (alook [] i).getD [] }
def q76 (a0 : Int) (a1 : List (List D))   (R : Int → (List (List D)) → Prop) : Prop :=
  C Try.prog 122 [.val false [.c (.sl 32 a1)]] sg122 (fun xs => R a0 xs)
theorem v76 (a0 : Int) (a1 : List (List D))  (J : List Item → St → Prop) (R : Int → (List (List D)) → Prop) : wpt cx76 J (fin Try.prog Try.f76.results.toList sg76 R) 100000 [.code (Try.f76.body.getD .skip)] (initSt [.val true [.c (.int .i64 a0), .c (.sl 32 a1)]] 12) = q76 a0 a1   R := by kernel_rfl
theorem r76 (a0 : Int) (a1 : List (List D)) (R : Int → (List (List D)) → Prop) 
    (h : DFact (.int .i64 a0) → DFact (.sl 32 a1) → q76 a0 a1  R) :
    C Try.prog 76 [.val true [.c (.int .i64 a0), .c (.sl 32 a1)]] sg76 R :=
  C_rule (cx := cx76) (P := Try.prog) (f := 76) (fn := Try.f76) (c := (Try.f76.body.getD .skip)) (args := [.val true [.c (.int .i64 a0), .c (.sl 32 a1)]]) (sg := sg76) (rv := Try.f76.results.toList) (N := 12) (R := R) (μ := Nat) (lt := (· < ·)) Nat.lt_wfRel.wf (fun m td st => False) (by kernel_rfl) (by kernel_rfl) Try.func76 (by kernel_rfl) (by kernel_rfl) (by kernel_rfl) (by kernel_rfl) (by kernel_rfl)
    (fun _ _ _ h => h.elim)
    (fun hf => by rw [v76]; exact h (hf.sd 0 true [.c (.int .i64 a0), .c (.sl 32 a1)] 0 (.int .i64 a0) (by kernel_rfl) (by kernel_rfl)) (hf.sd 0 true [.c (.int .i64 a0), .c (.sl 32 a1)] 1 (.sl 32 a1) (by kernel_rfl) (by kernel_rfl)) )

theorem d122 (xs : List Ty) (ih : ∀ x ∈ xs, C Try.prog 76 [.val true [.c (.int .i64 x.k), .c (.sl 32 (x.ar.map Ty.row))]] sg76 (fun r0 r1 => r0 = x.k ∧ r1 = (x.ar.map Ty.row))) :
    C Try.prog 122 [.val false [.c (.sl 32 (xs.map Ty.row))]] sg122 (fun l => l = xs.map Ty.row) := by
  refine r122 _ _ (fun m i l => ∃ pre post, xs = pre ++ post ∧ m = post.length ∧ i = pre.length ∧ l = pre.map Ty.row ++ List.replicate post.length [.int .i64 0, .sl 32 []]) ?_ ?_
  · intro f1 J hJ
    have f1 := fact_sl f1
    simp only [q122, List.length_map, capB] at f1 ⊢
    exact ⟨⟨by omega, trivial, by omega⟩, hJ xs.length _ _ ⟨[], xs, rfl, rfl, rfl, by rw [Int.toNat_natCast]; rfl⟩⟩
  · rintro m i l ⟨pre, post, rfl, rfl, rfl, rfl⟩ f1 _ J hJ
    have f1 := fact_sl f1
    simp only [q122_3, List.length_map, List.length_append, decide_eq_true_eq, decide_eq_false_iff_not] at f1 ⊢
    cases post with
    | nil => exact ⟨fun h => absurd h (by simp), fun _ => by simp⟩
    | cons x post =>
      simp only [List.length_cons, List.length_replicate] at f1 ⊢
      refine ⟨fun _ => ⟨⟨by omega, by omega, by rw [Int.toNat_natCast, getD_mid, Ty.row_eq]; rfl⟩, x.k, (x.ar.map Ty.row), by rw [Int.toNat_natCast, getD_mid, Ty.row_eq]; rfl, (ih x (by simp)).imp ?_⟩, fun h => absurd h (by omega)⟩
      rintro r0 r1 ⟨rfl, rfl⟩
      refine ⟨⟨by omega, by omega⟩, by rw [Int.toNat_natCast, getD_rep]; simp, ?_⟩
      rw [wrap_id (by omega) (by omega)]
      refine hJ post.length _ _ (by simp) ⟨pre ++ [x], post, by simp, rfl, by simp, ?_⟩
      rw [Int.toNat_natCast, getD_rep, set_rep, List.map_append, List.map_cons, Ty.row_eq]; simp
theorem d76 : ∀ x : Ty, C Try.prog 76 [.val true [.c (.int .i64 x.k), .c (.sl 32 (x.ar.map Ty.row))]] sg76 (fun r0 r1 => r0 = x.k ∧ r1 = (x.ar.map Ty.row)) := by
  intro x
  induction x using Ty.ind with
  | _ k xs ih =>
    refine r76 _ _ _ fun f1 f2 => (d122 xs ih).imp ?_
    rintro l rfl
    exact ⟨rfl, rfl⟩
def F122 (a : List Ty) : List Ty := a
theorem F122_eq (a : List Ty) : F122 a = a := rfl
theorem c122 (a : List Ty) (RES : List Ty) (hr : F122 a = RES) :
    C Try.prog 122 [.val false [.c (.sl 32 (a.map Ty.row))]] sg122 (fun r0 => r0 = RES.map Ty.row) := by
  subst hr
  exact d122 a (fun x _ => d76 x)
attribute [irreducible] F122
def F76 (a : Ty) : Ty := a
theorem F76_eq (a : Ty) : F76 a = a := rfl
theorem c76 (a : Ty) (RES : Ty) (hr : F76 a = RES) :
    C Try.prog 76 [.val true [.c (.int .i64 a.k), .c (.sl 32 (a.ar.map Ty.row))]] sg76 (fun r0 r1 => r0 = RES.k ∧ r1 = (RES.ar.map Ty.row)) := by
  subst hr
  exact d76 a
attribute [irreducible] F76

noncomputable def cx77 : Cx := { P := Try.prog, sg := fun i => (alook [(28, sg28), (77, sg77)] i).getD ⟨[], []⟩, mv := fun i => (alook [] i).getD [], head := fun i => (alook [(3, ⟨3000, 3, [⟨0, [some (40, 6, 88)]⟩, ⟨3, [some (48, 6, 88)]⟩, ⟨4, [none]⟩]⟩)] i).getD ⟨0, 0, []⟩, ord := fun i => (alook [] i).getD [] }
noncomputable def st77_3 (a : List (List D)) (n4 : Int) (x3000 : List (List D)) : St := (St.of [(4, .v false [.c (.int .i64 n4)]), (3, .v false [.tk 3000]), (0, .v false [.c (.sl 88 a)])] [] [(3000, ⟨3, 48, 6, 88, x3000⟩)] 3064 23)
def q77 (a : List (List D))  (J3 : Int → (List (List D)) → Prop) (R : (List (List D)) → Prop) : Prop :=
  (((0 : Int) ≤ (↑(List.length a) : Int) ∧ (↑(List.length a) : Int) = (↑(List.length a) : Int) ∧ (↑(List.length a) : Int) * (↑(88 : Nat) : Int) ≤ (↑capB : Int)) ∧
  J3 (0 : Int) (List.replicate (Int.toNat (↑(List.length a) : Int)) (List.map CK.zeroD ([CK.int IntKind.i64] ++ ([CK.str] ++ ([CK.int IntKind.i64] ++ ([CK.int IntKind.i64] ++ ([CK.sl (45 : Nat) (2 : Nat) (32 : Nat)] ++ []) ++ ([CK.sl (48 : Nat) (6 : Nat) (88 : Nat)] ++ []))))))))
theorem v77 (a : List (List D))  (J : List Item → St → Prop) (R : (List (List D)) → Prop) : wpt cx77 J (fin Try.prog Try.f77.results.toList sg77 R) 100000 [.code (Try.f77.body.getD .skip)] (initSt [.val false [.c (.sl 88 a)]] 23) = q77 a  (fun n4 x3000 => J (td (Try.f77.body.getD .skip) 3) (st77_3 a n4 x3000)) R := by kernel_rfl
def q77_3 (a : List (List D)) (n4 : Int) (x3000 : List (List D)) (J3 : Int → (List (List D)) → Prop) (R : (List (List D)) → Prop) : Prop :=
  ((decide (n4 < (↑(List.length a) : Int)) = true → (((0 : Int) ≤ n4 ∧ n4 < (↑(List.length a) : Int) ∧ List.length (List.getD a (Int.toNat n4) []) = (6 : Nat)) ∧
  (∃ n, (∃ s, (∃ n1, (∃ n2, (∃ xs, (∃ xs1, ((List.take (6 : Nat) (List.drop (0 : Nat) (List.getD a (Int.toNat n4) [])) = [D.int IntKind.i64 n, D.str s, D.int IntKind.i64 n1, D.int IntKind.i64 n2, D.sl (32 : Nat) xs, D.sl (88 : Nat) xs1]) ∧
  C Try.prog 28 [.val true [.c (.int .i64 n), .c (.str s), .c (.int .i64 n1), .c (.int .i64 n2), .c (.sl 32 xs), .c (.sl 88 xs1)]] sg28 (fun n3 => (fun s1 => (fun n5 => (fun n6 => (fun xs2 => (fun xs3 => (((0 : Int) ≤ n4 ∧ n4 < (↑(List.length x3000) : Int)) ∧
  (((6 : Nat) ≤ List.length (List.getD x3000 (Int.toNat n4) [])) ∧
  J3 (IntKind.wrap IntKind.i64 (n4 + (1 : Int))) (List.set x3000 (Int.toNat n4) (List.take (0 : Nat) (List.getD x3000 (Int.toNat n4) []) ++ [D.int IntKind.i64 n3, D.str s1, D.int IntKind.i64 n5, D.int IntKind.i64 n6, D.sl (32 : Nat) xs2, D.sl (88 : Nat) xs3] ++ List.drop (6 : Nat) (List.getD x3000 (Int.toNat n4) [])))))))))))))))))))) ∧
  (decide (n4 < (↑(List.length a) : Int)) = false → R x3000))
theorem v77_3 (a : List (List D)) (n4 : Int) (x3000 : List (List D)) (J : List Item → St → Prop) (R : (List (List D)) → Prop) : wpt cx77 J (fin Try.prog Try.f77.results.toList sg77 R) 100000 (td (Try.f77.body.getD .skip) 3) (st77_3 a n4 x3000) = q77_3 a n4 x3000 (fun n4 x3000 => J (td (Try.f77.body.getD .skip) 3) (st77_3 a n4 x3000)) R := by kernel_rfl
theorem r77 (a : List (List D)) (R : (List (List D)) → Prop) (I3 : Nat → Int → (List (List D)) → Prop)
    (h : DFact (.sl 88 a) → ∀ (J3 : Int → (List (List D)) → Prop), (∀ m n4' x3000', I3 m n4' x3000' → J3 n4' x3000') → q77 a J3 R)
    (h3 : ∀ x (n4 : Int) (x3000 : List (List D)), I3 x n4 x3000 → DFact (.sl 88 a) → DFact (.sl 88 x3000) → ∀ (J3 : Int → (List (List D)) → Prop), (∀ m n4' x3000', m < x → I3 m n4' x3000' → J3 n4' x3000') → q77_3 a n4 x3000 J3 R) :
    C Try.prog 77 [.val false [.c (.sl 88 a)]] sg77 R :=
  C_rule (cx := cx77) (P := Try.prog) (f := 77) (fn := Try.f77) (c := (Try.f77.body.getD .skip)) (args := [.val false [.c (.sl 88 a)]]) (sg := sg77) (rv := Try.f77.results.toList) (N := 23) (R := R) (μ := Nat) (lt := (· < ·)) Nat.lt_wfRel.wf (fun m td st => (∃ (n4 : Int) (x3000 : List (List D)), td = _root_.Go.Gl.td (Try.f77.body.getD .skip) 3 ∧ st = st77_3 a n4 x3000 ∧ I3 m n4 x3000)) (by kernel_rfl) (by kernel_rfl) Try.func77 (by kernel_rfl) (by kernel_rfl) (by kernel_rfl) (by kernel_rfl) (by kernel_rfl)
    (fun x td st h hf => by
      obtain ⟨n4, x3000, rfl, rfl, hi⟩ := h
      rw [v77_3]
      exact h3 x n4 x3000 hi (hf.sd 0 false [.c (.sl 88 a)] 0 (.sl 88 a) (by kernel_rfl) (by kernel_rfl)) (hf.td 3000 3 48 6 88 x3000 (by kernel_rfl)) _ (fun m n4 x3000 hm hi => ⟨m, hm, ⟨n4, x3000, rfl, rfl, hi⟩⟩))
    (fun hf => by rw [v77]; exact h (hf.sd 0 false [.c (.sl 88 a)] 0 (.sl 88 a) (by kernel_rfl) (by kernel_rfl)) _ (fun m n4 x3000 hi => ⟨m, ⟨n4, x3000, rfl, rfl, hi⟩⟩))

noncomputable def cx28 : Cx := { P := Try.prog, sg := fun i => (alook [(76, sg76), (77, sg77), (28, sg28)] i).getD ⟨[], []⟩, mv := fun i => (alook [] i).getD [], head := fun i => (alook [] i).getD ⟨0, 0, []⟩, ord := fun i => (alook [] i).getD [] }
def q28 (a0 : Int) (a1 : List UInt8) (a2 : Int) (a3 : Int) (a4 : List (List D)) (a5 : List (List D))   (R : Int → (List UInt8) → Int → Int → (List (List D)) → (List (List D)) → Prop) : Prop :=
  C Try.prog 76 [.val true [.c (.int .i64 a3), .c (.sl 32 a4)]] sg76 (fun n => (fun xs => C Try.prog 77 [.val false [.c (.sl 88 a5)]] sg77 (fun xs1 => R a0 a1 a2 n xs xs1)))
theorem v28 (a0 : Int) (a1 : List UInt8) (a2 : Int) (a3 : Int) (a4 : List (List D)) (a5 : List (List D))  (J : List Item → St → Prop) (R : Int → (List UInt8) → Int → Int → (List (List D)) → (List (List D)) → Prop) : wpt cx28 J (fin Try.prog Try.f28.results.toList sg28 R) 100000 [.code (Try.f28.body.getD .skip)] (initSt [.val true [.c (.int .i64 a0), .c (.str a1), .c (.int .i64 a2), .c (.int .i64 a3), .c (.sl 32 a4), .c (.sl 88 a5)]] 22) = q28 a0 a1 a2 a3 a4 a5   R := by kernel_rfl
theorem r28 (a0 : Int) (a1 : List UInt8) (a2 : Int) (a3 : Int) (a4 : List (List D)) (a5 : List (List D)) (R : Int → (List UInt8) → Int → Int → (List (List D)) → (List (List D)) → Prop) 
    (h : DFact (.int .i64 a0) → DFact (.str a1) → DFact (.int .i64 a2) → DFact (.int .i64 a3) → DFact (.sl 32 a4) → DFact (.sl 88 a5) → q28 a0 a1 a2 a3 a4 a5  R) :
    C Try.prog 28 [.val true [.c (.int .i64 a0), .c (.str a1), .c (.int .i64 a2), .c (.int .i64 a3), .c (.sl 32 a4), .c (.sl 88 a5)]] sg28 R :=
  C_rule (cx := cx28) (P := Try.prog) (f := 28) (fn := Try.f28) (c := (Try.f28.body.getD .skip)) (args := [.val true [.c (.int .i64 a0), .c (.str a1), .c (.int .i64 a2), .c (.int .i64 a3), .c (.sl 32 a4), .c (.sl 88 a5)]]) (sg := sg28) (rv := Try.f28.results.toList) (N := 22) (R := R) (μ := Nat) (lt := (· < ·)) Nat.lt_wfRel.wf (fun m td st => False) (by kernel_rfl) (by kernel_rfl) Try.func28 (by kernel_rfl) (by kernel_rfl) (by kernel_rfl) (by kernel_rfl) (by kernel_rfl)
    (fun _ _ _ h => h.elim)
    (fun hf => by rw [v28]; exact h (hf.sd 0 true [.c (.int .i64 a0), .c (.str a1), .c (.int .i64 a2), .c (.int .i64 a3), .c (.sl 32 a4), .c (.sl 88 a5)] 0 (.int .i64 a0) (by kernel_rfl) (by kernel_rfl)) (hf.sd 0 true [.c (.int .i64 a0), .c (.str a1), .c (.int .i64 a2), .c (.int .i64 a3), .c (.sl 32 a4), .c (.sl 88 a5)] 1 (.str a1) (by kernel_rfl) (by kernel_rfl)) (hf.sd 0 true [.c (.int .i64 a0), .c (.str a1), .c (.int .i64 a2), .c (.int .i64 a3), .c (.sl 32 a4), .c (.sl 88 a5)] 2 (.int .i64 a2) (by kernel_rfl) (by kernel_rfl)) (hf.sd 0 true [.c (.int .i64 a0), .c (.str a1), .c (.int .i64 a2), .c (.int .i64 a3), .c (.sl 32 a4), .c (.sl 88 a5)] 3 (.int .i64 a3) (by kernel_rfl) (by kernel_rfl)) (hf.sd 0 true [.c (.int .i64 a0), .c (.str a1), .c (.int .i64 a2), .c (.int .i64 a3), .c (.sl 32 a4), .c (.sl 88 a5)] 4 (.sl 32 a4) (by kernel_rfl) (by kernel_rfl)) (hf.sd 0 true [.c (.int .i64 a0), .c (.str a1), .c (.int .i64 a2), .c (.int .i64 a3), .c (.sl 32 a4), .c (.sl 88 a5)] 5 (.sl 88 a5) (by kernel_rfl) (by kernel_rfl)) )

theorem d77 (xs : List Ex) (ih : ∀ x ∈ xs, C Try.prog 28 [.val true [.c (.int .i64 x.k), .c (.str x.nm), .c (.int .i64 x.n), .c (.int .i64 x.t.k), .c (.sl 32 (x.t.ar.map Ty.row)), .c (.sl 88 (x.ar.map Ex.row))]] sg28 (fun r0 r1 r2 r3 r4 r5 => r0 = x.k ∧ r1 = x.nm ∧ r2 = x.n ∧ r3 = x.t.k ∧ r4 = (x.t.ar.map Ty.row) ∧ r5 = (x.ar.map Ex.row))) :
    C Try.prog 77 [.val false [.c (.sl 88 (xs.map Ex.row))]] sg77 (fun l => l = xs.map Ex.row) := by
  refine r77 _ _ (fun m i l => ∃ pre post, xs = pre ++ post ∧ m = post.length ∧ i = pre.length ∧ l = pre.map Ex.row ++ List.replicate post.length [.int .i64 0, .str [], .int .i64 0, .int .i64 0, .sl 32 [], .sl 88 []]) ?_ ?_
  · intro f1 J hJ
    have f1 := fact_sl f1
    simp only [q77, List.length_map, capB] at f1 ⊢
    exact ⟨⟨by omega, trivial, by omega⟩, hJ xs.length _ _ ⟨[], xs, rfl, rfl, rfl, by rw [Int.toNat_natCast]; rfl⟩⟩
  · rintro m i l ⟨pre, post, rfl, rfl, rfl, rfl⟩ f1 _ J hJ
    have f1 := fact_sl f1
    simp only [q77_3, List.length_map, List.length_append, decide_eq_true_eq, decide_eq_false_iff_not] at f1 ⊢
    cases post with
    | nil => exact ⟨fun h => absurd h (by simp), fun _ => by simp⟩
    | cons x post =>
      simp only [List.length_cons, List.length_replicate] at f1 ⊢
      refine ⟨fun _ => ⟨⟨by omega, by omega, by rw [Int.toNat_natCast, getD_mid, Ex.row_eq]; rfl⟩, x.k, x.nm, x.n, x.t.k, (x.t.ar.map Ty.row), (x.ar.map Ex.row), by rw [Int.toNat_natCast, getD_mid, Ex.row_eq]; rfl, (ih x (by simp)).imp ?_⟩, fun h => absurd h (by omega)⟩
      rintro r0 r1 r2 r3 r4 r5 ⟨rfl, rfl, rfl, rfl, rfl, rfl⟩
      refine ⟨⟨by omega, by omega⟩, by rw [Int.toNat_natCast, getD_rep]; simp, ?_⟩
      rw [wrap_id (by omega) (by omega)]
      refine hJ post.length _ _ (by simp) ⟨pre ++ [x], post, by simp, rfl, by simp, ?_⟩
      rw [Int.toNat_natCast, getD_rep, set_rep, List.map_append, List.map_cons, Ex.row_eq]; simp
theorem d28 : ∀ x : Ex, C Try.prog 28 [.val true [.c (.int .i64 x.k), .c (.str x.nm), .c (.int .i64 x.n), .c (.int .i64 x.t.k), .c (.sl 32 (x.t.ar.map Ty.row)), .c (.sl 88 (x.ar.map Ex.row))]] sg28 (fun r0 r1 r2 r3 r4 r5 => r0 = x.k ∧ r1 = x.nm ∧ r2 = x.n ∧ r3 = x.t.k ∧ r4 = (x.t.ar.map Ty.row) ∧ r5 = (x.ar.map Ex.row)) := by
  intro x
  induction x using Ex.ind with
  | _ k nm n t xs ih =>
    refine r28 _ _ _ _ _ _ _ fun _ _ _ _ _ _ => (d76 t).imp ?_
    rintro r0 r1 ⟨rfl, rfl⟩
    refine (d77 xs ih).imp ?_
    rintro l rfl
    exact ⟨rfl, rfl, rfl, rfl, rfl, rfl⟩
def F77 (a : List Ex) : List Ex := a
theorem F77_eq (a : List Ex) : F77 a = a := rfl
theorem c77 (a : List Ex) (RES : List Ex) (hr : F77 a = RES) :
    C Try.prog 77 [.val false [.c (.sl 88 (a.map Ex.row))]] sg77 (fun r0 => r0 = RES.map Ex.row) := by
  subst hr
  exact d77 a (fun x _ => d28 x)
attribute [irreducible] F77
def F28 (a : Ex) : Ex := a
theorem F28_eq (a : Ex) : F28 a = a := rfl
theorem c28 (a : Ex) (RES : Ex) (hr : F28 a = RES) :
    C Try.prog 28 [.val true [.c (.int .i64 a.k), .c (.str a.nm), .c (.int .i64 a.n), .c (.int .i64 a.t.k), .c (.sl 32 (a.t.ar.map Ty.row)), .c (.sl 88 (a.ar.map Ex.row))]] sg28 (fun r0 r1 r2 r3 r4 r5 => r0 = RES.k ∧ r1 = RES.nm ∧ r2 = RES.n ∧ r3 = RES.t.k ∧ r4 = (RES.t.ar.map Ty.row) ∧ r5 = (RES.ar.map Ex.row)) := by
  subst hr
  exact d28 a
attribute [irreducible] F28

noncomputable def cx83 : Cx := { P := Try.prog, sg := fun i => (alook [(33, sg33), (83, sg83)] i).getD ⟨[], []⟩, mv := fun i => (alook [] i).getD [], head := fun i => (alook [(4, ⟨3000, 3, [⟨0, [some (45, 2, 32)]⟩, ⟨1, [some (45, 2, 32)]⟩, ⟨5, [none]⟩]⟩)] i).getD ⟨0, 0, []⟩, ord := fun i => (alook [(6, [0, 1, 2, 3, 4, 5, 6, 7, 8, 9])] i).getD [] }
noncomputable def st83_4 (a : List (List D)) (b : List (List D)) (n5 : Int) : St := (St.of [(5, .v false [.c (.int .i64 n5)]), (1, .v false [.c (.sl 32 b)]), (0, .v false [.c (.sl 32 a)])] [] [] 3064 27)
def q83 (a : List (List D)) (b : List (List D))  (J4 : Int → Prop) (R : Bool → Prop) : Prop :=
  ((((↑(List.length a) : Int) != (↑(List.length b) : Int)) = true → R false) ∧
  (((↑(List.length a) : Int) != (↑(List.length b) : Int)) = false → J4 (0 : Int)))
theorem v83 (a : List (List D)) (b : List (List D))  (J : List Item → St → Prop) (R : Bool → Prop) : wpt cx83 J (fin Try.prog Try.f83.results.toList sg83 R) 100000 [.code (Try.f83.body.getD .skip)] (initSt [.val false [.c (.sl 32 a)], .val false [.c (.sl 32 b)]] 27) = q83 a b  (fun n5 => J (td (Try.f83.body.getD .skip) 4) (st83_4 a b n5)) R := by kernel_rfl
def q83_4 (a : List (List D)) (b : List (List D)) (n5 : Int) (J4 : Int → Prop) (R : Bool → Prop) : Prop :=
  ((decide (n5 < (↑(List.length a) : Int)) = true → (((0 : Int) ≤ n5 ∧ n5 < (↑(List.length a) : Int) ∧ List.length (List.getD a (Int.toNat n5) []) = (2 : Nat)) ∧
  (∃ n, (∃ xs, ((List.take (2 : Nat) (List.drop (0 : Nat) (List.getD a (Int.toNat n5) [])) = [D.int IntKind.i64 n, D.sl (32 : Nat) xs]) ∧
  (((0 : Int) ≤ n5 ∧ n5 < (↑(List.length b) : Int) ∧ List.length (List.getD b (Int.toNat n5) []) = (2 : Nat)) ∧
  (∃ n1, (∃ xs1, ((List.take (2 : Nat) (List.drop (0 : Nat) (List.getD b (Int.toNat n5) [])) = [D.int IntKind.i64 n1, D.sl (32 : Nat) xs1]) ∧
  C Try.prog 33 [.val true [.c (.int .i64 n), .c (.sl 32 xs)], .val true [.c (.int .i64 n1), .c (.sl 32 xs1)]] sg33 (fun b1 => (((!b1) = true → R false) ∧
  ((!b1) = false → J4 (IntKind.wrap IntKind.i64 (n5 + (1 : Int))))))))))))))) ∧
  (decide (n5 < (↑(List.length a) : Int)) = false → R true))
theorem v83_4 (a : List (List D)) (b : List (List D)) (n5 : Int) (J : List Item → St → Prop) (R : Bool → Prop) : wpt cx83 J (fin Try.prog Try.f83.results.toList sg83 R) 100000 (td (Try.f83.body.getD .skip) 4) (st83_4 a b n5) = q83_4 a b n5 (fun n5 => J (td (Try.f83.body.getD .skip) 4) (st83_4 a b n5)) R := by kernel_rfl
theorem r83 (a : List (List D)) (b : List (List D)) (R : Bool → Prop) (I4 : Nat → Int → Prop)
    (h : DFact (.sl 32 a) → DFact (.sl 32 b) → ∀ (J4 : Int → Prop), (∀ m n5', I4 m n5' → J4 n5') → q83 a b J4 R)
    (h4 : ∀ x (n5 : Int), I4 x n5 → DFact (.sl 32 b) → DFact (.sl 32 a) → ∀ (J4 : Int → Prop), (∀ m n5', m < x → I4 m n5' → J4 n5') → q83_4 a b n5 J4 R) :
    C Try.prog 83 [.val false [.c (.sl 32 a)], .val false [.c (.sl 32 b)]] sg83 R :=
  C_rule (cx := cx83) (P := Try.prog) (f := 83) (fn := Try.f83) (c := (Try.f83.body.getD .skip)) (args := [.val false [.c (.sl 32 a)], .val false [.c (.sl 32 b)]]) (sg := sg83) (rv := Try.f83.results.toList) (N := 27) (R := R) (μ := Nat) (lt := (· < ·)) Nat.lt_wfRel.wf (fun m td st => (∃ (n5 : Int), td = _root_.Go.Gl.td (Try.f83.body.getD .skip) 4 ∧ st = st83_4 a b n5 ∧ I4 m n5)) (by kernel_rfl) (by kernel_rfl) Try.func83 (by kernel_rfl) (by kernel_rfl) (by kernel_rfl) (by kernel_rfl) (by kernel_rfl)
    (fun x td st h hf => by
      obtain ⟨n5, rfl, rfl, hi⟩ := h
      rw [v83_4]
      exact h4 x n5 hi (hf.sd 1 false [.c (.sl 32 b)] 0 (.sl 32 b) (by kernel_rfl) (by kernel_rfl)) (hf.sd 0 false [.c (.sl 32 a)] 0 (.sl 32 a) (by kernel_rfl) (by kernel_rfl)) _ (fun m n5 hm hi => ⟨m, hm, ⟨n5, rfl, rfl, hi⟩⟩))
    (fun hf => by rw [v83]; exact h (hf.sd 0 false [.c (.sl 32 a)] 0 (.sl 32 a) (by kernel_rfl) (by kernel_rfl)) (hf.sd 1 false [.c (.sl 32 b)] 0 (.sl 32 b) (by kernel_rfl) (by kernel_rfl)) _ (fun m n5 hi => ⟨m, ⟨n5, rfl, rfl, hi⟩⟩))

noncomputable def cx33 : Cx := { P := Try.prog, sg := fun i => (alook [(83, sg83), (33, sg33)] i).getD ⟨[], []⟩, mv := fun i => (alook [] i).getD [], head := fun i => (alook [] i).getD ⟨0, 0, []⟩, ord := fun i => (alook [] i).getD [] }
def q33 (a0 : Int) (a1 : List (List D)) (b0 : Int) (b1 : List (List D))   (R : Bool → Prop) : Prop :=
  (((a0 != b0) = true → R false) ∧
  ((a0 != b0) = false → C Try.prog 83 [.val false [.c (.sl 32 a1)], .val false [.c (.sl 32 b1)]] sg83 (fun b => (((!b) = true → R false) ∧
  ((!b) = false → R true)))))
theorem v33 (a0 : Int) (a1 : List (List D)) (b0 : Int) (b1 : List (List D))  (J : List Item → St → Prop) (R : Bool → Prop) : wpt cx33 J (fin Try.prog Try.f33.results.toList sg33 R) 100000 [.code (Try.f33.body.getD .skip)] (initSt [.val true [.c (.int .i64 a0), .c (.sl 32 a1)], .val true [.c (.int .i64 b0), .c (.sl 32 b1)]] 16) = q33 a0 a1 b0 b1   R := by kernel_rfl
theorem r33 (a0 : Int) (a1 : List (List D)) (b0 : Int) (b1 : List (List D)) (R : Bool → Prop) 
    (h : DFact (.int .i64 a0) → DFact (.sl 32 a1) → DFact (.int .i64 b0) → DFact (.sl 32 b1) → q33 a0 a1 b0 b1  R) :
    C Try.prog 33 [.val true [.c (.int .i64 a0), .c (.sl 32 a1)], .val true [.c (.int .i64 b0), .c (.sl 32 b1)]] sg33 R :=
  C_rule (cx := cx33) (P := Try.prog) (f := 33) (fn := Try.f33) (c := (Try.f33.body.getD .skip)) (args := [.val true [.c (.int .i64 a0), .c (.sl 32 a1)], .val true [.c (.int .i64 b0), .c (.sl 32 b1)]]) (sg := sg33) (rv := Try.f33.results.toList) (N := 16) (R := R) (μ := Nat) (lt := (· < ·)) Nat.lt_wfRel.wf (fun m td st => False) (by kernel_rfl) (by kernel_rfl) Try.func33 (by kernel_rfl) (by kernel_rfl) (by kernel_rfl) (by kernel_rfl) (by kernel_rfl)
    (fun _ _ _ h => h.elim)
    (fun hf => by rw [v33]; exact h (hf.sd 0 true [.c (.int .i64 a0), .c (.sl 32 a1)] 0 (.int .i64 a0) (by kernel_rfl) (by kernel_rfl)) (hf.sd 0 true [.c (.int .i64 a0), .c (.sl 32 a1)] 1 (.sl 32 a1) (by kernel_rfl) (by kernel_rfl)) (hf.sd 1 true [.c (.int .i64 b0), .c (.sl 32 b1)] 0 (.int .i64 b0) (by kernel_rfl) (by kernel_rfl)) (hf.sd 1 true [.c (.int .i64 b0), .c (.sl 32 b1)] 1 (.sl 32 b1) (by kernel_rfl) (by kernel_rfl)) )

mutual
def F33 : Ty → Ty → Option Bool
  | .mk a_k a_ar, b => (if (a_k != b.k) = true then some false else (match ((if ((↑(List.length (List.map Ty.row a_ar)) : Int) != (↑(List.length (List.map Ty.row b.ar)) : Int)) = true then some false else (F83_4 b.ar 0 a_ar))) with | some v2 => (if (!v2) = true then some false else some true) | none => none))
def F83_4 (b : List Ty) : Int → (List Ty) → Option Bool
  | i, [] => some true
  | i, x :: post => (if (0 : Int) ≤ i then (match b[Int.toNat i]? with | some x1 => (match (F33 x x1) with | some v4 => (if (!v4) = true then some false else (F83_4 b (i + 1) post)) | none => none) | none => none) else none)
end
def F83 (a : List Ty) (b : List Ty) : Option Bool := (if ((↑(List.length (List.map Ty.row a)) : Int) != (↑(List.length (List.map Ty.row b)) : Int)) = true then some false else (F83_4 b 0 a))
theorem c83 (S : Ty → Prop) (ih : ∀ a, S a → ∀ (b : Ty) (RES : Bool), F33 a b = some RES → C Try.prog 33 [.val true [.c (.int .i64 a.k), .c (.sl 32 (List.map Ty.row a.ar))], .val true [.c (.int .i64 b.k), .c (.sl 32 (List.map Ty.row b.ar))]] sg33 (fun r0 => r0 = RES)) (a : List Ty) (b : List Ty) (hS : ∀ x ∈ a, S x) (RES : Bool) (hr : F83 a b = some RES) :
    C Try.prog 83 [.val false [.c (.sl 32 (List.map Ty.row a))], .val false [.c (.sl 32 (List.map Ty.row b))]] sg83 (fun r0 => r0 = RES) := by
  refine r83 (List.map Ty.row a) (List.map Ty.row b) _ (fun m i => ∃ pre post, a = pre ++ post ∧ m = post.length ∧ i = (pre.length : Int) ∧ F83_4 b i post = some RES) ?_ ?_
  · intro ef0 ef1 J4 hJ4
    unfold q83
    rw [F83] at hr
    refine ⟨fun hb9 => ?_, fun hb9 => ?_⟩
    · rw [if_pos hb9] at hr
      obtain rfl := Option.some.inj hr
      exact by first | rfl | trivial | simp [Ty.row_eq, Ex.row_eq, I.row_eq, S.row_eq, Il.row_eq, Cf.row_eq, Ch.row_eq]
    · rw [if_neg (by rw [hb9]; decide)] at hr
      exact hJ4 a.length _ ⟨[], a, rfl, rfl, rfl, hr⟩
  · rintro m i ⟨pre, post, hL, rfl, hi, hr⟩ sf0 sf1 J4 hJ4
    have hf := fact_sl sf1
    simp only [List.length_map] at hf
    have hlen : a.length = pre.length + post.length := by rw [hL, List.length_append]
    unfold q83_4
    cases post with
    | nil =>
      simp only [List.length_nil] at hlen
      rw [F83_4] at hr
      refine ⟨fun h => absurd h (by simp only [decide_eq_true_eq, List.length_map]; omega), fun _ => ?_⟩
      obtain rfl := Option.some.inj hr
      exact by first | rfl | trivial | simp [Ty.row_eq, Ex.row_eq, I.row_eq, S.row_eq, Il.row_eq, Cf.row_eq, Ch.row_eq]
    | cons x post =>
      simp only [List.length_cons] at hlen
      rw [F83_4] at hr
      have hrow : List.getD (List.map Ty.row a) (Int.toNat i) [] = Ty.row x := by rw [hL, hi, Int.toNat_natCast, getD_mid]
      refine ⟨fun _ => ?_, fun h => absurd h (by simp only [decide_eq_false_iff_not, List.length_map]; omega)⟩
      refine ⟨⟨by omega, by simp only [List.length_map]; omega, by rw [hrow, Ty.row_eq]; rfl⟩, ?_⟩
      refine ⟨x.k, (List.map Ty.row x.ar), by rw [hrow, Ty.row_eq]; rfl, ?_⟩
      by_cases hg8 : (0 : Int) ≤ i
      · rw [if_pos hg8] at hr
        cases hx2 : b[Int.toNat i]? with
        | none => rw [hx2] at hr; cases hr
        | some x1 =>
          rw [hx2] at hr
          dsimp only at hr
          have hrow3 : List.getD (List.map Ty.row b) (Int.toNat i) [] = Ty.row x1 := idx_row hx2
          refine ⟨(idx_ok hx2 ⟨by omega, rfl⟩ Ty.row_len), ?_⟩
          refine ⟨x1.k, (List.map Ty.row x1.ar), by rw [hrow3, Ty.row_eq]; rfl, ?_⟩
          cases hv7 : (F33 x x1) with
          | none => rw [hv7] at hr; cases hr
          | some v4 =>
            rw [hv7] at hr
            dsimp only at hr
            refine (ih x (hS _ (by rw [hL]; simp)) x1 _ hv7).imp ?_
            rintro r6_0 er6_0
            obtain rfl := er6_0.symm
            refine ⟨fun hb5 => ?_, fun hb5 => ?_⟩
            · rw [if_pos hb5] at hr
              obtain rfl := Option.some.inj hr
              exact by first | rfl | trivial | (simp only [hrow, hrow3]; simp [Ty.row_eq, Ex.row_eq, I.row_eq, S.row_eq, Il.row_eq, Cf.row_eq, Ch.row_eq]; done) | simp [Ty.row_eq, Ex.row_eq, I.row_eq, S.row_eq, Il.row_eq, Cf.row_eq, Ch.row_eq]
            · rw [if_neg (by rw [hb5]; decide)] at hr
              exact hJ4 post.length _ (by simp) ⟨pre ++ [x], post, by simp [hL], rfl, by rw [wrap_id (by omega) (by omega), hi]; simp, by rw [wrap_id (by omega) (by omega)]; exact hr⟩
      · rw [if_neg hg8] at hr; cases hr
theorem c33 : ∀ (a : Ty) (b : Ty) (RES : Bool), F33 a b = some RES →
    C Try.prog 33 [.val true [.c (.int .i64 a.k), .c (.sl 32 (List.map Ty.row a.ar))], .val true [.c (.int .i64 b.k), .c (.sl 32 (List.map Ty.row b.ar))]] sg33 (fun r0 => r0 = RES) := by
  intro a
  induction a using Ty.ind with
  | _ a_k a_ar ih =>
  intro b RES hr
  show C Try.prog 33 [.val true [.c (.int .i64 a_k), .c (.sl 32 (List.map Ty.row a_ar))], .val true [.c (.int .i64 b.k), .c (.sl 32 (List.map Ty.row b.ar))]] sg33 (fun r0 => r0 = RES)
  refine r33 a_k (List.map Ty.row a_ar) b.k (List.map Ty.row b.ar) _  ?_
  · intro ef0 ef1 ef2 ef3
    unfold q33
    rw [F33] at hr
    have hr : (if (a_k != b.k) = true then some false else (match (generalizing := false) (F83 a_ar b.ar) with | some v2 => (if (!v2) = true then some false else some true) | none => none)) = some RES := hr
    refine ⟨fun hb1 => ?_, fun hb1 => ?_⟩
    · rw [if_pos hb1] at hr
      obtain rfl := Option.some.inj hr
      exact by first | rfl | trivial | simp [Ty.row_eq, Ex.row_eq, I.row_eq, S.row_eq, Il.row_eq, Cf.row_eq, Ch.row_eq]
    · rw [if_neg (by rw [hb1]; decide)] at hr
      cases hv5 : (F83 a_ar b.ar) with
      | none => rw [hv5] at hr; cases hr
      | some v2 =>
        rw [hv5] at hr
        dsimp only at hr
        refine (c83 (· ∈ a_ar) ih a_ar b.ar (fun _ h => h) _ hv5).imp ?_
        rintro r4_0 er4_0
        obtain rfl := er4_0.symm
        refine ⟨fun hb3 => ?_, fun hb3 => ?_⟩
        · rw [if_pos hb3] at hr
          obtain rfl := Option.some.inj hr
          exact by first | rfl | trivial | simp [Ty.row_eq, Ex.row_eq, I.row_eq, S.row_eq, Il.row_eq, Cf.row_eq, Ch.row_eq]
        · rw [if_neg (by rw [hb3]; decide)] at hr
          obtain rfl := Option.some.inj hr
          exact by first | rfl | trivial | simp [Ty.row_eq, Ex.row_eq, I.row_eq, S.row_eq, Il.row_eq, Cf.row_eq, Ch.row_eq]

noncomputable def cx79 : Cx := { P := Try.prog, sg := fun i => (alook [(30, sg30), (79, sg79)] i).getD ⟨[], []⟩, mv := fun i => (alook [] i).getD [], head := fun i => (alook [(4, ⟨3000, 3, [⟨0, [some (48, 6, 88)]⟩, ⟨1, [some (48, 6, 88)]⟩, ⟨5, [none]⟩]⟩)] i).getD ⟨0, 0, []⟩, ord := fun i => (alook [(6, [0, 1, 2, 3, 4, 5, 6, 7, 8, 9])] i).getD [] }
noncomputable def st79_4 (a : List (List D)) (b : List (List D)) (n5 : Int) : St := (St.of [(5, .v false [.c (.int .i64 n5)]), (1, .v false [.c (.sl 88 b)]), (0, .v false [.c (.sl 88 a)])] [] [] 3064 27)
def q79 (a : List (List D)) (b : List (List D))  (J4 : Int → Prop) (R : Bool → Prop) : Prop :=
  ((((↑(List.length a) : Int) != (↑(List.length b) : Int)) = true → R false) ∧
  (((↑(List.length a) : Int) != (↑(List.length b) : Int)) = false → J4 (0 : Int)))
theorem v79 (a : List (List D)) (b : List (List D))  (J : List Item → St → Prop) (R : Bool → Prop) : wpt cx79 J (fin Try.prog Try.f79.results.toList sg79 R) 100000 [.code (Try.f79.body.getD .skip)] (initSt [.val false [.c (.sl 88 a)], .val false [.c (.sl 88 b)]] 27) = q79 a b  (fun n5 => J (td (Try.f79.body.getD .skip) 4) (st79_4 a b n5)) R := by kernel_rfl
def q79_4 (a : List (List D)) (b : List (List D)) (n5 : Int) (J4 : Int → Prop) (R : Bool → Prop) : Prop :=
  ((decide (n5 < (↑(List.length a) : Int)) = true → (((0 : Int) ≤ n5 ∧ n5 < (↑(List.length a) : Int) ∧ List.length (List.getD a (Int.toNat n5) []) = (6 : Nat)) ∧
  (∃ n, (∃ s, (∃ n1, (∃ n2, (∃ xs, (∃ xs1, ((List.take (6 : Nat) (List.drop (0 : Nat) (List.getD a (Int.toNat n5) [])) = [D.int IntKind.i64 n, D.str s, D.int IntKind.i64 n1, D.int IntKind.i64 n2, D.sl (32 : Nat) xs, D.sl (88 : Nat) xs1]) ∧
  (((0 : Int) ≤ n5 ∧ n5 < (↑(List.length b) : Int) ∧ List.length (List.getD b (Int.toNat n5) []) = (6 : Nat)) ∧
  (∃ n3, (∃ s1, (∃ n4, (∃ n6, (∃ xs2, (∃ xs3, ((List.take (6 : Nat) (List.drop (0 : Nat) (List.getD b (Int.toNat n5) [])) = [D.int IntKind.i64 n3, D.str s1, D.int IntKind.i64 n4, D.int IntKind.i64 n6, D.sl (32 : Nat) xs2, D.sl (88 : Nat) xs3]) ∧
  C Try.prog 30 [.val true [.c (.int .i64 n), .c (.str s), .c (.int .i64 n1), .c (.int .i64 n2), .c (.sl 32 xs), .c (.sl 88 xs1)], .val true [.c (.int .i64 n3), .c (.str s1), .c (.int .i64 n4), .c (.int .i64 n6), .c (.sl 32 xs2), .c (.sl 88 xs3)]] sg30 (fun b1 => (((!b1) = true → R false) ∧
  ((!b1) = false → J4 (IntKind.wrap IntKind.i64 (n5 + (1 : Int))))))))))))))))))))))) ∧
  (decide (n5 < (↑(List.length a) : Int)) = false → R true))
theorem v79_4 (a : List (List D)) (b : List (List D)) (n5 : Int) (J : List Item → St → Prop) (R : Bool → Prop) : wpt cx79 J (fin Try.prog Try.f79.results.toList sg79 R) 100000 (td (Try.f79.body.getD .skip) 4) (st79_4 a b n5) = q79_4 a b n5 (fun n5 => J (td (Try.f79.body.getD .skip) 4) (st79_4 a b n5)) R := by kernel_rfl
theorem r79 (a : List (List D)) (b : List (List D)) (R : Bool → Prop) (I4 : Nat → Int → Prop)
    (h : DFact (.sl 88 a) → DFact (.sl 88 b) → ∀ (J4 : Int → Prop), (∀ m n5', I4 m n5' → J4 n5') → q79 a b J4 R)
    (h4 : ∀ x (n5 : Int), I4 x n5 → DFact (.sl 88 b) → DFact (.sl 88 a) → ∀ (J4 : Int → Prop), (∀ m n5', m < x → I4 m n5' → J4 n5') → q79_4 a b n5 J4 R) :
    C Try.prog 79 [.val false [.c (.sl 88 a)], .val false [.c (.sl 88 b)]] sg79 R :=
  C_rule (cx := cx79) (P := Try.prog) (f := 79) (fn := Try.f79) (c := (Try.f79.body.getD .skip)) (args := [.val false [.c (.sl 88 a)], .val false [.c (.sl 88 b)]]) (sg := sg79) (rv := Try.f79.results.toList) (N := 27) (R := R) (μ := Nat) (lt := (· < ·)) Nat.lt_wfRel.wf (fun m td st => (∃ (n5 : Int), td = _root_.Go.Gl.td (Try.f79.body.getD .skip) 4 ∧ st = st79_4 a b n5 ∧ I4 m n5)) (by kernel_rfl) (by kernel_rfl) Try.func79 (by kernel_rfl) (by kernel_rfl) (by kernel_rfl) (by kernel_rfl) (by kernel_rfl)
    (fun x td st h hf => by
      obtain ⟨n5, rfl, rfl, hi⟩ := h
      rw [v79_4]
      exact h4 x n5 hi (hf.sd 1 false [.c (.sl 88 b)] 0 (.sl 88 b) (by kernel_rfl) (by kernel_rfl)) (hf.sd 0 false [.c (.sl 88 a)] 0 (.sl 88 a) (by kernel_rfl) (by kernel_rfl)) _ (fun m n5 hm hi => ⟨m, hm, ⟨n5, rfl, rfl, hi⟩⟩))
    (fun hf => by rw [v79]; exact h (hf.sd 0 false [.c (.sl 88 a)] 0 (.sl 88 a) (by kernel_rfl) (by kernel_rfl)) (hf.sd 1 false [.c (.sl 88 b)] 0 (.sl 88 b) (by kernel_rfl) (by kernel_rfl)) _ (fun m n5 hi => ⟨m, ⟨n5, rfl, rfl, hi⟩⟩))

noncomputable def cx30 : Cx := { P := Try.prog, sg := fun i => (alook [(33, sg33), (79, sg79), (30, sg30)] i).getD ⟨[], []⟩, mv := fun i => (alook [] i).getD [], head := fun i => (alook [] i).getD ⟨0, 0, []⟩, ord := fun i => (alook [] i).getD [] }
def q30 (a0 : Int) (a1 : List UInt8) (a2 : Int) (a3 : Int) (a4 : List (List D)) (a5 : List (List D)) (b0 : Int) (b1 : List UInt8) (b2 : Int) (b3 : Int) (b4 : List (List D)) (b5 : List (List D))   (R : Bool → Prop) : Prop :=
  (((a0 != b0) = true → R false) ∧
  ((a0 != b0) = false → (((a1 != b1) = true → R false) ∧
  ((a1 != b1) = false → (((a2 != b2) = true → R false) ∧
  ((a2 != b2) = false → C Try.prog 33 [.val true [.c (.int .i64 a3), .c (.sl 32 a4)], .val true [.c (.int .i64 b3), .c (.sl 32 b4)]] sg33 (fun b => (((!b) = true → R false) ∧
  ((!b) = false → C Try.prog 79 [.val false [.c (.sl 88 a5)], .val false [.c (.sl 88 b5)]] sg79 (fun b6 => (((!b6) = true → R false) ∧
  ((!b6) = false → R true))))))))))))
theorem v30 (a0 : Int) (a1 : List UInt8) (a2 : Int) (a3 : Int) (a4 : List (List D)) (a5 : List (List D)) (b0 : Int) (b1 : List UInt8) (b2 : Int) (b3 : Int) (b4 : List (List D)) (b5 : List (List D))  (J : List Item → St → Prop) (R : Bool → Prop) : wpt cx30 J (fin Try.prog Try.f30.results.toList sg30 R) 100000 [.code (Try.f30.body.getD .skip)] (initSt [.val true [.c (.int .i64 a0), .c (.str a1), .c (.int .i64 a2), .c (.int .i64 a3), .c (.sl 32 a4), .c (.sl 88 a5)], .val true [.c (.int .i64 b0), .c (.str b1), .c (.int .i64 b2), .c (.int .i64 b3), .c (.sl 32 b4), .c (.sl 88 b5)]] 32) = q30 a0 a1 a2 a3 a4 a5 b0 b1 b2 b3 b4 b5   R := by kernel_rfl
theorem r30 (a0 : Int) (a1 : List UInt8) (a2 : Int) (a3 : Int) (a4 : List (List D)) (a5 : List (List D)) (b0 : Int) (b1 : List UInt8) (b2 : Int) (b3 : Int) (b4 : List (List D)) (b5 : List (List D)) (R : Bool → Prop) 
    (h : DFact (.int .i64 a0) → DFact (.str a1) → DFact (.int .i64 a2) → DFact (.int .i64 a3) → DFact (.sl 32 a4) → DFact (.sl 88 a5) → DFact (.int .i64 b0) → DFact (.str b1) → DFact (.int .i64 b2) → DFact (.int .i64 b3) → DFact (.sl 32 b4) → DFact (.sl 88 b5) → q30 a0 a1 a2 a3 a4 a5 b0 b1 b2 b3 b4 b5  R) :
    C Try.prog 30 [.val true [.c (.int .i64 a0), .c (.str a1), .c (.int .i64 a2), .c (.int .i64 a3), .c (.sl 32 a4), .c (.sl 88 a5)], .val true [.c (.int .i64 b0), .c (.str b1), .c (.int .i64 b2), .c (.int .i64 b3), .c (.sl 32 b4), .c (.sl 88 b5)]] sg30 R :=
  C_rule (cx := cx30) (P := Try.prog) (f := 30) (fn := Try.f30) (c := (Try.f30.body.getD .skip)) (args := [.val true [.c (.int .i64 a0), .c (.str a1), .c (.int .i64 a2), .c (.int .i64 a3), .c (.sl 32 a4), .c (.sl 88 a5)], .val true [.c (.int .i64 b0), .c (.str b1), .c (.int .i64 b2), .c (.int .i64 b3), .c (.sl 32 b4), .c (.sl 88 b5)]]) (sg := sg30) (rv := Try.f30.results.toList) (N := 32) (R := R) (μ := Nat) (lt := (· < ·)) Nat.lt_wfRel.wf (fun m td st => False) (by kernel_rfl) (by kernel_rfl) Try.func30 (by kernel_rfl) (by kernel_rfl) (by kernel_rfl) (by kernel_rfl) (by kernel_rfl)
    (fun _ _ _ h => h.elim)
    (fun hf => by rw [v30]; exact h (hf.sd 0 true [.c (.int .i64 a0), .c (.str a1), .c (.int .i64 a2), .c (.int .i64 a3), .c (.sl 32 a4), .c (.sl 88 a5)] 0 (.int .i64 a0) (by kernel_rfl) (by kernel_rfl)) (hf.sd 0 true [.c (.int .i64 a0), .c (.str a1), .c (.int .i64 a2), .c (.int .i64 a3), .c (.sl 32 a4), .c (.sl 88 a5)] 1 (.str a1) (by kernel_rfl) (by kernel_rfl)) (hf.sd 0 true [.c (.int .i64 a0), .c (.str a1), .c (.int .i64 a2), .c (.int .i64 a3), .c (.sl 32 a4), .c (.sl 88 a5)] 2 (.int .i64 a2) (by kernel_rfl) (by kernel_rfl)) (hf.sd 0 true [.c (.int .i64 a0), .c (.str a1), .c (.int .i64 a2), .c (.int .i64 a3), .c (.sl 32 a4), .c (.sl 88 a5)] 3 (.int .i64 a3) (by kernel_rfl) (by kernel_rfl)) (hf.sd 0 true [.c (.int .i64 a0), .c (.str a1), .c (.int .i64 a2), .c (.int .i64 a3), .c (.sl 32 a4), .c (.sl 88 a5)] 4 (.sl 32 a4) (by kernel_rfl) (by kernel_rfl)) (hf.sd 0 true [.c (.int .i64 a0), .c (.str a1), .c (.int .i64 a2), .c (.int .i64 a3), .c (.sl 32 a4), .c (.sl 88 a5)] 5 (.sl 88 a5) (by kernel_rfl) (by kernel_rfl)) (hf.sd 1 true [.c (.int .i64 b0), .c (.str b1), .c (.int .i64 b2), .c (.int .i64 b3), .c (.sl 32 b4), .c (.sl 88 b5)] 0 (.int .i64 b0) (by kernel_rfl) (by kernel_rfl)) (hf.sd 1 true [.c (.int .i64 b0), .c (.str b1), .c (.int .i64 b2), .c (.int .i64 b3), .c (.sl 32 b4), .c (.sl 88 b5)] 1 (.str b1) (by kernel_rfl) (by kernel_rfl)) (hf.sd 1 true [.c (.int .i64 b0), .c (.str b1), .c (.int .i64 b2), .c (.int .i64 b3), .c (.sl 32 b4), .c (.sl 88 b5)] 2 (.int .i64 b2) (by kernel_rfl) (by kernel_rfl)) (hf.sd 1 true [.c (.int .i64 b0), .c (.str b1), .c (.int .i64 b2), .c (.int .i64 b3), .c (.sl 32 b4), .c (.sl 88 b5)] 3 (.int .i64 b3) (by kernel_rfl) (by kernel_rfl)) (hf.sd 1 true [.c (.int .i64 b0), .c (.str b1), .c (.int .i64 b2), .c (.int .i64 b3), .c (.sl 32 b4), .c (.sl 88 b5)] 4 (.sl 32 b4) (by kernel_rfl) (by kernel_rfl)) (hf.sd 1 true [.c (.int .i64 b0), .c (.str b1), .c (.int .i64 b2), .c (.int .i64 b3), .c (.sl 32 b4), .c (.sl 88 b5)] 5 (.sl 88 b5) (by kernel_rfl) (by kernel_rfl)) )

mutual
def F30 : Ex → Ex → Option Bool
  | .mk a_k a_nm a_n a_t a_ar, b => (if (a_k != b.k) = true then some false else (if (a_nm != b.nm) = true then some false else (if (a_n != b.n) = true then some false else (match (F33 a_t b.t) with | some v4 => (if (!v4) = true then some false else (match ((if ((↑(List.length (List.map Ex.row a_ar)) : Int) != (↑(List.length (List.map Ex.row b.ar)) : Int)) = true then some false else (F79_4 b.ar 0 a_ar))) with | some v6 => (if (!v6) = true then some false else some true) | none => none)) | none => none))))
def F79_4 (b : List Ex) : Int → (List Ex) → Option Bool
  | i, [] => some true
  | i, x :: post => (if (0 : Int) ≤ i then (match b[Int.toNat i]? with | some x1 => (match (F30 x x1) with | some v4 => (if (!v4) = true then some false else (F79_4 b (i + 1) post)) | none => none) | none => none) else none)
end
def F79 (a : List Ex) (b : List Ex) : Option Bool := (if ((↑(List.length (List.map Ex.row a)) : Int) != (↑(List.length (List.map Ex.row b)) : Int)) = true then some false else (F79_4 b 0 a))
theorem c79 (S : Ex → Prop) (ih : ∀ a, S a → ∀ (b : Ex) (RES : Bool), F30 a b = some RES → C Try.prog 30 [.val true [.c (.int .i64 a.k), .c (.str a.nm), .c (.int .i64 a.n), .c (.int .i64 a.t.k), .c (.sl 32 (List.map Ty.row a.t.ar)), .c (.sl 88 (List.map Ex.row a.ar))], .val true [.c (.int .i64 b.k), .c (.str b.nm), .c (.int .i64 b.n), .c (.int .i64 b.t.k), .c (.sl 32 (List.map Ty.row b.t.ar)), .c (.sl 88 (List.map Ex.row b.ar))]] sg30 (fun r0 => r0 = RES)) (a : List Ex) (b : List Ex) (hS : ∀ x ∈ a, S x) (RES : Bool) (hr : F79 a b = some RES) :
    C Try.prog 79 [.val false [.c (.sl 88 (List.map Ex.row a))], .val false [.c (.sl 88 (List.map Ex.row b))]] sg79 (fun r0 => r0 = RES) := by
  refine r79 (List.map Ex.row a) (List.map Ex.row b) _ (fun m i => ∃ pre post, a = pre ++ post ∧ m = post.length ∧ i = (pre.length : Int) ∧ F79_4 b i post = some RES) ?_ ?_
  · intro ef0 ef1 J4 hJ4
    unfold q79
    rw [F79] at hr
    refine ⟨fun hb9 => ?_, fun hb9 => ?_⟩
    · rw [if_pos hb9] at hr
      obtain rfl := Option.some.inj hr
      exact by first | rfl | trivial | simp [Ty.row_eq, Ex.row_eq, I.row_eq, S.row_eq, Il.row_eq, Cf.row_eq, Ch.row_eq]
    · rw [if_neg (by rw [hb9]; decide)] at hr
      exact hJ4 a.length _ ⟨[], a, rfl, rfl, rfl, hr⟩
  · rintro m i ⟨pre, post, hL, rfl, hi, hr⟩ sf0 sf1 J4 hJ4
    have hf := fact_sl sf1
    simp only [List.length_map] at hf
    have hlen : a.length = pre.length + post.length := by rw [hL, List.length_append]
    unfold q79_4
    cases post with
    | nil =>
      simp only [List.length_nil] at hlen
      rw [F79_4] at hr
      refine ⟨fun h => absurd h (by simp only [decide_eq_true_eq, List.length_map]; omega), fun _ => ?_⟩
      obtain rfl := Option.some.inj hr
      exact by first | rfl | trivial | simp [Ty.row_eq, Ex.row_eq, I.row_eq, S.row_eq, Il.row_eq, Cf.row_eq, Ch.row_eq]
    | cons x post =>
      simp only [List.length_cons] at hlen
      rw [F79_4] at hr
      have hrow : List.getD (List.map Ex.row a) (Int.toNat i) [] = Ex.row x := by rw [hL, hi, Int.toNat_natCast, getD_mid]
      refine ⟨fun _ => ?_, fun h => absurd h (by simp only [decide_eq_false_iff_not, List.length_map]; omega)⟩
      refine ⟨⟨by omega, by simp only [List.length_map]; omega, by rw [hrow, Ex.row_eq]; rfl⟩, ?_⟩
      refine ⟨x.k, x.nm, x.n, x.t.k, (List.map Ty.row x.t.ar), (List.map Ex.row x.ar), by rw [hrow, Ex.row_eq]; rfl, ?_⟩
      by_cases hg8 : (0 : Int) ≤ i
      · rw [if_pos hg8] at hr
        cases hx2 : b[Int.toNat i]? with
        | none => rw [hx2] at hr; cases hr
        | some x1 =>
          rw [hx2] at hr
          dsimp only at hr
          have hrow3 : List.getD (List.map Ex.row b) (Int.toNat i) [] = Ex.row x1 := idx_row hx2
          refine ⟨(idx_ok hx2 ⟨by omega, rfl⟩ Ex.row_len), ?_⟩
          refine ⟨x1.k, x1.nm, x1.n, x1.t.k, (List.map Ty.row x1.t.ar), (List.map Ex.row x1.ar), by rw [hrow3, Ex.row_eq]; rfl, ?_⟩
          cases hv7 : (F30 x x1) with
          | none => rw [hv7] at hr; cases hr
          | some v4 =>
            rw [hv7] at hr
            dsimp only at hr
            refine (ih x (hS _ (by rw [hL]; simp)) x1 _ hv7).imp ?_
            rintro r6_0 er6_0
            obtain rfl := er6_0.symm
            refine ⟨fun hb5 => ?_, fun hb5 => ?_⟩
            · rw [if_pos hb5] at hr
              obtain rfl := Option.some.inj hr
              exact by first | rfl | trivial | (simp only [hrow, hrow3]; simp [Ty.row_eq, Ex.row_eq, I.row_eq, S.row_eq, Il.row_eq, Cf.row_eq, Ch.row_eq]; done) | simp [Ty.row_eq, Ex.row_eq, I.row_eq, S.row_eq, Il.row_eq, Cf.row_eq, Ch.row_eq]
            · rw [if_neg (by rw [hb5]; decide)] at hr
              exact hJ4 post.length _ (by simp) ⟨pre ++ [x], post, by simp [hL], rfl, by rw [wrap_id (by omega) (by omega), hi]; simp, by rw [wrap_id (by omega) (by omega)]; exact hr⟩
      · rw [if_neg hg8] at hr; cases hr
theorem c30 : ∀ (a : Ex) (b : Ex) (RES : Bool), F30 a b = some RES →
    C Try.prog 30 [.val true [.c (.int .i64 a.k), .c (.str a.nm), .c (.int .i64 a.n), .c (.int .i64 a.t.k), .c (.sl 32 (List.map Ty.row a.t.ar)), .c (.sl 88 (List.map Ex.row a.ar))], .val true [.c (.int .i64 b.k), .c (.str b.nm), .c (.int .i64 b.n), .c (.int .i64 b.t.k), .c (.sl 32 (List.map Ty.row b.t.ar)), .c (.sl 88 (List.map Ex.row b.ar))]] sg30 (fun r0 => r0 = RES) := by
  intro a
  induction a using Ex.ind with
  | _ a_k a_nm a_n a_t a_ar ih =>
  intro b RES hr
  show C Try.prog 30 [.val true [.c (.int .i64 a_k), .c (.str a_nm), .c (.int .i64 a_n), .c (.int .i64 a_t.k), .c (.sl 32 (List.map Ty.row a_t.ar)), .c (.sl 88 (List.map Ex.row a_ar))], .val true [.c (.int .i64 b.k), .c (.str b.nm), .c (.int .i64 b.n), .c (.int .i64 b.t.k), .c (.sl 32 (List.map Ty.row b.t.ar)), .c (.sl 88 (List.map Ex.row b.ar))]] sg30 (fun r0 => r0 = RES)
  refine r30 a_k a_nm a_n a_t.k (List.map Ty.row a_t.ar) (List.map Ex.row a_ar) b.k b.nm b.n b.t.k (List.map Ty.row b.t.ar) (List.map Ex.row b.ar) _  ?_
  · intro ef0 ef1 ef2 ef3 ef4 ef5 ef6 ef7 ef8 ef9 ef10 ef11
    unfold q30
    rw [F30] at hr
    have hr : (if (a_k != b.k) = true then some false else (if (a_nm != b.nm) = true then some false else (if (a_n != b.n) = true then some false else (match (generalizing := false) (F33 a_t b.t) with | some v4 => (if (!v4) = true then some false else (match (generalizing := false) (F79 a_ar b.ar) with | some v6 => (if (!v6) = true then some false else some true) | none => none)) | none => none)))) = some RES := hr
    refine ⟨fun hb1 => ?_, fun hb1 => ?_⟩
    · rw [if_pos hb1] at hr
      obtain rfl := Option.some.inj hr
      exact by first | rfl | trivial | simp [Ty.row_eq, Ex.row_eq, I.row_eq, S.row_eq, Il.row_eq, Cf.row_eq, Ch.row_eq]
    · rw [if_neg (by rw [hb1]; decide)] at hr
      refine ⟨fun hb2 => ?_, fun hb2 => ?_⟩
      · rw [if_pos hb2] at hr
        obtain rfl := Option.some.inj hr
        exact by first | rfl | trivial | simp [Ty.row_eq, Ex.row_eq, I.row_eq, S.row_eq, Il.row_eq, Cf.row_eq, Ch.row_eq]
      · rw [if_neg (by rw [hb2]; decide)] at hr
        refine ⟨fun hb3 => ?_, fun hb3 => ?_⟩
        · rw [if_pos hb3] at hr
          obtain rfl := Option.some.inj hr
          exact by first | rfl | trivial | simp [Ty.row_eq, Ex.row_eq, I.row_eq, S.row_eq, Il.row_eq, Cf.row_eq, Ch.row_eq]
        · rw [if_neg (by rw [hb3]; decide)] at hr
          cases hv11 : (F33 a_t b.t) with
          | none => rw [hv11] at hr; cases hr
          | some v4 =>
            rw [hv11] at hr
            dsimp only at hr
            refine (c33 a_t b.t _ hv11).imp ?_
            rintro r10_0 er10_0
            obtain rfl := er10_0.symm
            refine ⟨fun hb5 => ?_, fun hb5 => ?_⟩
            · rw [if_pos hb5] at hr
              obtain rfl := Option.some.inj hr
              exact by first | rfl | trivial | simp [Ty.row_eq, Ex.row_eq, I.row_eq, S.row_eq, Il.row_eq, Cf.row_eq, Ch.row_eq]
            · rw [if_neg (by rw [hb5]; decide)] at hr
              cases hv9 : (F79 a_ar b.ar) with
              | none => rw [hv9] at hr; cases hr
              | some v6 =>
                rw [hv9] at hr
                dsimp only at hr
                refine (c79 (· ∈ a_ar) ih a_ar b.ar (fun _ h => h) _ hv9).imp ?_
                rintro r8_0 er8_0
                obtain rfl := er8_0.symm
                refine ⟨fun hb7 => ?_, fun hb7 => ?_⟩
                · rw [if_pos hb7] at hr
                  obtain rfl := Option.some.inj hr
                  exact by first | rfl | trivial | simp [Ty.row_eq, Ex.row_eq, I.row_eq, S.row_eq, Il.row_eq, Cf.row_eq, Ch.row_eq]
                · rw [if_neg (by rw [hb7]; decide)] at hr
                  obtain rfl := Option.some.inj hr
                  exact by first | rfl | trivial | simp [Ty.row_eq, Ex.row_eq, I.row_eq, S.row_eq, Il.row_eq, Cf.row_eq, Ch.row_eq]

noncomputable def cx91 : Cx := { P := Try.prog, sg := fun i => (alook [(118, sg118), (26, sg26), (91, sg91)] i).getD ⟨[], []⟩, mv := fun i => (alook [] i).getD [], head := fun i => (alook [] i).getD ⟨0, 0, []⟩, ord := fun i => (alook [] i).getD [] }
def q91 (a0 : List (List D)) (a1 : Int) (a2 : List UInt8) (a3 : Int) (a4 : Int) (a5 : List (List D)) (a6 : List (List D)) (b : Int)   (R : Int → Prop) : Prop :=
  C Try.prog 118 [.val false [.c (.sl 8 a0)], .val false [.c (.int .i64 b)]] sg118 (fun n => ((decide (n < (0 : Int)) = true → R (-1 : Int)) ∧
  (decide (n < (0 : Int)) = false → C Try.prog 26 [.val true [.c (.int .i64 a1), .c (.str a2), .c (.int .i64 a3), .c (.int .i64 a4), .c (.sl 32 a5), .c (.sl 88 a6)], .val false [.c (.int .i64 n)]] sg26 (fun n1 => ((decide (n1 < (0 : Int)) = true → R (-1 : Int)) ∧
  (decide (n1 < (0 : Int)) = false → R n1))))))
theorem v91 (a0 : List (List D)) (a1 : Int) (a2 : List UInt8) (a3 : Int) (a4 : Int) (a5 : List (List D)) (a6 : List (List D)) (b : Int)  (J : List Item → St → Prop) (R : Int → Prop) : wpt cx91 J (fin Try.prog Try.f91.results.toList sg91 R) 100000 [.code (Try.f91.body.getD .skip)] (initSt [.val true [.c (.sl 8 a0), .c (.int .i64 a1), .c (.str a2), .c (.int .i64 a3), .c (.int .i64 a4), .c (.sl 32 a5), .c (.sl 88 a6)], .val false [.c (.int .i64 b)]] 18) = q91 a0 a1 a2 a3 a4 a5 a6 b   R := by kernel_rfl
theorem r91 (a0 : List (List D)) (a1 : Int) (a2 : List UInt8) (a3 : Int) (a4 : Int) (a5 : List (List D)) (a6 : List (List D)) (b : Int) (R : Int → Prop) 
    (h : DFact (.sl 8 a0) → DFact (.int .i64 a1) → DFact (.str a2) → DFact (.int .i64 a3) → DFact (.int .i64 a4) → DFact (.sl 32 a5) → DFact (.sl 88 a6) → DFact (.int .i64 b) → q91 a0 a1 a2 a3 a4 a5 a6 b  R) :
    C Try.prog 91 [.val true [.c (.sl 8 a0), .c (.int .i64 a1), .c (.str a2), .c (.int .i64 a3), .c (.int .i64 a4), .c (.sl 32 a5), .c (.sl 88 a6)], .val false [.c (.int .i64 b)]] sg91 R :=
  C_rule (cx := cx91) (P := Try.prog) (f := 91) (fn := Try.f91) (c := (Try.f91.body.getD .skip)) (args := [.val true [.c (.sl 8 a0), .c (.int .i64 a1), .c (.str a2), .c (.int .i64 a3), .c (.int .i64 a4), .c (.sl 32 a5), .c (.sl 88 a6)], .val false [.c (.int .i64 b)]]) (sg := sg91) (rv := Try.f91.results.toList) (N := 18) (R := R) (μ := Nat) (lt := (· < ·)) Nat.lt_wfRel.wf (fun m td st => False) (by kernel_rfl) (by kernel_rfl) Try.func91 (by kernel_rfl) (by kernel_rfl) (by kernel_rfl) (by kernel_rfl) (by kernel_rfl)
    (fun _ _ _ h => h.elim)
    (fun hf => by rw [v91]; exact h (hf.sd 0 true [.c (.sl 8 a0), .c (.int .i64 a1), .c (.str a2), .c (.int .i64 a3), .c (.int .i64 a4), .c (.sl 32 a5), .c (.sl 88 a6)] 0 (.sl 8 a0) (by kernel_rfl) (by kernel_rfl)) (hf.sd 0 true [.c (.sl 8 a0), .c (.int .i64 a1), .c (.str a2), .c (.int .i64 a3), .c (.int .i64 a4), .c (.sl 32 a5), .c (.sl 88 a6)] 1 (.int .i64 a1) (by kernel_rfl) (by kernel_rfl)) (hf.sd 0 true [.c (.sl 8 a0), .c (.int .i64 a1), .c (.str a2), .c (.int .i64 a3), .c (.int .i64 a4), .c (.sl 32 a5), .c (.sl 88 a6)] 2 (.str a2) (by kernel_rfl) (by kernel_rfl)) (hf.sd 0 true [.c (.sl 8 a0), .c (.int .i64 a1), .c (.str a2), .c (.int .i64 a3), .c (.int .i64 a4), .c (.sl 32 a5), .c (.sl 88 a6)] 3 (.int .i64 a3) (by kernel_rfl) (by kernel_rfl)) (hf.sd 0 true [.c (.sl 8 a0), .c (.int .i64 a1), .c (.str a2), .c (.int .i64 a3), .c (.int .i64 a4), .c (.sl 32 a5), .c (.sl 88 a6)] 4 (.int .i64 a4) (by kernel_rfl) (by kernel_rfl)) (hf.sd 0 true [.c (.sl 8 a0), .c (.int .i64 a1), .c (.str a2), .c (.int .i64 a3), .c (.int .i64 a4), .c (.sl 32 a5), .c (.sl 88 a6)] 5 (.sl 32 a5) (by kernel_rfl) (by kernel_rfl)) (hf.sd 0 true [.c (.sl 8 a0), .c (.int .i64 a1), .c (.str a2), .c (.int .i64 a3), .c (.int .i64 a4), .c (.sl 32 a5), .c (.sl 88 a6)] 6 (.sl 88 a6) (by kernel_rfl) (by kernel_rfl)) (hf.sd 1 false [.c (.int .i64 b)] 0 (.int .i64 b) (by kernel_rfl) (by kernel_rfl)) )

@[irreducible] def F91 (a : Ch) (b : Int) : Int := (if (decide ((F118 a.p b) < (0 : Int))) = true then (-1 : Int) else (if (decide ((F26 a.e (F118 a.p b)) < (0 : Int))) = true then (-1 : Int) else (F26 a.e (F118 a.p b))))
theorem c91 (a : Ch) (b : Int) (RES : Int) (hr : F91 a b = RES) :
    C Try.prog 91 [.val true [.c (.sl 8 (List.map I.row a.p)), .c (.int .i64 a.e.k), .c (.str a.e.nm), .c (.int .i64 a.e.n), .c (.int .i64 a.e.t.k), .c (.sl 32 (List.map Ty.row a.e.t.ar)), .c (.sl 88 (List.map Ex.row a.e.ar))], .val false [.c (.int .i64 b)]] sg91 (fun r0 => r0 = RES) := by
  refine r91 (List.map I.row a.p) a.e.k a.e.nm a.e.n a.e.t.k (List.map Ty.row a.e.t.ar) (List.map Ex.row a.e.ar) b _  ?_
  · intro ef0 ef1 ef2 ef3 ef4 ef5 ef6 ef7
    unfold q91
    rw [F91] at hr
    refine (c118 a.p b _ rfl).imp ?_
    rintro r4_0 er4_0
    obtain rfl := er4_0.symm
    refine ⟨fun hb1 => ?_, fun hb1 => ?_⟩
    · rw [if_pos hb1] at hr
      obtain rfl := hr
      exact by first | rfl | trivial | simp [Ty.row_eq, Ex.row_eq, I.row_eq, S.row_eq, Il.row_eq, Cf.row_eq, Ch.row_eq]
    · rw [if_neg (by rw [hb1]; decide)] at hr
      refine (c26 a.e (F118 a.p b) _ rfl).imp ?_
      rintro r3_0 er3_0
      obtain rfl := er3_0.symm
      refine ⟨fun hb2 => ?_, fun hb2 => ?_⟩
      · rw [if_pos hb2] at hr
        obtain rfl := hr
        exact by first | rfl | trivial | simp [Ty.row_eq, Ex.row_eq, I.row_eq, S.row_eq, Il.row_eq, Cf.row_eq, Ch.row_eq]
      · rw [if_neg (by rw [hb2]; decide)] at hr
        obtain rfl := hr
        exact by first | rfl | trivial | simp [Ty.row_eq, Ex.row_eq, I.row_eq, S.row_eq, Il.row_eq, Cf.row_eq, Ch.row_eq]

noncomputable def cx41 : Cx := { P := Try.prog, sg := fun i => (alook [(91, sg91), (41, sg41)] i).getD ⟨[], []⟩, mv := fun i => (alook [] i).getD [], head := fun i => (alook [(5, ⟨3000, 3, [⟨0, [some (114, 7, 112)]⟩, ⟨1, [none]⟩, ⟨5, [none]⟩]⟩)] i).getD ⟨0, 0, []⟩, ord := fun i => (alook [] i).getD [] }
noncomputable def st41_5 (a : List (List D)) (b : Int) (n5 : Int) (n1 : Int) : St := (St.of [(5, .v false [.c (.int .i64 n5)]), (1, .v false [.c (.int .i64 n1)]), (0, .v false [.c (.sl 112 a)])] [] [] 3064 27)
def q41 (a : List (List D)) (b : Int)  (J5 : Int → Int → Prop) (R : Int → Prop) : Prop :=
  ((decide (IntKind.wrap IntKind.i64 (b - (↑(List.length a) : Int)) < (0 : Int)) = true → R (-1 : Int)) ∧
  (decide (IntKind.wrap IntKind.i64 (b - (↑(List.length a) : Int)) < (0 : Int)) = false → J5 (0 : Int) (IntKind.wrap IntKind.i64 (b - (↑(List.length a) : Int)))))
theorem v41 (a : List (List D)) (b : Int)  (J : List Item → St → Prop) (R : Int → Prop) : wpt cx41 J (fin Try.prog Try.f41.results.toList sg41 R) 100000 [.code (Try.f41.body.getD .skip)] (initSt [.val false [.c (.sl 112 a)], .val false [.c (.int .i64 b)]] 27) = q41 a b  (fun n5 n1 => J (td (Try.f41.body.getD .skip) 5) (st41_5 a b n5 n1)) R := by kernel_rfl
def q41_5 (a : List (List D)) (b : Int) (n5 : Int) (n1 : Int) (J5 : Int → Int → Prop) (R : Int → Prop) : Prop :=
  ((decide (n5 < (↑(List.length a) : Int)) = true → (((0 : Int) ≤ n5 ∧ n5 < (↑(List.length a) : Int) ∧ List.length (List.getD a (Int.toNat n5) []) = (7 : Nat)) ∧
  (∃ xs, (∃ n, (∃ s, (∃ n2, (∃ n3, (∃ xs1, (∃ xs2, ((List.take (7 : Nat) (List.drop (0 : Nat) (List.getD a (Int.toNat n5) [])) = [D.sl (8 : Nat) xs, D.int IntKind.i64 n, D.str s, D.int IntKind.i64 n2, D.int IntKind.i64 n3, D.sl (32 : Nat) xs1, D.sl (88 : Nat) xs2]) ∧
  C Try.prog 91 [.val true [.c (.sl 8 xs), .c (.int .i64 n), .c (.str s), .c (.int .i64 n2), .c (.int .i64 n3), .c (.sl 32 xs1), .c (.sl 88 xs2)], .val false [.c (.int .i64 n1)]] sg91 (fun n4 => ((decide (n4 < (0 : Int)) = true → R (-1 : Int)) ∧
  (decide (n4 < (0 : Int)) = false → J5 (IntKind.wrap IntKind.i64 (n5 + (1 : Int))) n4))))))))))))) ∧
  (decide (n5 < (↑(List.length a) : Int)) = false → R n1))
theorem v41_5 (a : List (List D)) (b : Int) (n5 : Int) (n1 : Int) (J : List Item → St → Prop) (R : Int → Prop) : wpt cx41 J (fin Try.prog Try.f41.results.toList sg41 R) 100000 (td (Try.f41.body.getD .skip) 5) (st41_5 a b n5 n1) = q41_5 a b n5 n1 (fun n5 n1 => J (td (Try.f41.body.getD .skip) 5) (st41_5 a b n5 n1)) R := by kernel_rfl
theorem r41 (a : List (List D)) (b : Int) (R : Int → Prop) (I5 : Nat → Int → Int → Prop)
    (h : DFact (.sl 112 a) → DFact (.int .i64 b) → ∀ (J5 : Int → Int → Prop), (∀ m n5' n1', I5 m n5' n1' → J5 n5' n1') → q41 a b J5 R)
    (h5 : ∀ x (n5 : Int) (n1 : Int), I5 x n5 n1 → DFact (.sl 112 a) → ∀ (J5 : Int → Int → Prop), (∀ m n5' n1', m < x → I5 m n5' n1' → J5 n5' n1') → q41_5 a b n5 n1 J5 R) :
    C Try.prog 41 [.val false [.c (.sl 112 a)], .val false [.c (.int .i64 b)]] sg41 R :=
  C_rule (cx := cx41) (P := Try.prog) (f := 41) (fn := Try.f41) (c := (Try.f41.body.getD .skip)) (args := [.val false [.c (.sl 112 a)], .val false [.c (.int .i64 b)]]) (sg := sg41) (rv := Try.f41.results.toList) (N := 27) (R := R) (μ := Nat) (lt := (· < ·)) Nat.lt_wfRel.wf (fun m td st => (∃ (n5 : Int) (n1 : Int), td = _root_.Go.Gl.td (Try.f41.body.getD .skip) 5 ∧ st = st41_5 a b n5 n1 ∧ I5 m n5 n1)) (by kernel_rfl) (by kernel_rfl) Try.func41 (by kernel_rfl) (by kernel_rfl) (by kernel_rfl) (by kernel_rfl) (by kernel_rfl)
    (fun x td st h hf => by
      obtain ⟨n5, n1, rfl, rfl, hi⟩ := h
      rw [v41_5]
      exact h5 x n5 n1 hi (hf.sd 0 false [.c (.sl 112 a)] 0 (.sl 112 a) (by kernel_rfl) (by kernel_rfl)) _ (fun m n5 n1 hm hi => ⟨m, hm, ⟨n5, n1, rfl, rfl, hi⟩⟩))
    (fun hf => by rw [v41]; exact h (hf.sd 0 false [.c (.sl 112 a)] 0 (.sl 112 a) (by kernel_rfl) (by kernel_rfl)) (hf.sd 1 false [.c (.int .i64 b)] 0 (.int .i64 b) (by kernel_rfl) (by kernel_rfl)) _ (fun m n5 n1 hi => ⟨m, ⟨n5, n1, rfl, rfl, hi⟩⟩))

def F41_5  : (List Ch) → Int → Int
  | [], n1 => n1
  | x :: post, n1 => (if (decide ((F91 x n1) < (0 : Int))) = true then (-1 : Int) else (F41_5 post (F91 x n1)))
@[irreducible] def F41 (a : List Ch) (b : Int) : Int := (if (decide (IntKind.wrap IntKind.i64 (b - (↑(List.length (List.map Ch.row a)) : Int)) < (0 : Int))) = true then (-1 : Int) else (F41_5 a (IntKind.wrap IntKind.i64 (b - (↑(List.length (List.map Ch.row a)) : Int)))))
theorem c41 (a : List Ch) (b : Int) (RES : Int) (hr : F41 a b = RES) :
    C Try.prog 41 [.val false [.c (.sl 112 (List.map Ch.row a))], .val false [.c (.int .i64 b)]] sg41 (fun r0 => r0 = RES) := by
  refine r41 (List.map Ch.row a) b _ (fun m i n1 => ∃ pre post, a = pre ++ post ∧ m = post.length ∧ i = (pre.length : Int) ∧ F41_5 post n1 = RES) ?_ ?_
  · intro ef0 ef1 J5 hJ5
    unfold q41
    rw [F41] at hr
    refine ⟨fun hb3 => ?_, fun hb3 => ?_⟩
    · rw [if_pos hb3] at hr
      obtain rfl := hr
      exact by first | rfl | trivial | simp [Ty.row_eq, Ex.row_eq, I.row_eq, S.row_eq, Il.row_eq, Cf.row_eq, Ch.row_eq]
    · rw [if_neg (by rw [hb3]; decide)] at hr
      exact hJ5 a.length _ _ ⟨[], a, rfl, rfl, rfl, hr⟩
  · rintro m i n1 ⟨pre, post, hL, rfl, hi, hr⟩ sf0 J5 hJ5
    have hf := fact_sl sf0
    simp only [List.length_map] at hf
    have hlen : a.length = pre.length + post.length := by rw [hL, List.length_append]
    unfold q41_5
    cases post with
    | nil =>
      simp only [List.length_nil] at hlen
      rw [F41_5] at hr
      refine ⟨fun h => absurd h (by simp only [decide_eq_true_eq, List.length_map]; omega), fun _ => ?_⟩
      obtain rfl := hr
      exact by first | rfl | trivial | simp [Ty.row_eq, Ex.row_eq, I.row_eq, S.row_eq, Il.row_eq, Cf.row_eq, Ch.row_eq]
    | cons x post =>
      simp only [List.length_cons] at hlen
      rw [F41_5] at hr
      have hrow : List.getD (List.map Ch.row a) (Int.toNat i) [] = Ch.row x := by rw [hL, hi, Int.toNat_natCast, getD_mid]
      refine ⟨fun _ => ?_, fun h => absurd h (by simp only [decide_eq_false_iff_not, List.length_map]; omega)⟩
      refine ⟨⟨by omega, by simp only [List.length_map]; omega, by rw [hrow, Ch.row_eq]; rfl⟩, ?_⟩
      refine ⟨(List.map I.row x.p), x.e.k, x.e.nm, x.e.n, x.e.t.k, (List.map Ty.row x.e.t.ar), (List.map Ex.row x.e.ar), by rw [hrow, Ch.row_eq]; rfl, ?_⟩
      refine (c91 x n1 _ rfl).imp ?_
      rintro r2_0 er2_0
      obtain rfl := er2_0.symm
      refine ⟨fun hb1 => ?_, fun hb1 => ?_⟩
      · rw [if_pos hb1] at hr
        obtain rfl := hr
        exact by first | rfl | trivial | (simp only [hrow]; simp [Ty.row_eq, Ex.row_eq, I.row_eq, S.row_eq, Il.row_eq, Cf.row_eq, Ch.row_eq]; done) | simp [Ty.row_eq, Ex.row_eq, I.row_eq, S.row_eq, Il.row_eq, Cf.row_eq, Ch.row_eq]
      · rw [if_neg (by rw [hb1]; decide)] at hr
        exact hJ5 post.length _ _ (by simp) ⟨pre ++ [x], post, by simp [hL], rfl, by rw [wrap_id (by omega) (by omega), hi]; simp, hr⟩

noncomputable def cx93 : Cx := { P := Try.prog, sg := fun i => (alook [(18, sg18), (28, sg28), (93, sg93)] i).getD ⟨[], []⟩, mv := fun i => (alook [] i).getD [], head := fun i => (alook [] i).getD ⟨0, 0, []⟩, ord := fun i => (alook [] i).getD [] }
def q93 (a0 : List (List D)) (a1 : Int) (a2 : List UInt8) (a3 : Int) (a4 : Int) (a5 : List (List D)) (a6 : List (List D))   (R : (List (List D)) → Int → (List UInt8) → Int → Int → (List (List D)) → (List (List D)) → Prop) : Prop :=
  C Try.prog 18 [.val false [.c (.sl 8 a0)]] sg18 (fun xs => C Try.prog 28 [.val true [.c (.int .i64 a1), .c (.str a2), .c (.int .i64 a3), .c (.int .i64 a4), .c (.sl 32 a5), .c (.sl 88 a6)]] sg28 (fun n => (fun s => (fun n1 => (fun n2 => (fun xs1 => (fun xs2 => R xs n s n1 n2 xs1 xs2)))))))
theorem v93 (a0 : List (List D)) (a1 : Int) (a2 : List UInt8) (a3 : Int) (a4 : Int) (a5 : List (List D)) (a6 : List (List D))  (J : List Item → St → Prop) (R : (List (List D)) → Int → (List UInt8) → Int → Int → (List (List D)) → (List (List D)) → Prop) : wpt cx93 J (fin Try.prog Try.f93.results.toList sg93 R) 100000 [.code (Try.f93.body.getD .skip)] (initSt [.val true [.c (.sl 8 a0), .c (.int .i64 a1), .c (.str a2), .c (.int .i64 a3), .c (.int .i64 a4), .c (.sl 32 a5), .c (.sl 88 a6)]] 13) = q93 a0 a1 a2 a3 a4 a5 a6   R := by kernel_rfl
theorem r93 (a0 : List (List D)) (a1 : Int) (a2 : List UInt8) (a3 : Int) (a4 : Int) (a5 : List (List D)) (a6 : List (List D)) (R : (List (List D)) → Int → (List UInt8) → Int → Int → (List (List D)) → (List (List D)) → Prop) 
    (h : DFact (.sl 8 a0) → DFact (.int .i64 a1) → DFact (.str a2) → DFact (.int .i64 a3) → DFact (.int .i64 a4) → DFact (.sl 32 a5) → DFact (.sl 88 a6) → q93 a0 a1 a2 a3 a4 a5 a6  R) :
    C Try.prog 93 [.val true [.c (.sl 8 a0), .c (.int .i64 a1), .c (.str a2), .c (.int .i64 a3), .c (.int .i64 a4), .c (.sl 32 a5), .c (.sl 88 a6)]] sg93 R :=
  C_rule (cx := cx93) (P := Try.prog) (f := 93) (fn := Try.f93) (c := (Try.f93.body.getD .skip)) (args := [.val true [.c (.sl 8 a0), .c (.int .i64 a1), .c (.str a2), .c (.int .i64 a3), .c (.int .i64 a4), .c (.sl 32 a5), .c (.sl 88 a6)]]) (sg := sg93) (rv := Try.f93.results.toList) (N := 13) (R := R) (μ := Nat) (lt := (· < ·)) Nat.lt_wfRel.wf (fun m td st => False) (by kernel_rfl) (by kernel_rfl) Try.func93 (by kernel_rfl) (by kernel_rfl) (by kernel_rfl) (by kernel_rfl) (by kernel_rfl)
    (fun _ _ _ h => h.elim)
    (fun hf => by rw [v93]; exact h (hf.sd 0 true [.c (.sl 8 a0), .c (.int .i64 a1), .c (.str a2), .c (.int .i64 a3), .c (.int .i64 a4), .c (.sl 32 a5), .c (.sl 88 a6)] 0 (.sl 8 a0) (by kernel_rfl) (by kernel_rfl)) (hf.sd 0 true [.c (.sl 8 a0), .c (.int .i64 a1), .c (.str a2), .c (.int .i64 a3), .c (.int .i64 a4), .c (.sl 32 a5), .c (.sl 88 a6)] 1 (.int .i64 a1) (by kernel_rfl) (by kernel_rfl)) (hf.sd 0 true [.c (.sl 8 a0), .c (.int .i64 a1), .c (.str a2), .c (.int .i64 a3), .c (.int .i64 a4), .c (.sl 32 a5), .c (.sl 88 a6)] 2 (.str a2) (by kernel_rfl) (by kernel_rfl)) (hf.sd 0 true [.c (.sl 8 a0), .c (.int .i64 a1), .c (.str a2), .c (.int .i64 a3), .c (.int .i64 a4), .c (.sl 32 a5), .c (.sl 88 a6)] 3 (.int .i64 a3) (by kernel_rfl) (by kernel_rfl)) (hf.sd 0 true [.c (.sl 8 a0), .c (.int .i64 a1), .c (.str a2), .c (.int .i64 a3), .c (.int .i64 a4), .c (.sl 32 a5), .c (.sl 88 a6)] 4 (.int .i64 a4) (by kernel_rfl) (by kernel_rfl)) (hf.sd 0 true [.c (.sl 8 a0), .c (.int .i64 a1), .c (.str a2), .c (.int .i64 a3), .c (.int .i64 a4), .c (.sl 32 a5), .c (.sl 88 a6)] 5 (.sl 32 a5) (by kernel_rfl) (by kernel_rfl)) (hf.sd 0 true [.c (.sl 8 a0), .c (.int .i64 a1), .c (.str a2), .c (.int .i64 a3), .c (.int .i64 a4), .c (.sl 32 a5), .c (.sl 88 a6)] 6 (.sl 88 a6) (by kernel_rfl) (by kernel_rfl)) )

@[irreducible] def F93 (a : Ch) : Ch := (Ch.mk (F18 a.p) (Ex.mk ((F28 a.e).k) ((F28 a.e).nm) ((F28 a.e).n) (Ty.mk ((F28 a.e).t.k) ((F28 a.e).t.ar)) ((F28 a.e).ar)))
theorem c93 (a : Ch) (RES : Ch) (hr : F93 a = RES) :
    C Try.prog 93 [.val true [.c (.sl 8 (List.map I.row a.p)), .c (.int .i64 a.e.k), .c (.str a.e.nm), .c (.int .i64 a.e.n), .c (.int .i64 a.e.t.k), .c (.sl 32 (List.map Ty.row a.e.t.ar)), .c (.sl 88 (List.map Ex.row a.e.ar))]] sg93 (fun r0 r1 r2 r3 r4 r5 r6 => r0 = (List.map I.row RES.p) ∧ r1 = RES.e.k ∧ r2 = RES.e.nm ∧ r3 = RES.e.n ∧ r4 = RES.e.t.k ∧ r5 = (List.map Ty.row RES.e.t.ar) ∧ r6 = (List.map Ex.row RES.e.ar)) := by
  refine r93 (List.map I.row a.p) a.e.k a.e.nm a.e.n a.e.t.k (List.map Ty.row a.e.t.ar) (List.map Ex.row a.e.ar) _  ?_
  · intro ef0 ef1 ef2 ef3 ef4 ef5 ef6
    unfold q93
    rw [F93] at hr
    refine (c18 a.p _ rfl).imp ?_
    rintro r2_0 er2_0
    obtain rfl := er2_0.symm
    refine (c28 a.e _ rfl).imp ?_
    rintro r1_0 r1_1 r1_2 r1_3 r1_4 r1_5 ⟨er1_0, er1_1, er1_2, er1_3, er1_4, er1_5⟩
    obtain rfl := er1_0.symm
    obtain rfl := er1_1.symm
    obtain rfl := er1_2.symm
    obtain rfl := er1_3.symm
    obtain rfl := er1_4.symm
    obtain rfl := er1_5.symm
    obtain rfl := hr
    exact ⟨by first | rfl | trivial | simp [Ty.row_eq, Ex.row_eq, I.row_eq, S.row_eq, Il.row_eq, Cf.row_eq, Ch.row_eq], by first | rfl | trivial | simp [Ty.row_eq, Ex.row_eq, I.row_eq, S.row_eq, Il.row_eq, Cf.row_eq, Ch.row_eq], by first | rfl | trivial | simp [Ty.row_eq, Ex.row_eq, I.row_eq, S.row_eq, Il.row_eq, Cf.row_eq, Ch.row_eq], by first | rfl | trivial | simp [Ty.row_eq, Ex.row_eq, I.row_eq, S.row_eq, Il.row_eq, Cf.row_eq, Ch.row_eq], by first | rfl | trivial | simp [Ty.row_eq, Ex.row_eq, I.row_eq, S.row_eq, Il.row_eq, Cf.row_eq, Ch.row_eq], by first | rfl | trivial | simp [Ty.row_eq, Ex.row_eq, I.row_eq, S.row_eq, Il.row_eq, Cf.row_eq, Ch.row_eq], by first | rfl | trivial | simp [Ty.row_eq, Ex.row_eq, I.row_eq, S.row_eq, Il.row_eq, Cf.row_eq, Ch.row_eq]⟩

noncomputable def cx43 : Cx := { P := Try.prog, sg := fun i => (alook [(93, sg93), (43, sg43)] i).getD ⟨[], []⟩, mv := fun i => (alook [] i).getD [], head := fun i => (alook [(3, ⟨3000, 3, [⟨0, [some (114, 7, 112)]⟩, ⟨3, [some (116, 7, 112)]⟩, ⟨4, [none]⟩]⟩)] i).getD ⟨0, 0, []⟩, ord := fun i => (alook [] i).getD [] }
noncomputable def st43_3 (a : List (List D)) (n4 : Int) (x3000 : List (List D)) : St := (St.of [(4, .v false [.c (.int .i64 n4)]), (3, .v false [.tk 3000]), (0, .v false [.c (.sl 112 a)])] [] [(3000, ⟨3, 116, 7, 112, x3000⟩)] 3064 23)
def q43 (a : List (List D))  (J3 : Int → (List (List D)) → Prop) (R : (List (List D)) → Prop) : Prop :=
  (((0 : Int) ≤ (↑(List.length a) : Int) ∧ (↑(List.length a) : Int) = (↑(List.length a) : Int) ∧ (↑(List.length a) : Int) * (↑(112 : Nat) : Int) ≤ (↑capB : Int)) ∧
  J3 (0 : Int) (List.replicate (Int.toNat (↑(List.length a) : Int)) (List.map CK.zeroD ([CK.sl (3 : Nat) (1 : Nat) (8 : Nat)] ++ ([CK.int IntKind.i64] ++ ([CK.str] ++ ([CK.int IntKind.i64] ++ ([CK.int IntKind.i64] ++ ([CK.sl (45 : Nat) (2 : Nat) (32 : Nat)] ++ []) ++ ([CK.sl (48 : Nat) (6 : Nat) (88 : Nat)] ++ [])))) ++ [])))))
theorem v43 (a : List (List D))  (J : List Item → St → Prop) (R : (List (List D)) → Prop) : wpt cx43 J (fin Try.prog Try.f43.results.toList sg43 R) 100000 [.code (Try.f43.body.getD .skip)] (initSt [.val false [.c (.sl 112 a)]] 23) = q43 a  (fun n4 x3000 => J (td (Try.f43.body.getD .skip) 3) (st43_3 a n4 x3000)) R := by kernel_rfl
def q43_3 (a : List (List D)) (n4 : Int) (x3000 : List (List D)) (J3 : Int → (List (List D)) → Prop) (R : (List (List D)) → Prop) : Prop :=
  ((decide (n4 < (↑(List.length a) : Int)) = true → (((0 : Int) ≤ n4 ∧ n4 < (↑(List.length a) : Int) ∧ List.length (List.getD a (Int.toNat n4) []) = (7 : Nat)) ∧
  (∃ xs, (∃ n, (∃ s, (∃ n1, (∃ n2, (∃ xs1, (∃ xs2, ((List.take (7 : Nat) (List.drop (0 : Nat) (List.getD a (Int.toNat n4) [])) = [D.sl (8 : Nat) xs, D.int IntKind.i64 n, D.str s, D.int IntKind.i64 n1, D.int IntKind.i64 n2, D.sl (32 : Nat) xs1, D.sl (88 : Nat) xs2]) ∧
  C Try.prog 93 [.val true [.c (.sl 8 xs), .c (.int .i64 n), .c (.str s), .c (.int .i64 n1), .c (.int .i64 n2), .c (.sl 32 xs1), .c (.sl 88 xs2)]] sg93 (fun xs3 => (fun n3 => (fun s1 => (fun n5 => (fun n6 => (fun xs4 => (fun xs5 => (((0 : Int) ≤ n4 ∧ n4 < (↑(List.length x3000) : Int)) ∧
  (((7 : Nat) ≤ List.length (List.getD x3000 (Int.toNat n4) [])) ∧
  J3 (IntKind.wrap IntKind.i64 (n4 + (1 : Int))) (List.set x3000 (Int.toNat n4) (List.take (0 : Nat) (List.getD x3000 (Int.toNat n4) []) ++ [D.sl (8 : Nat) xs3, D.int IntKind.i64 n3, D.str s1, D.int IntKind.i64 n5, D.int IntKind.i64 n6, D.sl (32 : Nat) xs4, D.sl (88 : Nat) xs5] ++ List.drop (7 : Nat) (List.getD x3000 (Int.toNat n4) [])))))))))))))))))))))) ∧
  (decide (n4 < (↑(List.length a) : Int)) = false → R x3000))
theorem v43_3 (a : List (List D)) (n4 : Int) (x3000 : List (List D)) (J : List Item → St → Prop) (R : (List (List D)) → Prop) : wpt cx43 J (fin Try.prog Try.f43.results.toList sg43 R) 100000 (td (Try.f43.body.getD .skip) 3) (st43_3 a n4 x3000) = q43_3 a n4 x3000 (fun n4 x3000 => J (td (Try.f43.body.getD .skip) 3) (st43_3 a n4 x3000)) R := by kernel_rfl
theorem r43 (a : List (List D)) (R : (List (List D)) → Prop) (I3 : Nat → Int → (List (List D)) → Prop)
    (h : DFact (.sl 112 a) → ∀ (J3 : Int → (List (List D)) → Prop), (∀ m n4' x3000', I3 m n4' x3000' → J3 n4' x3000') → q43 a J3 R)
    (h3 : ∀ x (n4 : Int) (x3000 : List (List D)), I3 x n4 x3000 → DFact (.sl 112 a) → DFact (.sl 112 x3000) → ∀ (J3 : Int → (List (List D)) → Prop), (∀ m n4' x3000', m < x → I3 m n4' x3000' → J3 n4' x3000') → q43_3 a n4 x3000 J3 R) :
    C Try.prog 43 [.val false [.c (.sl 112 a)]] sg43 R :=
  C_rule (cx := cx43) (P := Try.prog) (f := 43) (fn := Try.f43) (c := (Try.f43.body.getD .skip)) (args := [.val false [.c (.sl 112 a)]]) (sg := sg43) (rv := Try.f43.results.toList) (N := 23) (R := R) (μ := Nat) (lt := (· < ·)) Nat.lt_wfRel.wf (fun m td st => (∃ (n4 : Int) (x3000 : List (List D)), td = _root_.Go.Gl.td (Try.f43.body.getD .skip) 3 ∧ st = st43_3 a n4 x3000 ∧ I3 m n4 x3000)) (by kernel_rfl) (by kernel_rfl) Try.func43 (by kernel_rfl) (by kernel_rfl) (by kernel_rfl) (by kernel_rfl) (by kernel_rfl)
    (fun x td st h hf => by
      obtain ⟨n4, x3000, rfl, rfl, hi⟩ := h
      rw [v43_3]
      exact h3 x n4 x3000 hi (hf.sd 0 false [.c (.sl 112 a)] 0 (.sl 112 a) (by kernel_rfl) (by kernel_rfl)) (hf.td 3000 3 116 7 112 x3000 (by kernel_rfl)) _ (fun m n4 x3000 hm hi => ⟨m, hm, ⟨n4, x3000, rfl, rfl, hi⟩⟩))
    (fun hf => by rw [v43]; exact h (hf.sd 0 false [.c (.sl 112 a)] 0 (.sl 112 a) (by kernel_rfl) (by kernel_rfl)) _ (fun m n4 x3000 hi => ⟨m, ⟨n4, x3000, rfl, rfl, hi⟩⟩))

theorem F93_eq (x : Ch) : F93 x = x := by
  rw [F93]; simp only [F18_eq, F28_eq]
  obtain ⟨p, e⟩ := x
  cases e with
  | mk k nm n t ar => cases t; rfl
theorem d93 (x : Ch) : C Try.prog 93 [.val true [.c (.sl 8 (x.p.map I.row)), .c (.int .i64 x.e.k), .c (.str x.e.nm), .c (.int .i64 x.e.n), .c (.int .i64 x.e.t.k), .c (.sl 32 (x.e.t.ar.map Ty.row)), .c (.sl 88 (x.e.ar.map Ex.row))]] sg93 (fun r0 r1 r2 r3 r4 r5 r6 => r0 = (x.p.map I.row) ∧ r1 = x.e.k ∧ r2 = x.e.nm ∧ r3 = x.e.n ∧ r4 = x.e.t.k ∧ r5 = (x.e.t.ar.map Ty.row) ∧ r6 = (x.e.ar.map Ex.row)) := c93 x x (F93_eq x)
theorem d43 (xs : List Ch) :
    C Try.prog 43 [.val false [.c (.sl 112 (xs.map Ch.row))]] sg43 (fun l => l = xs.map Ch.row) := by
  refine r43 _ _ (fun m i l => ∃ pre post, xs = pre ++ post ∧ m = post.length ∧ i = pre.length ∧ l = pre.map Ch.row ++ List.replicate post.length [.sl 8 [], .int .i64 0, .str [], .int .i64 0, .int .i64 0, .sl 32 [], .sl 88 []]) ?_ ?_
  · intro f1 J hJ
    have f1 := fact_sl f1
    simp only [q43, List.length_map, capB] at f1 ⊢
    exact ⟨⟨by omega, trivial, by omega⟩, hJ xs.length _ _ ⟨[], xs, rfl, rfl, rfl, by rw [Int.toNat_natCast]; rfl⟩⟩
  · rintro m i l ⟨pre, post, rfl, rfl, rfl, rfl⟩ f1 _ J hJ
    have f1 := fact_sl f1
    simp only [q43_3, List.length_map, List.length_append, decide_eq_true_eq, decide_eq_false_iff_not] at f1 ⊢
    cases post with
    | nil => exact ⟨fun h => absurd h (by simp), fun _ => by simp⟩
    | cons x post =>
      simp only [List.length_cons, List.length_replicate] at f1 ⊢
      refine ⟨fun _ => ⟨⟨by omega, by omega, by rw [Int.toNat_natCast, getD_mid, Ch.row_eq]; rfl⟩, (x.p.map I.row), x.e.k, x.e.nm, x.e.n, x.e.t.k, (x.e.t.ar.map Ty.row), (x.e.ar.map Ex.row), by rw [Int.toNat_natCast, getD_mid, Ch.row_eq]; rfl, ((d93 x)).imp ?_⟩, fun h => absurd h (by omega)⟩
      rintro r0 r1 r2 r3 r4 r5 r6 ⟨rfl, rfl, rfl, rfl, rfl, rfl, rfl⟩
      refine ⟨⟨by omega, by omega⟩, by rw [Int.toNat_natCast, getD_rep]; simp, ?_⟩
      rw [wrap_id (by omega) (by omega)]
      refine hJ post.length _ _ (by simp) ⟨pre ++ [x], post, by simp, rfl, by simp, ?_⟩
      rw [Int.toNat_natCast, getD_rep, set_rep, List.map_append, List.map_cons, Ch.row_eq]; simp
def F43 (a : List Ch) : List Ch := a
theorem F43_eq (a : List Ch) : F43 a = a := rfl
theorem c43 (a : List Ch) (RES : List Ch) (hr : F43 a = RES) :
    C Try.prog 43 [.val false [.c (.sl 112 (a.map Ch.row))]] sg43 (fun r0 => r0 = RES.map Ch.row) := by
  subst hr
  exact d43 a
attribute [irreducible] F43

noncomputable def cx138 : Cx := { P := Try.prog, sg := fun i => (alook [(138, sg138)] i).getD ⟨[], []⟩, mv := fun i => (alook [] i).getD [], head := fun i => (alook [(4, ⟨3000, 3, [⟨2, [none, some (45, 2, 32)]⟩, ⟨3, [none, some (45, 2, 32)]⟩, ⟨5, [none]⟩]⟩)] i).getD ⟨0, 0, []⟩, ord := fun i => (alook [(6, [0, 1, 2, 3, 4, 5, 6, 7, 8, 9, 10, 11])] i).getD [] }
noncomputable def st138_4 (a0 : Int) (a1 : List (List D)) (b0 : Int) (b1 : List (List D)) (n5 : Int) : St := (St.of [(5, .v false [.c (.int .i64 n5)]), (3, .lp 1016 0), (2, .lp 1000 0)] [(1016, [.c (.int .i64 b0), .c (.sl 32 b1)]), (1000, [.c (.int .i64 a0), .c (.sl 32 a1)])] [] 3064 39)
def q138 (a0 : Int) (a1 : List (List D)) (b0 : Int) (b1 : List (List D))  (J4 : Int → Prop) (R : Bool → Prop) : Prop :=
  (((a0 != b0) = true → ((true = true → R false) ∧
  (true = false → J4 (0 : Int)))) ∧
  ((a0 != b0) = false → ((((↑(List.length a1) : Int) != (↑(List.length b1) : Int)) = true → R false) ∧
  (((↑(List.length a1) : Int) != (↑(List.length b1) : Int)) = false → J4 (0 : Int)))))
theorem v138 (a0 : Int) (a1 : List (List D)) (b0 : Int) (b1 : List (List D))  (J : List Item → St → Prop) (R : Bool → Prop) : wpt cx138 J (fin Try.prog Try.f138.results.toList sg138 R) 100000 [.code (Try.f138.body.getD .skip)] (initSt [.val true [.c (.int .i64 a0), .c (.sl 32 a1)], .val true [.c (.int .i64 b0), .c (.sl 32 b1)]] 39) = q138 a0 a1 b0 b1  (fun n5 => J (td (Try.f138.body.getD .skip) 4) (st138_4 a0 a1 b0 b1 n5)) R := by kernel_rfl
def q138_4 (a0 : Int) (a1 : List (List D)) (b0 : Int) (b1 : List (List D)) (n5 : Int) (J4 : Int → Prop) (R : Bool → Prop) : Prop :=
  ((decide (n5 < (↑(List.length a1) : Int)) = true → (((0 : Int) ≤ n5 ∧ n5 < (↑(List.length a1) : Int) ∧ List.length (List.getD a1 (Int.toNat n5) []) = (2 : Nat)) ∧
  (∃ n, (∃ xs, ((List.take (2 : Nat) (List.drop (0 : Nat) (List.getD a1 (Int.toNat n5) [])) = [D.int IntKind.i64 n, D.sl (32 : Nat) xs]) ∧
  (((0 : Int) ≤ n5 ∧ n5 < (↑(List.length b1) : Int) ∧ List.length (List.getD b1 (Int.toNat n5) []) = (2 : Nat)) ∧
  (∃ n1, (∃ xs1, ((List.take (2 : Nat) (List.drop (0 : Nat) (List.getD b1 (Int.toNat n5) [])) = [D.int IntKind.i64 n1, D.sl (32 : Nat) xs1]) ∧
  C Try.prog 138 [.val true [.c (.int .i64 n), .c (.sl 32 xs)], .val true [.c (.int .i64 n1), .c (.sl 32 xs1)]] sg138 (fun b => (((!b) = true → R false) ∧
  ((!b) = false → J4 (IntKind.wrap IntKind.i64 (n5 + (1 : Int))))))))))))))) ∧
  (decide (n5 < (↑(List.length a1) : Int)) = false → R true))
theorem v138_4 (a0 : Int) (a1 : List (List D)) (b0 : Int) (b1 : List (List D)) (n5 : Int) (J : List Item → St → Prop) (R : Bool → Prop) : wpt cx138 J (fin Try.prog Try.f138.results.toList sg138 R) 100000 (td (Try.f138.body.getD .skip) 4) (st138_4 a0 a1 b0 b1 n5) = q138_4 a0 a1 b0 b1 n5 (fun n5 => J (td (Try.f138.body.getD .skip) 4) (st138_4 a0 a1 b0 b1 n5)) R := by kernel_rfl
theorem r138 (a0 : Int) (a1 : List (List D)) (b0 : Int) (b1 : List (List D)) (R : Bool → Prop) (I4 : Nat → Int → Prop)
    (h : DFact (.int .i64 a0) → DFact (.sl 32 a1) → DFact (.int .i64 b0) → DFact (.sl 32 b1) → ∀ (J4 : Int → Prop), (∀ m n5', I4 m n5' → J4 n5') → q138 a0 a1 b0 b1 J4 R)
    (h4 : ∀ x (n5 : Int), I4 x n5 → DFact (.sl 32 b1) → DFact (.sl 32 a1) → ∀ (J4 : Int → Prop), (∀ m n5', m < x → I4 m n5' → J4 n5') → q138_4 a0 a1 b0 b1 n5 J4 R) :
    C Try.prog 138 [.val true [.c (.int .i64 a0), .c (.sl 32 a1)], .val true [.c (.int .i64 b0), .c (.sl 32 b1)]] sg138 R :=
  C_rule (cx := cx138) (P := Try.prog) (f := 138) (fn := Try.f138) (c := (Try.f138.body.getD .skip)) (args := [.val true [.c (.int .i64 a0), .c (.sl 32 a1)], .val true [.c (.int .i64 b0), .c (.sl 32 b1)]]) (sg := sg138) (rv := Try.f138.results.toList) (N := 39) (R := R) (μ := Nat) (lt := (· < ·)) Nat.lt_wfRel.wf (fun m td st => (∃ (n5 : Int), td = _root_.Go.Gl.td (Try.f138.body.getD .skip) 4 ∧ st = st138_4 a0 a1 b0 b1 n5 ∧ I4 m n5)) (by kernel_rfl) (by kernel_rfl) Try.func138 (by kernel_rfl) (by kernel_rfl) (by kernel_rfl) (by kernel_rfl) (by kernel_rfl)
    (fun x td st h hf => by
      obtain ⟨n5, rfl, rfl, hi⟩ := h
      rw [v138_4]
      exact h4 x n5 hi (hf.bd 1016 [.c (.int .i64 b0), .c (.sl 32 b1)] 1 (.sl 32 b1) (by kernel_rfl) (by kernel_rfl)) (hf.bd 1000 [.c (.int .i64 a0), .c (.sl 32 a1)] 1 (.sl 32 a1) (by kernel_rfl) (by kernel_rfl)) _ (fun m n5 hm hi => ⟨m, hm, ⟨n5, rfl, rfl, hi⟩⟩))
    (fun hf => by rw [v138]; exact h (hf.sd 0 true [.c (.int .i64 a0), .c (.sl 32 a1)] 0 (.int .i64 a0) (by kernel_rfl) (by kernel_rfl)) (hf.sd 0 true [.c (.int .i64 a0), .c (.sl 32 a1)] 1 (.sl 32 a1) (by kernel_rfl) (by kernel_rfl)) (hf.sd 1 true [.c (.int .i64 b0), .c (.sl 32 b1)] 0 (.int .i64 b0) (by kernel_rfl) (by kernel_rfl)) (hf.sd 1 true [.c (.int .i64 b0), .c (.sl 32 b1)] 1 (.sl 32 b1) (by kernel_rfl) (by kernel_rfl)) _ (fun m n5 hi => ⟨m, ⟨n5, rfl, rfl, hi⟩⟩))

mutual
def F138 : Ty → Ty → Option Bool
  | .mk a_k a_ar, b => (if (a_k != b.k) = true then some false else (if ((↑(List.length (List.map Ty.row a_ar)) : Int) != (↑(List.length (List.map Ty.row b.ar)) : Int)) = true then some false else (F138_4 b 0 a_ar)))
def F138_4 (b : Ty) : Int → (List Ty) → Option Bool
  | i, [] => some true
  | i, x :: post => (if (0 : Int) ≤ i then (match b.ar[Int.toNat i]? with | some x1 => (match (F138 x x1) with | some v4 => (if (!v4) = true then some false else (F138_4 b (i + 1) post)) | none => none) | none => none) else none)
end
theorem c138 : ∀ (a : Ty) (b : Ty) (RES : Bool), F138 a b = some RES →
    C Try.prog 138 [.val true [.c (.int .i64 a.k), .c (.sl 32 (List.map Ty.row a.ar))], .val true [.c (.int .i64 b.k), .c (.sl 32 (List.map Ty.row b.ar))]] sg138 (fun r0 => r0 = RES) := by
  intro a
  induction a using Ty.ind with
  | _ a_k a_ar ih =>
  intro b RES hr
  show C Try.prog 138 [.val true [.c (.int .i64 a_k), .c (.sl 32 (List.map Ty.row a_ar))], .val true [.c (.int .i64 b.k), .c (.sl 32 (List.map Ty.row b.ar))]] sg138 (fun r0 => r0 = RES)
  refine r138 a_k (List.map Ty.row a_ar) b.k (List.map Ty.row b.ar) _ (fun m i => ∃ pre post, a_ar = pre ++ post ∧ m = post.length ∧ i = (pre.length : Int) ∧ F138_4 b i post = some RES) ?_ ?_
  · intro ef0 ef1 ef2 ef3 J4 hJ4
    unfold q138
    rw [F138] at hr
    refine ⟨fun hb9 => ?_, fun hb9 => ?_⟩
    · rw [if_pos hb9] at hr
      refine ⟨fun _ => ?_, fun h => nomatch h⟩
      obtain rfl := Option.some.inj hr
      exact by first | rfl | trivial | simp [Ty.row_eq, Ex.row_eq, I.row_eq, S.row_eq, Il.row_eq, Cf.row_eq, Ch.row_eq]
    · rw [if_neg (by rw [hb9]; decide)] at hr
      refine ⟨fun hb10 => ?_, fun hb10 => ?_⟩
      · rw [if_pos hb10] at hr
        obtain rfl := Option.some.inj hr
        exact by first | rfl | trivial | simp [Ty.row_eq, Ex.row_eq, I.row_eq, S.row_eq, Il.row_eq, Cf.row_eq, Ch.row_eq]
      · rw [if_neg (by rw [hb10]; decide)] at hr
        exact hJ4 a_ar.length _ ⟨[], a_ar, rfl, rfl, rfl, hr⟩
  · rintro m i ⟨pre, post, hL, rfl, hi, hr⟩ sf0 sf1 J4 hJ4
    have hf := fact_sl sf1
    simp only [List.length_map] at hf
    have hlen : a_ar.length = pre.length + post.length := by rw [hL, List.length_append]
    unfold q138_4
    cases post with
    | nil =>
      simp only [List.length_nil] at hlen
      rw [F138_4] at hr
      refine ⟨fun h => absurd h (by simp only [decide_eq_true_eq, List.length_map]; omega), fun _ => ?_⟩
      obtain rfl := Option.some.inj hr
      exact by first | rfl | trivial | simp [Ty.row_eq, Ex.row_eq, I.row_eq, S.row_eq, Il.row_eq, Cf.row_eq, Ch.row_eq]
    | cons x post =>
      simp only [List.length_cons] at hlen
      rw [F138_4] at hr
      have hrow : List.getD (List.map Ty.row a_ar) (Int.toNat i) [] = Ty.row x := by rw [hL, hi, Int.toNat_natCast, getD_mid]
      refine ⟨fun _ => ?_, fun h => absurd h (by simp only [decide_eq_false_iff_not, List.length_map]; omega)⟩
      refine ⟨⟨by omega, by simp only [List.length_map]; omega, by rw [hrow, Ty.row_eq]; rfl⟩, ?_⟩
      refine ⟨x.k, (List.map Ty.row x.ar), by rw [hrow, Ty.row_eq]; rfl, ?_⟩
      by_cases hg8 : (0 : Int) ≤ i
      · rw [if_pos hg8] at hr
        cases hx2 : b.ar[Int.toNat i]? with
        | none => rw [hx2] at hr; cases hr
        | some x1 =>
          rw [hx2] at hr
          dsimp only at hr
          have hrow3 : List.getD (List.map Ty.row b.ar) (Int.toNat i) [] = Ty.row x1 := idx_row hx2
          refine ⟨(idx_ok hx2 ⟨by omega, rfl⟩ Ty.row_len), ?_⟩
          refine ⟨x1.k, (List.map Ty.row x1.ar), by rw [hrow3, Ty.row_eq]; rfl, ?_⟩
          cases hv7 : (F138 x x1) with
          | none => rw [hv7] at hr; cases hr
          | some v4 =>
            rw [hv7] at hr
            dsimp only at hr
            refine (ih x (by rw [hL]; simp) x1 _ hv7).imp ?_
            rintro r6_0 er6_0
            obtain rfl := er6_0.symm
            refine ⟨fun hb5 => ?_, fun hb5 => ?_⟩
            · rw [if_pos hb5] at hr
              obtain rfl := Option.some.inj hr
              exact by first | rfl | trivial | (simp only [hrow, hrow3]; simp [Ty.row_eq, Ex.row_eq, I.row_eq, S.row_eq, Il.row_eq, Cf.row_eq, Ch.row_eq]; done) | simp [Ty.row_eq, Ex.row_eq, I.row_eq, S.row_eq, Il.row_eq, Cf.row_eq, Ch.row_eq]
            · rw [if_neg (by rw [hb5]; decide)] at hr
              exact hJ4 post.length _ (by simp) ⟨pre ++ [x], post, by simp [hL], rfl, by rw [wrap_id (by omega) (by omega), hi]; simp, by rw [wrap_id (by omega) (by omega)]; exact hr⟩
      · rw [if_neg hg8] at hr; cases hr

noncomputable def cx92 : Cx := { P := Try.prog, sg := fun i => (alook [(138, sg138), (92, sg92)] i).getD ⟨[], []⟩, mv := fun i => (alook [] i).getD [], head := fun i => (alook [(4, ⟨3000, 3, [⟨2, [none, none, none, none, some (45, 2, 32), some (48, 6, 88)]⟩, ⟨3, [none, none, none, none, some (45, 2, 32), some (48, 6, 88)]⟩, ⟨5, [none]⟩]⟩)] i).getD ⟨0, 0, []⟩, ord := fun i => (alook [(6, [0, 1, 2, 3, 4, 5, 6, 7, 8, 9, 10, 11])] i).getD [] }
noncomputable def st92_4 (a0 : Int) (a1 : List UInt8) (a2 : Int) (a3 : Int) (a4 : List (List D)) (a5 : List (List D)) (b0 : Int) (b1 : List UInt8) (b2 : Int) (b3 : Int) (b4 : List (List D)) (b5 : List (List D)) (n5 : Int) : St := (St.of [(5, .v false [.c (.int .i64 n5)]), (3, .lp 1016 0), (2, .lp 1000 0)] [(1016, [.c (.int .i64 b0), .c (.str b1), .c (.int .i64 b2), .c (.int .i64 b3), .c (.sl 32 b4), .c (.sl 88 b5)]), (1000, [.c (.int .i64 a0), .c (.str a1), .c (.int .i64 a2), .c (.int .i64 a3), .c (.sl 32 a4), .c (.sl 88 a5)])] [] 3064 61)
def q92 (a0 : Int) (a1 : List UInt8) (a2 : Int) (a3 : Int) (a4 : List (List D)) (a5 : List (List D)) (b0 : Int) (b1 : List UInt8) (b2 : Int) (b3 : Int) (b4 : List (List D)) (b5 : List (List D))  (J4 : Int → Prop) (R : Bool → Prop) : Prop :=
  (((a0 != b0) = true → ((true = true → ((true = true → ((true = true → ((true = true → R false) ∧
  (true = false → J4 (0 : Int)))) ∧
  (true = false → ((((↑(List.length a5) : Int) != (↑(List.length b5) : Int)) = true → R false) ∧
  (((↑(List.length a5) : Int) != (↑(List.length b5) : Int)) = false → J4 (0 : Int)))))) ∧
  (true = false → C Try.prog 138 [.val true [.c (.int .i64 a3), .c (.sl 32 a4)], .val true [.c (.int .i64 b3), .c (.sl 32 b4)]] sg138 (fun b => (((!b) = true → ((true = true → R false) ∧
  (true = false → J4 (0 : Int)))) ∧
  ((!b) = false → ((((↑(List.length a5) : Int) != (↑(List.length b5) : Int)) = true → R false) ∧
  (((↑(List.length a5) : Int) != (↑(List.length b5) : Int)) = false → J4 (0 : Int))))))))) ∧
  (true = false → (((a2 != b2) = true → ((true = true → ((true = true → R false) ∧
  (true = false → J4 (0 : Int)))) ∧
  (true = false → ((((↑(List.length a5) : Int) != (↑(List.length b5) : Int)) = true → R false) ∧
  (((↑(List.length a5) : Int) != (↑(List.length b5) : Int)) = false → J4 (0 : Int)))))) ∧
  ((a2 != b2) = false → C Try.prog 138 [.val true [.c (.int .i64 a3), .c (.sl 32 a4)], .val true [.c (.int .i64 b3), .c (.sl 32 b4)]] sg138 (fun b => (((!b) = true → ((true = true → R false) ∧
  (true = false → J4 (0 : Int)))) ∧
  ((!b) = false → ((((↑(List.length a5) : Int) != (↑(List.length b5) : Int)) = true → R false) ∧
  (((↑(List.length a5) : Int) != (↑(List.length b5) : Int)) = false → J4 (0 : Int))))))))))) ∧
  ((a0 != b0) = false → (((a1 != b1) = true → ((true = true → ((true = true → ((true = true → R false) ∧
  (true = false → J4 (0 : Int)))) ∧
  (true = false → ((((↑(List.length a5) : Int) != (↑(List.length b5) : Int)) = true → R false) ∧
  (((↑(List.length a5) : Int) != (↑(List.length b5) : Int)) = false → J4 (0 : Int)))))) ∧
  (true = false → C Try.prog 138 [.val true [.c (.int .i64 a3), .c (.sl 32 a4)], .val true [.c (.int .i64 b3), .c (.sl 32 b4)]] sg138 (fun b => (((!b) = true → ((true = true → R false) ∧
  (true = false → J4 (0 : Int)))) ∧
  ((!b) = false → ((((↑(List.length a5) : Int) != (↑(List.length b5) : Int)) = true → R false) ∧
  (((↑(List.length a5) : Int) != (↑(List.length b5) : Int)) = false → J4 (0 : Int))))))))) ∧
  ((a1 != b1) = false → (((a2 != b2) = true → ((true = true → ((true = true → R false) ∧
  (true = false → J4 (0 : Int)))) ∧
  (true = false → ((((↑(List.length a5) : Int) != (↑(List.length b5) : Int)) = true → R false) ∧
  (((↑(List.length a5) : Int) != (↑(List.length b5) : Int)) = false → J4 (0 : Int)))))) ∧
  ((a2 != b2) = false → C Try.prog 138 [.val true [.c (.int .i64 a3), .c (.sl 32 a4)], .val true [.c (.int .i64 b3), .c (.sl 32 b4)]] sg138 (fun b => (((!b) = true → ((true = true → R false) ∧
  (true = false → J4 (0 : Int)))) ∧
  ((!b) = false → ((((↑(List.length a5) : Int) != (↑(List.length b5) : Int)) = true → R false) ∧
  (((↑(List.length a5) : Int) != (↑(List.length b5) : Int)) = false → J4 (0 : Int))))))))))))
theorem v92 (a0 : Int) (a1 : List UInt8) (a2 : Int) (a3 : Int) (a4 : List (List D)) (a5 : List (List D)) (b0 : Int) (b1 : List UInt8) (b2 : Int) (b3 : Int) (b4 : List (List D)) (b5 : List (List D))  (J : List Item → St → Prop) (R : Bool → Prop) : wpt cx92 J (fin Try.prog Try.f92.results.toList sg92 R) 100000 [.code (Try.f92.body.getD .skip)] (initSt [.val true [.c (.int .i64 a0), .c (.str a1), .c (.int .i64 a2), .c (.int .i64 a3), .c (.sl 32 a4), .c (.sl 88 a5)], .val true [.c (.int .i64 b0), .c (.str b1), .c (.int .i64 b2), .c (.int .i64 b3), .c (.sl 32 b4), .c (.sl 88 b5)]] 61) = q92 a0 a1 a2 a3 a4 a5 b0 b1 b2 b3 b4 b5  (fun n5 => J (td (Try.f92.body.getD .skip) 4) (st92_4 a0 a1 a2 a3 a4 a5 b0 b1 b2 b3 b4 b5 n5)) R := by kernel_rfl
def q92_4 (a0 : Int) (a1 : List UInt8) (a2 : Int) (a3 : Int) (a4 : List (List D)) (a5 : List (List D)) (b0 : Int) (b1 : List UInt8) (b2 : Int) (b3 : Int) (b4 : List (List D)) (b5 : List (List D)) (n5 : Int) (J4 : Int → Prop) (R : Bool → Prop) : Prop :=
  ((decide (n5 < (↑(List.length a5) : Int)) = true → (((0 : Int) ≤ n5 ∧ n5 < (↑(List.length a5) : Int) ∧ List.length (List.getD a5 (Int.toNat n5) []) = (6 : Nat)) ∧
  (∃ n, (∃ s, (∃ n1, (∃ n2, (∃ xs, (∃ xs1, ((List.take (6 : Nat) (List.drop (0 : Nat) (List.getD a5 (Int.toNat n5) [])) = [D.int IntKind.i64 n, D.str s, D.int IntKind.i64 n1, D.int IntKind.i64 n2, D.sl (32 : Nat) xs, D.sl (88 : Nat) xs1]) ∧
  (((0 : Int) ≤ n5 ∧ n5 < (↑(List.length b5) : Int) ∧ List.length (List.getD b5 (Int.toNat n5) []) = (6 : Nat)) ∧
  (∃ n3, (∃ s1, (∃ n4, (∃ n6, (∃ xs2, (∃ xs3, ((List.take (6 : Nat) (List.drop (0 : Nat) (List.getD b5 (Int.toNat n5) [])) = [D.int IntKind.i64 n3, D.str s1, D.int IntKind.i64 n4, D.int IntKind.i64 n6, D.sl (32 : Nat) xs2, D.sl (88 : Nat) xs3]) ∧
  C Try.prog 92 [.val true [.c (.int .i64 n), .c (.str s), .c (.int .i64 n1), .c (.int .i64 n2), .c (.sl 32 xs), .c (.sl 88 xs1)], .val true [.c (.int .i64 n3), .c (.str s1), .c (.int .i64 n4), .c (.int .i64 n6), .c (.sl 32 xs2), .c (.sl 88 xs3)]] sg92 (fun b => (((!b) = true → R false) ∧
  ((!b) = false → J4 (IntKind.wrap IntKind.i64 (n5 + (1 : Int))))))))))))))))))))))) ∧
  (decide (n5 < (↑(List.length a5) : Int)) = false → R true))
theorem v92_4 (a0 : Int) (a1 : List UInt8) (a2 : Int) (a3 : Int) (a4 : List (List D)) (a5 : List (List D)) (b0 : Int) (b1 : List UInt8) (b2 : Int) (b3 : Int) (b4 : List (List D)) (b5 : List (List D)) (n5 : Int) (J : List Item → St → Prop) (R : Bool → Prop) : wpt cx92 J (fin Try.prog Try.f92.results.toList sg92 R) 100000 (td (Try.f92.body.getD .skip) 4) (st92_4 a0 a1 a2 a3 a4 a5 b0 b1 b2 b3 b4 b5 n5) = q92_4 a0 a1 a2 a3 a4 a5 b0 b1 b2 b3 b4 b5 n5 (fun n5 => J (td (Try.f92.body.getD .skip) 4) (st92_4 a0 a1 a2 a3 a4 a5 b0 b1 b2 b3 b4 b5 n5)) R := by kernel_rfl
theorem r92 (a0 : Int) (a1 : List UInt8) (a2 : Int) (a3 : Int) (a4 : List (List D)) (a5 : List (List D)) (b0 : Int) (b1 : List UInt8) (b2 : Int) (b3 : Int) (b4 : List (List D)) (b5 : List (List D)) (R : Bool → Prop) (I4 : Nat → Int → Prop)
    (h : DFact (.int .i64 a0) → DFact (.str a1) → DFact (.int .i64 a2) → DFact (.int .i64 a3) → DFact (.sl 32 a4) → DFact (.sl 88 a5) → DFact (.int .i64 b0) → DFact (.str b1) → DFact (.int .i64 b2) → DFact (.int .i64 b3) → DFact (.sl 32 b4) → DFact (.sl 88 b5) → ∀ (J4 : Int → Prop), (∀ m n5', I4 m n5' → J4 n5') → q92 a0 a1 a2 a3 a4 a5 b0 b1 b2 b3 b4 b5 J4 R)
    (h4 : ∀ x (n5 : Int), I4 x n5 → DFact (.str b1) → DFact (.sl 32 b4) → DFact (.sl 88 b5) → DFact (.str a1) → DFact (.sl 32 a4) → DFact (.sl 88 a5) → ∀ (J4 : Int → Prop), (∀ m n5', m < x → I4 m n5' → J4 n5') → q92_4 a0 a1 a2 a3 a4 a5 b0 b1 b2 b3 b4 b5 n5 J4 R) :
    C Try.prog 92 [.val true [.c (.int .i64 a0), .c (.str a1), .c (.int .i64 a2), .c (.int .i64 a3), .c (.sl 32 a4), .c (.sl 88 a5)], .val true [.c (.int .i64 b0), .c (.str b1), .c (.int .i64 b2), .c (.int .i64 b3), .c (.sl 32 b4), .c (.sl 88 b5)]] sg92 R :=
  C_rule (cx := cx92) (P := Try.prog) (f := 92) (fn := Try.f92) (c := (Try.f92.body.getD .skip)) (args := [.val true [.c (.int .i64 a0), .c (.str a1), .c (.int .i64 a2), .c (.int .i64 a3), .c (.sl 32 a4), .c (.sl 88 a5)], .val true [.c (.int .i64 b0), .c (.str b1), .c (.int .i64 b2), .c (.int .i64 b3), .c (.sl 32 b4), .c (.sl 88 b5)]]) (sg := sg92) (rv := Try.f92.results.toList) (N := 61) (R := R) (μ := Nat) (lt := (· < ·)) Nat.lt_wfRel.wf (fun m td st => (∃ (n5 : Int), td = _root_.Go.Gl.td (Try.f92.body.getD .skip) 4 ∧ st = st92_4 a0 a1 a2 a3 a4 a5 b0 b1 b2 b3 b4 b5 n5 ∧ I4 m n5)) (by kernel_rfl) (by kernel_rfl) Try.func92 (by kernel_rfl) (by kernel_rfl) (by kernel_rfl) (by kernel_rfl) (by kernel_rfl)
    (fun x td st h hf => by
      obtain ⟨n5, rfl, rfl, hi⟩ := h
      rw [v92_4]
      exact h4 x n5 hi (hf.bd 1016 [.c (.int .i64 b0), .c (.str b1), .c (.int .i64 b2), .c (.int .i64 b3), .c (.sl 32 b4), .c (.sl 88 b5)] 1 (.str b1) (by kernel_rfl) (by kernel_rfl)) (hf.bd 1016 [.c (.int .i64 b0), .c (.str b1), .c (.int .i64 b2), .c (.int .i64 b3), .c (.sl 32 b4), .c (.sl 88 b5)] 4 (.sl 32 b4) (by kernel_rfl) (by kernel_rfl)) (hf.bd 1016 [.c (.int .i64 b0), .c (.str b1), .c (.int .i64 b2), .c (.int .i64 b3), .c (.sl 32 b4), .c (.sl 88 b5)] 5 (.sl 88 b5) (by kernel_rfl) (by kernel_rfl)) (hf.bd 1000 [.c (.int .i64 a0), .c (.str a1), .c (.int .i64 a2), .c (.int .i64 a3), .c (.sl 32 a4), .c (.sl 88 a5)] 1 (.str a1) (by kernel_rfl) (by kernel_rfl)) (hf.bd 1000 [.c (.int .i64 a0), .c (.str a1), .c (.int .i64 a2), .c (.int .i64 a3), .c (.sl 32 a4), .c (.sl 88 a5)] 4 (.sl 32 a4) (by kernel_rfl) (by kernel_rfl)) (hf.bd 1000 [.c (.int .i64 a0), .c (.str a1), .c (.int .i64 a2), .c (.int .i64 a3), .c (.sl 32 a4), .c (.sl 88 a5)] 5 (.sl 88 a5) (by kernel_rfl) (by kernel_rfl)) _ (fun m n5 hm hi => ⟨m, hm, ⟨n5, rfl, rfl, hi⟩⟩))
    (fun hf => by rw [v92]; exact h (hf.sd 0 true [.c (.int .i64 a0), .c (.str a1), .c (.int .i64 a2), .c (.int .i64 a3), .c (.sl 32 a4), .c (.sl 88 a5)] 0 (.int .i64 a0) (by kernel_rfl) (by kernel_rfl)) (hf.sd 0 true [.c (.int .i64 a0), .c (.str a1), .c (.int .i64 a2), .c (.int .i64 a3), .c (.sl 32 a4), .c (.sl 88 a5)] 1 (.str a1) (by kernel_rfl) (by kernel_rfl)) (hf.sd 0 true [.c (.int .i64 a0), .c (.str a1), .c (.int .i64 a2), .c (.int .i64 a3), .c (.sl 32 a4), .c (.sl 88 a5)] 2 (.int .i64 a2) (by kernel_rfl) (by kernel_rfl)) (hf.sd 0 true [.c (.int .i64 a0), .c (.str a1), .c (.int .i64 a2), .c (.int .i64 a3), .c (.sl 32 a4), .c (.sl 88 a5)] 3 (.int .i64 a3) (by kernel_rfl) (by kernel_rfl)) (hf.sd 0 true [.c (.int .i64 a0), .c (.str a1), .c (.int .i64 a2), .c (.int .i64 a3), .c (.sl 32 a4), .c (.sl 88 a5)] 4 (.sl 32 a4) (by kernel_rfl) (by kernel_rfl)) (hf.sd 0 true [.c (.int .i64 a0), .c (.str a1), .c (.int .i64 a2), .c (.int .i64 a3), .c (.sl 32 a4), .c (.sl 88 a5)] 5 (.sl 88 a5) (by kernel_rfl) (by kernel_rfl)) (hf.sd 1 true [.c (.int .i64 b0), .c (.str b1), .c (.int .i64 b2), .c (.int .i64 b3), .c (.sl 32 b4), .c (.sl 88 b5)] 0 (.int .i64 b0) (by kernel_rfl) (by kernel_rfl)) (hf.sd 1 true [.c (.int .i64 b0), .c (.str b1), .c (.int .i64 b2), .c (.int .i64 b3), .c (.sl 32 b4), .c (.sl 88 b5)] 1 (.str b1) (by kernel_rfl) (by kernel_rfl)) (hf.sd 1 true [.c (.int .i64 b0), .c (.str b1), .c (.int .i64 b2), .c (.int .i64 b3), .c (.sl 32 b4), .c (.sl 88 b5)] 2 (.int .i64 b2) (by kernel_rfl) (by kernel_rfl)) (hf.sd 1 true [.c (.int .i64 b0), .c (.str b1), .c (.int .i64 b2), .c (.int .i64 b3), .c (.sl 32 b4), .c (.sl 88 b5)] 3 (.int .i64 b3) (by kernel_rfl) (by kernel_rfl)) (hf.sd 1 true [.c (.int .i64 b0), .c (.str b1), .c (.int .i64 b2), .c (.int .i64 b3), .c (.sl 32 b4), .c (.sl 88 b5)] 4 (.sl 32 b4) (by kernel_rfl) (by kernel_rfl)) (hf.sd 1 true [.c (.int .i64 b0), .c (.str b1), .c (.int .i64 b2), .c (.int .i64 b3), .c (.sl 32 b4), .c (.sl 88 b5)] 5 (.sl 88 b5) (by kernel_rfl) (by kernel_rfl)) _ (fun m n5 hi => ⟨m, ⟨n5, rfl, rfl, hi⟩⟩))

mutual
def F92 : Ex → Ex → Option Bool
  | .mk a_k a_nm a_n a_t a_ar, b => (if (a_k != b.k) = true then some false else (if (a_nm != b.nm) = true then some false else (if (a_n != b.n) = true then some false else (match (F138 a_t b.t) with | some v12 => (if (!v12) = true then some false else (if ((↑(List.length (List.map Ex.row a_ar)) : Int) != (↑(List.length (List.map Ex.row b.ar)) : Int)) = true then some false else (F92_4 b 0 a_ar))) | none => none))))
def F92_4 (b : Ex) : Int → (List Ex) → Option Bool
  | i, [] => some true
  | i, x :: post => (if (0 : Int) ≤ i then (match b.ar[Int.toNat i]? with | some x1 => (match (F92 x x1) with | some v4 => (if (!v4) = true then some false else (F92_4 b (i + 1) post)) | none => none) | none => none) else none)
end
theorem c92 : ∀ (a : Ex) (b : Ex) (RES : Bool), F92 a b = some RES →
    C Try.prog 92 [.val true [.c (.int .i64 a.k), .c (.str a.nm), .c (.int .i64 a.n), .c (.int .i64 a.t.k), .c (.sl 32 (List.map Ty.row a.t.ar)), .c (.sl 88 (List.map Ex.row a.ar))], .val true [.c (.int .i64 b.k), .c (.str b.nm), .c (.int .i64 b.n), .c (.int .i64 b.t.k), .c (.sl 32 (List.map Ty.row b.t.ar)), .c (.sl 88 (List.map Ex.row b.ar))]] sg92 (fun r0 => r0 = RES) := by
  intro a
  induction a using Ex.ind with
  | _ a_k a_nm a_n a_t a_ar ih =>
  intro b RES hr
  show C Try.prog 92 [.val true [.c (.int .i64 a_k), .c (.str a_nm), .c (.int .i64 a_n), .c (.int .i64 a_t.k), .c (.sl 32 (List.map Ty.row a_t.ar)), .c (.sl 88 (List.map Ex.row a_ar))], .val true [.c (.int .i64 b.k), .c (.str b.nm), .c (.int .i64 b.n), .c (.int .i64 b.t.k), .c (.sl 32 (List.map Ty.row b.t.ar)), .c (.sl 88 (List.map Ex.row b.ar))]] sg92 (fun r0 => r0 = RES)
  refine r92 a_k a_nm a_n a_t.k (List.map Ty.row a_t.ar) (List.map Ex.row a_ar) b.k b.nm b.n b.t.k (List.map Ty.row b.t.ar) (List.map Ex.row b.ar) _ (fun m i => ∃ pre post, a_ar = pre ++ post ∧ m = post.length ∧ i = (pre.length : Int) ∧ F92_4 b i post = some RES) ?_ ?_
  · intro ef0 ef1 ef2 ef3 ef4 ef5 ef6 ef7 ef8 ef9 ef10 ef11 J4 hJ4
    unfold q92
    rw [F92] at hr
    refine ⟨fun hb9 => ?_, fun hb9 => ?_⟩
    · rw [if_pos hb9] at hr
      refine ⟨fun _ => ?_, fun h => nomatch h⟩
      refine ⟨fun _ => ?_, fun h => nomatch h⟩
      refine ⟨fun _ => ?_, fun h => nomatch h⟩
      refine ⟨fun _ => ?_, fun h => nomatch h⟩
      obtain rfl := Option.some.inj hr
      exact by first | rfl | trivial | simp [Ty.row_eq, Ex.row_eq, I.row_eq, S.row_eq, Il.row_eq, Cf.row_eq, Ch.row_eq]
    · rw [if_neg (by rw [hb9]; decide)] at hr
      refine ⟨fun hb10 => ?_, fun hb10 => ?_⟩
      · rw [if_pos hb10] at hr
        refine ⟨fun _ => ?_, fun h => nomatch h⟩
        refine ⟨fun _ => ?_, fun h => nomatch h⟩
        refine ⟨fun _ => ?_, fun h => nomatch h⟩
        obtain rfl := Option.some.inj hr
        exact by first | rfl | trivial | simp [Ty.row_eq, Ex.row_eq, I.row_eq, S.row_eq, Il.row_eq, Cf.row_eq, Ch.row_eq]
      · rw [if_neg (by rw [hb10]; decide)] at hr
        refine ⟨fun hb11 => ?_, fun hb11 => ?_⟩
        · rw [if_pos hb11] at hr
          refine ⟨fun _ => ?_, fun h => nomatch h⟩
          refine ⟨fun _ => ?_, fun h => nomatch h⟩
          obtain rfl := Option.some.inj hr
          exact by first | rfl | trivial | simp [Ty.row_eq, Ex.row_eq, I.row_eq, S.row_eq, Il.row_eq, Cf.row_eq, Ch.row_eq]
        · rw [if_neg (by rw [hb11]; decide)] at hr
          cases hv16 : (F138 a_t b.t) with
          | none => rw [hv16] at hr; cases hr
          | some v12 =>
            rw [hv16] at hr
            dsimp only at hr
            refine (c138 a_t b.t _ hv16).imp ?_
            rintro r15_0 er15_0
            obtain rfl := er15_0.symm
            refine ⟨fun hb13 => ?_, fun hb13 => ?_⟩
            · rw [if_pos hb13] at hr
              refine ⟨fun _ => ?_, fun h => nomatch h⟩
              obtain rfl := Option.some.inj hr
              exact by first | rfl | trivial | simp [Ty.row_eq, Ex.row_eq, I.row_eq, S.row_eq, Il.row_eq, Cf.row_eq, Ch.row_eq]
            · rw [if_neg (by rw [hb13]; decide)] at hr
              refine ⟨fun hb14 => ?_, fun hb14 => ?_⟩
              · rw [if_pos hb14] at hr
                obtain rfl := Option.some.inj hr
                exact by first | rfl | trivial | simp [Ty.row_eq, Ex.row_eq, I.row_eq, S.row_eq, Il.row_eq, Cf.row_eq, Ch.row_eq]
              · rw [if_neg (by rw [hb14]; decide)] at hr
                exact hJ4 a_ar.length _ ⟨[], a_ar, rfl, rfl, rfl, hr⟩
  · rintro m i ⟨pre, post, hL, rfl, hi, hr⟩ sf0 sf1 sf2 sf3 sf4 sf5 J4 hJ4
    have hf := fact_sl sf5
    simp only [List.length_map] at hf
    have hlen : a_ar.length = pre.length + post.length := by rw [hL, List.length_append]
    unfold q92_4
    cases post with
    | nil =>
      simp only [List.length_nil] at hlen
      rw [F92_4] at hr
      refine ⟨fun h => absurd h (by simp only [decide_eq_true_eq, List.length_map]; omega), fun _ => ?_⟩
      obtain rfl := Option.some.inj hr
      exact by first | rfl | trivial | simp [Ty.row_eq, Ex.row_eq, I.row_eq, S.row_eq, Il.row_eq, Cf.row_eq, Ch.row_eq]
    | cons x post =>
      simp only [List.length_cons] at hlen
      rw [F92_4] at hr
      have hrow : List.getD (List.map Ex.row a_ar) (Int.toNat i) [] = Ex.row x := by rw [hL, hi, Int.toNat_natCast, getD_mid]
      refine ⟨fun _ => ?_, fun h => absurd h (by simp only [decide_eq_false_iff_not, List.length_map]; omega)⟩
      refine ⟨⟨by omega, by simp only [List.length_map]; omega, by rw [hrow, Ex.row_eq]; rfl⟩, ?_⟩
      refine ⟨x.k, x.nm, x.n, x.t.k, (List.map Ty.row x.t.ar), (List.map Ex.row x.ar), by rw [hrow, Ex.row_eq]; rfl, ?_⟩
      by_cases hg8 : (0 : Int) ≤ i
      · rw [if_pos hg8] at hr
        cases hx2 : b.ar[Int.toNat i]? with
        | none => rw [hx2] at hr; cases hr
        | some x1 =>
          rw [hx2] at hr
          dsimp only at hr
          have hrow3 : List.getD (List.map Ex.row b.ar) (Int.toNat i) [] = Ex.row x1 := idx_row hx2
          refine ⟨(idx_ok hx2 ⟨by omega, rfl⟩ Ex.row_len), ?_⟩
          refine ⟨x1.k, x1.nm, x1.n, x1.t.k, (List.map Ty.row x1.t.ar), (List.map Ex.row x1.ar), by rw [hrow3, Ex.row_eq]; rfl, ?_⟩
          cases hv7 : (F92 x x1) with
          | none => rw [hv7] at hr; cases hr
          | some v4 =>
            rw [hv7] at hr
            dsimp only at hr
            refine (ih x (by rw [hL]; simp) x1 _ hv7).imp ?_
            rintro r6_0 er6_0
            obtain rfl := er6_0.symm
            refine ⟨fun hb5 => ?_, fun hb5 => ?_⟩
            · rw [if_pos hb5] at hr
              obtain rfl := Option.some.inj hr
              exact by first | rfl | trivial | (simp only [hrow, hrow3]; simp [Ty.row_eq, Ex.row_eq, I.row_eq, S.row_eq, Il.row_eq, Cf.row_eq, Ch.row_eq]; done) | simp [Ty.row_eq, Ex.row_eq, I.row_eq, S.row_eq, Il.row_eq, Cf.row_eq, Ch.row_eq]
            · rw [if_neg (by rw [hb5]; decide)] at hr
              exact hJ4 post.length _ (by simp) ⟨pre ++ [x], post, by simp [hL], rfl, by rw [wrap_id (by omega) (by omega), hi]; simp, by rw [wrap_id (by omega) (by omega)]; exact hr⟩
      · rw [if_neg hg8] at hr; cases hr

noncomputable def cx42 : Cx := { P := Try.prog, sg := fun i => (alook [(68, sg68), (92, sg92), (42, sg42)] i).getD ⟨[], []⟩, mv := fun i => (alook [] i).getD [], head := fun i => (alook [(4, ⟨3000, 3, [⟨0, [some (116, 7, 112)]⟩, ⟨1, [some (116, 7, 112)]⟩, ⟨5, [none]⟩]⟩)] i).getD ⟨0, 0, []⟩, ord := fun i => (alook [(6, [0, 1, 2, 3, 4, 5, 6, 7, 8, 9, 10, 11, 12, 13, 14, 15, 16, 17, 18, 19, 20, 21, 22, 23, 24, 25])] i).getD [] }
noncomputable def st42_4 (a : List (List D)) (b : List (List D)) (n5 : Int) : St := (St.of [(5, .v false [.c (.int .i64 n5)]), (1, .v false [.c (.sl 112 b)]), (0, .v false [.c (.sl 112 a)])] [] [] 3064 43)
def q42 (a : List (List D)) (b : List (List D))  (J4 : Int → Prop) (R : Bool → Prop) : Prop :=
  ((((↑(List.length a) : Int) != (↑(List.length b) : Int)) = true → R false) ∧
  (((↑(List.length a) : Int) != (↑(List.length b) : Int)) = false → J4 (0 : Int)))
theorem v42 (a : List (List D)) (b : List (List D))  (J : List Item → St → Prop) (R : Bool → Prop) : wpt cx42 J (fin Try.prog Try.f42.results.toList sg42 R) 100000 [.code (Try.f42.body.getD .skip)] (initSt [.val false [.c (.sl 112 a)], .val false [.c (.sl 112 b)]] 43) = q42 a b  (fun n5 => J (td (Try.f42.body.getD .skip) 4) (st42_4 a b n5)) R := by kernel_rfl
def q42_4 (a : List (List D)) (b : List (List D)) (n5 : Int) (J4 : Int → Prop) (R : Bool → Prop) : Prop :=
  ((decide (n5 < (↑(List.length a) : Int)) = true → (((0 : Int) ≤ n5 ∧ n5 < (↑(List.length a) : Int) ∧ List.length (List.getD a (Int.toNat n5) []) = (7 : Nat)) ∧
  (∃ xs, ((List.take (1 : Nat) (List.drop (0 : Nat) (List.getD a (Int.toNat n5) [])) = [D.sl (8 : Nat) xs]) ∧
  (((0 : Int) ≤ n5 ∧ n5 < (↑(List.length b) : Int) ∧ List.length (List.getD b (Int.toNat n5) []) = (7 : Nat)) ∧
  (∃ xs1, ((List.take (1 : Nat) (List.drop (0 : Nat) (List.getD b (Int.toNat n5) [])) = [D.sl (8 : Nat) xs1]) ∧
  C Try.prog 68 [.val false [.c (.sl 8 xs)], .val false [.c (.sl 8 xs1)]] sg68 (fun b1 => (((!b1) = true → ((true = true → R false) ∧
  (true = false → J4 (IntKind.wrap IntKind.i64 (n5 + (1 : Int)))))) ∧
  ((!b1) = false → (((0 : Int) ≤ n5 ∧ n5 < (↑(List.length a) : Int) ∧ List.length (List.getD a (Int.toNat n5) []) = (7 : Nat)) ∧
  (∃ n, (∃ s, (∃ n1, (∃ n2, (∃ xs2, (∃ xs3, ((List.take (6 : Nat) (List.drop (1 : Nat) (List.getD a (Int.toNat n5) [])) = [D.int IntKind.i64 n, D.str s, D.int IntKind.i64 n1, D.int IntKind.i64 n2, D.sl (32 : Nat) xs2, D.sl (88 : Nat) xs3]) ∧
  (((0 : Int) ≤ n5 ∧ n5 < (↑(List.length b) : Int) ∧ List.length (List.getD b (Int.toNat n5) []) = (7 : Nat)) ∧
  (∃ n3, (∃ s1, (∃ n4, (∃ n6, (∃ xs4, (∃ xs5, ((List.take (6 : Nat) (List.drop (1 : Nat) (List.getD b (Int.toNat n5) [])) = [D.int IntKind.i64 n3, D.str s1, D.int IntKind.i64 n4, D.int IntKind.i64 n6, D.sl (32 : Nat) xs4, D.sl (88 : Nat) xs5]) ∧
  C Try.prog 92 [.val true [.c (.int .i64 n), .c (.str s), .c (.int .i64 n1), .c (.int .i64 n2), .c (.sl 32 xs2), .c (.sl 88 xs3)], .val true [.c (.int .i64 n3), .c (.str s1), .c (.int .i64 n4), .c (.int .i64 n6), .c (.sl 32 xs4), .c (.sl 88 xs5)]] sg92 (fun b2 => (((!b2) = true → R false) ∧
  ((!b2) = false → J4 (IntKind.wrap IntKind.i64 (n5 + (1 : Int)))))))))))))))))))))))))))))))) ∧
  (decide (n5 < (↑(List.length a) : Int)) = false → R true))
theorem v42_4 (a : List (List D)) (b : List (List D)) (n5 : Int) (J : List Item → St → Prop) (R : Bool → Prop) : wpt cx42 J (fin Try.prog Try.f42.results.toList sg42 R) 100000 (td (Try.f42.body.getD .skip) 4) (st42_4 a b n5) = q42_4 a b n5 (fun n5 => J (td (Try.f42.body.getD .skip) 4) (st42_4 a b n5)) R := by kernel_rfl
theorem r42 (a : List (List D)) (b : List (List D)) (R : Bool → Prop) (I4 : Nat → Int → Prop)
    (h : DFact (.sl 112 a) → DFact (.sl 112 b) → ∀ (J4 : Int → Prop), (∀ m n5', I4 m n5' → J4 n5') → q42 a b J4 R)
    (h4 : ∀ x (n5 : Int), I4 x n5 → DFact (.sl 112 b) → DFact (.sl 112 a) → ∀ (J4 : Int → Prop), (∀ m n5', m < x → I4 m n5' → J4 n5') → q42_4 a b n5 J4 R) :
    C Try.prog 42 [.val false [.c (.sl 112 a)], .val false [.c (.sl 112 b)]] sg42 R :=
  C_rule (cx := cx42) (P := Try.prog) (f := 42) (fn := Try.f42) (c := (Try.f42.body.getD .skip)) (args := [.val false [.c (.sl 112 a)], .val false [.c (.sl 112 b)]]) (sg := sg42) (rv := Try.f42.results.toList) (N := 43) (R := R) (μ := Nat) (lt := (· < ·)) Nat.lt_wfRel.wf (fun m td st => (∃ (n5 : Int), td = _root_.Go.Gl.td (Try.f42.body.getD .skip) 4 ∧ st = st42_4 a b n5 ∧ I4 m n5)) (by kernel_rfl) (by kernel_rfl) Try.func42 (by kernel_rfl) (by kernel_rfl) (by kernel_rfl) (by kernel_rfl) (by kernel_rfl)
    (fun x td st h hf => by
      obtain ⟨n5, rfl, rfl, hi⟩ := h
      rw [v42_4]
      exact h4 x n5 hi (hf.sd 1 false [.c (.sl 112 b)] 0 (.sl 112 b) (by kernel_rfl) (by kernel_rfl)) (hf.sd 0 false [.c (.sl 112 a)] 0 (.sl 112 a) (by kernel_rfl) (by kernel_rfl)) _ (fun m n5 hm hi => ⟨m, hm, ⟨n5, rfl, rfl, hi⟩⟩))
    (fun hf => by rw [v42]; exact h (hf.sd 0 false [.c (.sl 112 a)] 0 (.sl 112 a) (by kernel_rfl) (by kernel_rfl)) (hf.sd 1 false [.c (.sl 112 b)] 0 (.sl 112 b) (by kernel_rfl) (by kernel_rfl)) _ (fun m n5 hi => ⟨m, ⟨n5, rfl, rfl, hi⟩⟩))

def F42_4 (b : List Ch) : Int → (List Ch) → Option Bool
  | i, [] => some true
  | i, x :: post => (if (0 : Int) ≤ i then (match b[Int.toNat i]? with | some x1 => (match (F68 x.p x1.p) with | some v4 => (if (!v4) = true then some false else (match (F92 x.e x1.e) with | some v6 => (if (!v6) = true then some false else (F42_4 b (i + 1) post)) | none => none)) | none => none) | none => none) else none)
@[irreducible] def F42 (a : List Ch) (b : List Ch) : Option Bool := (if ((↑(List.length (List.map Ch.row a)) : Int) != (↑(List.length (List.map Ch.row b)) : Int)) = true then some false else (F42_4 b 0 a))
theorem c42 (a : List Ch) (b : List Ch) (RES : Bool) (hr : F42 a b = some RES) :
    C Try.prog 42 [.val false [.c (.sl 112 (List.map Ch.row a))], .val false [.c (.sl 112 (List.map Ch.row b))]] sg42 (fun r0 => r0 = RES) := by
  refine r42 (List.map Ch.row a) (List.map Ch.row b) _ (fun m i => ∃ pre post, a = pre ++ post ∧ m = post.length ∧ i = (pre.length : Int) ∧ F42_4 b i post = some RES) ?_ ?_
  · intro ef0 ef1 J4 hJ4
    unfold q42
    rw [F42] at hr
    refine ⟨fun hb13 => ?_, fun hb13 => ?_⟩
    · rw [if_pos hb13] at hr
      obtain rfl := Option.some.inj hr
      exact by first | rfl | trivial | simp [Ty.row_eq, Ex.row_eq, I.row_eq, S.row_eq, Il.row_eq, Cf.row_eq, Ch.row_eq]
    · rw [if_neg (by rw [hb13]; decide)] at hr
      exact hJ4 a.length _ ⟨[], a, rfl, rfl, rfl, hr⟩
  · rintro m i ⟨pre, post, hL, rfl, hi, hr⟩ sf0 sf1 J4 hJ4
    have hf := fact_sl sf1
    simp only [List.length_map] at hf
    have hlen : a.length = pre.length + post.length := by rw [hL, List.length_append]
    unfold q42_4
    cases post with
    | nil =>
      simp only [List.length_nil] at hlen
      rw [F42_4] at hr
      refine ⟨fun h => absurd h (by simp only [decide_eq_true_eq, List.length_map]; omega), fun _ => ?_⟩
      obtain rfl := Option.some.inj hr
      exact by first | rfl | trivial | simp [Ty.row_eq, Ex.row_eq, I.row_eq, S.row_eq, Il.row_eq, Cf.row_eq, Ch.row_eq]
    | cons x post =>
      simp only [List.length_cons] at hlen
      rw [F42_4] at hr
      have hrow : List.getD (List.map Ch.row a) (Int.toNat i) [] = Ch.row x := by rw [hL, hi, Int.toNat_natCast, getD_mid]
      refine ⟨fun _ => ?_, fun h => absurd h (by simp only [decide_eq_false_iff_not, List.length_map]; omega)⟩
      refine ⟨⟨by omega, by simp only [List.length_map]; omega, by rw [hrow, Ch.row_eq]; rfl⟩, ?_⟩
      refine ⟨(List.map I.row x.p), by rw [hrow, Ch.row_eq]; rfl, ?_⟩
      by_cases hg12 : (0 : Int) ≤ i
      · rw [if_pos hg12] at hr
        cases hx2 : b[Int.toNat i]? with
        | none => rw [hx2] at hr; cases hr
        | some x1 =>
          rw [hx2] at hr
          dsimp only at hr
          have hrow3 : List.getD (List.map Ch.row b) (Int.toNat i) [] = Ch.row x1 := idx_row hx2
          refine ⟨(idx_ok hx2 ⟨by omega, rfl⟩ Ch.row_len), ?_⟩
          refine ⟨(List.map I.row x1.p), by rw [hrow3, Ch.row_eq]; rfl, ?_⟩
          cases hv11 : (F68 x.p x1.p) with
          | none => rw [hv11] at hr; cases hr
          | some v4 =>
            rw [hv11] at hr
            dsimp only at hr
            refine (c68 x.p x1.p _ hv11).imp ?_
            rintro r10_0 er10_0
            obtain rfl := er10_0.symm
            refine ⟨fun hb5 => ?_, fun hb5 => ?_⟩
            · rw [if_pos hb5] at hr
              refine ⟨fun _ => ?_, fun h => nomatch h⟩
              obtain rfl := Option.some.inj hr
              exact by first | rfl | trivial | (simp only [hrow, hrow3]; simp [Ty.row_eq, Ex.row_eq, I.row_eq, S.row_eq, Il.row_eq, Cf.row_eq, Ch.row_eq]; done) | simp [Ty.row_eq, Ex.row_eq, I.row_eq, S.row_eq, Il.row_eq, Cf.row_eq, Ch.row_eq]
            · rw [if_neg (by rw [hb5]; decide)] at hr
              refine ⟨⟨by omega, by simp only [List.length_map]; omega, by rw [hrow, Ch.row_eq]; rfl⟩, ?_⟩
              refine ⟨x.e.k, x.e.nm, x.e.n, x.e.t.k, (List.map Ty.row x.e.t.ar), (List.map Ex.row x.e.ar), by rw [hrow, Ch.row_eq]; rfl, ?_⟩
              refine ⟨(idx_ok hx2 ⟨by omega, rfl⟩ Ch.row_len), ?_⟩
              refine ⟨x1.e.k, x1.e.nm, x1.e.n, x1.e.t.k, (List.map Ty.row x1.e.t.ar), (List.map Ex.row x1.e.ar), by rw [hrow3, Ch.row_eq]; rfl, ?_⟩
              cases hv9 : (F92 x.e x1.e) with
              | none => rw [hv9] at hr; cases hr
              | some v6 =>
                rw [hv9] at hr
                dsimp only at hr
                refine (c92 x.e x1.e _ hv9).imp ?_
                rintro r8_0 er8_0
                obtain rfl := er8_0.symm
                refine ⟨fun hb7 => ?_, fun hb7 => ?_⟩
                · rw [if_pos hb7] at hr
                  obtain rfl := Option.some.inj hr
                  exact by first | rfl | trivial | (simp only [hrow, hrow3]; simp [Ty.row_eq, Ex.row_eq, I.row_eq, S.row_eq, Il.row_eq, Cf.row_eq, Ch.row_eq]; done) | simp [Ty.row_eq, Ex.row_eq, I.row_eq, S.row_eq, Il.row_eq, Cf.row_eq, Ch.row_eq]
                · rw [if_neg (by rw [hb7]; decide)] at hr
                  exact hJ4 post.length _ (by simp) ⟨pre ++ [x], post, by simp [hL], rfl, by rw [wrap_id (by omega) (by omega), hi]; simp, by rw [wrap_id (by omega) (by omega)]; exact hr⟩
      · rw [if_neg hg12] at hr; cases hr

noncomputable def cx104 : Cx := { P := Try.prog, sg := fun i => (alook [(51, sg51), (104, sg104)] i).getD ⟨[], []⟩, mv := fun i => (alook [] i).getD [], head := fun i => (alook [(4, ⟨3000, 3, [⟨1, [some (45, 2, 32)]⟩, ⟨2, []⟩, ⟨15, [some (45, 2, 32)]⟩, ⟨16, [none]⟩, ⟨17, [none]⟩]⟩)] i).getD ⟨0, 0, []⟩, ord := fun i => (alook [] i).getD [] }
noncomputable def st104_4 (a : List (List D)) (b : List (List D)) (n17 : Int) : St := (St.of [(17, .v false [.c (.int .i64 n17)]), (16, .v false [.c (.int .i64 (↑(List.length a) : Int))]), (15, .v false [.c (.sl 32 a)]), (2, .fn 51 []), (1, .v false [.c (.sl 32 b)])] [] [] 3064 32)
def q104 (a : List (List D)) (b : List (List D))  (J4 : Int → Prop) (R : Bool → Prop) : Prop :=
  ((((↑(List.length a) : Int) != (↑(List.length b) : Int)) = true → R false) ∧
  (((↑(List.length a) : Int) != (↑(List.length b) : Int)) = false → J4 (0 : Int)))
theorem v104 (a : List (List D)) (b : List (List D))  (J : List Item → St → Prop) (R : Bool → Prop) : wpt cx104 J (fin Try.prog Try.f104.results.toList sg104 R) 100000 [.code (Try.f104.body.getD .skip)] (initSt [.val false [.c (.sl 32 a)], .val false [.c (.sl 32 b)], .fn 51 []] 32) = q104 a b  (fun n17 => J (td (Try.f104.body.getD .skip) 4) (st104_4 a b n17)) R := by kernel_rfl
def q104_4 (a : List (List D)) (b : List (List D)) (n17 : Int) (J4 : Int → Prop) (R : Bool → Prop) : Prop :=
  ((decide (n17 < (↑(List.length a) : Int)) = true → (((0 : Int) ≤ n17 ∧ n17 < (↑(List.length a) : Int) ∧ List.length (List.getD a (Int.toNat n17) []) = (2 : Nat)) ∧
  (∃ n, (∃ xs, ((List.take (2 : Nat) (List.drop (0 : Nat) (List.getD a (Int.toNat n17) [])) = [D.int IntKind.i64 n, D.sl (32 : Nat) xs]) ∧
  (((0 : Int) ≤ n17 ∧ n17 < (↑(List.length b) : Int) ∧ List.length (List.getD b (Int.toNat n17) []) = (2 : Nat)) ∧
  (∃ n1, (∃ xs1, ((List.take (2 : Nat) (List.drop (0 : Nat) (List.getD b (Int.toNat n17) [])) = [D.int IntKind.i64 n1, D.sl (32 : Nat) xs1]) ∧
  C Try.prog 51 [.val true [.c (.int .i64 n), .c (.sl 32 xs)], .val true [.c (.int .i64 n1), .c (.sl 32 xs1)]] sg51 (fun b1 => (((!b1) = true → R false) ∧
  ((!b1) = false → J4 (IntKind.wrap IntKind.i64 (n17 + (1 : Int))))))))))))))) ∧
  (decide (n17 < (↑(List.length a) : Int)) = false → R true))
theorem v104_4 (a : List (List D)) (b : List (List D)) (n17 : Int) (J : List Item → St → Prop) (R : Bool → Prop) : wpt cx104 J (fin Try.prog Try.f104.results.toList sg104 R) 100000 (td (Try.f104.body.getD .skip) 4) (st104_4 a b n17) = q104_4 a b n17 (fun n17 => J (td (Try.f104.body.getD .skip) 4) (st104_4 a b n17)) R := by kernel_rfl
theorem r104 (a : List (List D)) (b : List (List D)) (R : Bool → Prop) (I4 : Nat → Int → Prop)
    (h : DFact (.sl 32 a) → DFact (.sl 32 b) → ∀ (J4 : Int → Prop), (∀ m n17', I4 m n17' → J4 n17') → q104 a b J4 R)
    (h4 : ∀ x (n17 : Int), I4 x n17 → DFact (.sl 32 a) → DFact (.sl 32 b) → ∀ (J4 : Int → Prop), (∀ m n17', m < x → I4 m n17' → J4 n17') → q104_4 a b n17 J4 R) :
    C Try.prog 104 [.val false [.c (.sl 32 a)], .val false [.c (.sl 32 b)], .fn 51 []] sg104 R :=
  C_rule (cx := cx104) (P := Try.prog) (f := 104) (fn := Try.f104) (c := (Try.f104.body.getD .skip)) (args := [.val false [.c (.sl 32 a)], .val false [.c (.sl 32 b)], .fn 51 []]) (sg := sg104) (rv := Try.f104.results.toList) (N := 32) (R := R) (μ := Nat) (lt := (· < ·)) Nat.lt_wfRel.wf (fun m td st => (∃ (n17 : Int), td = _root_.Go.Gl.td (Try.f104.body.getD .skip) 4 ∧ st = st104_4 a b n17 ∧ I4 m n17)) (by kernel_rfl) (by kernel_rfl) Try.func104 (by kernel_rfl) (by kernel_rfl) (by kernel_rfl) (by kernel_rfl) (by kernel_rfl)
    (fun x td st h hf => by
      obtain ⟨n17, rfl, rfl, hi⟩ := h
      rw [v104_4]
      exact h4 x n17 hi (hf.sd 15 false [.c (.sl 32 a)] 0 (.sl 32 a) (by kernel_rfl) (by kernel_rfl)) (hf.sd 1 false [.c (.sl 32 b)] 0 (.sl 32 b) (by kernel_rfl) (by kernel_rfl)) _ (fun m n17 hm hi => ⟨m, hm, ⟨n17, rfl, rfl, hi⟩⟩))
    (fun hf => by rw [v104]; exact h (hf.sd 0 false [.c (.sl 32 a)] 0 (.sl 32 a) (by kernel_rfl) (by kernel_rfl)) (hf.sd 1 false [.c (.sl 32 b)] 0 (.sl 32 b) (by kernel_rfl) (by kernel_rfl)) _ (fun m n17 hi => ⟨m, ⟨n17, rfl, rfl, hi⟩⟩))

noncomputable def cx51 : Cx := { P := Try.prog, sg := fun i => (alook [(104, sg104), (51, sg51)] i).getD ⟨[], []⟩, mv := fun i => (alook [] i).getD [], head := fun i => (alook [] i).getD ⟨0, 0, []⟩, ord := fun i => (alook [] i).getD [] }
def q51 (a0 : Int) (a1 : List (List D)) (b0 : Int) (b1 : List (List D))   (R : Bool → Prop) : Prop :=
  (((a0 == b0) = true → C Try.prog 104 [.val false [.c (.sl 32 a1)], .val false [.c (.sl 32 b1)], .fn 51 []] sg104 (fun b => R b)) ∧
  ((a0 == b0) = false → R false))
theorem v51 (a0 : Int) (a1 : List (List D)) (b0 : Int) (b1 : List (List D))  (J : List Item → St → Prop) (R : Bool → Prop) : wpt cx51 J (fin Try.prog Try.f51.results.toList sg51 R) 100000 [.code (Try.f51.body.getD .skip)] (initSt [.val true [.c (.int .i64 a0), .c (.sl 32 a1)], .val true [.c (.int .i64 b0), .c (.sl 32 b1)]] 17) = q51 a0 a1 b0 b1   R := by kernel_rfl
theorem r51 (a0 : Int) (a1 : List (List D)) (b0 : Int) (b1 : List (List D)) (R : Bool → Prop) 
    (h : DFact (.int .i64 a0) → DFact (.sl 32 a1) → DFact (.int .i64 b0) → DFact (.sl 32 b1) → q51 a0 a1 b0 b1  R) :
    C Try.prog 51 [.val true [.c (.int .i64 a0), .c (.sl 32 a1)], .val true [.c (.int .i64 b0), .c (.sl 32 b1)]] sg51 R :=
  C_rule (cx := cx51) (P := Try.prog) (f := 51) (fn := Try.f51) (c := (Try.f51.body.getD .skip)) (args := [.val true [.c (.int .i64 a0), .c (.sl 32 a1)], .val true [.c (.int .i64 b0), .c (.sl 32 b1)]]) (sg := sg51) (rv := Try.f51.results.toList) (N := 17) (R := R) (μ := Nat) (lt := (· < ·)) Nat.lt_wfRel.wf (fun m td st => False) (by kernel_rfl) (by kernel_rfl) Try.func51 (by kernel_rfl) (by kernel_rfl) (by kernel_rfl) (by kernel_rfl) (by kernel_rfl)
    (fun _ _ _ h => h.elim)
    (fun hf => by rw [v51]; exact h (hf.sd 0 true [.c (.int .i64 a0), .c (.sl 32 a1)] 0 (.int .i64 a0) (by kernel_rfl) (by kernel_rfl)) (hf.sd 0 true [.c (.int .i64 a0), .c (.sl 32 a1)] 1 (.sl 32 a1) (by kernel_rfl) (by kernel_rfl)) (hf.sd 1 true [.c (.int .i64 b0), .c (.sl 32 b1)] 0 (.int .i64 b0) (by kernel_rfl) (by kernel_rfl)) (hf.sd 1 true [.c (.int .i64 b0), .c (.sl 32 b1)] 1 (.sl 32 b1) (by kernel_rfl) (by kernel_rfl)) )

mutual
def F51 : Ty → Ty → Option Bool
  | .mk a_k a_ar, b => (if (a_k == b.k) = true then (match ((if ((↑(List.length (List.map Ty.row a_ar)) : Int) != (↑(List.length (List.map Ty.row b.ar)) : Int)) = true then some false else (F104_4 b.ar 0 a_ar))) with | some v2 => some v2 | none => none) else some false)
def F104_4 (b : List Ty) : Int → (List Ty) → Option Bool
  | i, [] => some true
  | i, x :: post => (if (0 : Int) ≤ i then (match b[Int.toNat i]? with | some x1 => (match (F51 x x1) with | some v4 => (if (!v4) = true then some false else (F104_4 b (i + 1) post)) | none => none) | none => none) else none)
end
def F104 (a : List Ty) (b : List Ty) : Option Bool := (if ((↑(List.length (List.map Ty.row a)) : Int) != (↑(List.length (List.map Ty.row b)) : Int)) = true then some false else (F104_4 b 0 a))
theorem c104 (S : Ty → Prop) (ih : ∀ a, S a → ∀ (b : Ty) (RES : Bool), F51 a b = some RES → C Try.prog 51 [.val true [.c (.int .i64 a.k), .c (.sl 32 (List.map Ty.row a.ar))], .val true [.c (.int .i64 b.k), .c (.sl 32 (List.map Ty.row b.ar))]] sg51 (fun r0 => r0 = RES)) (a : List Ty) (b : List Ty) (hS : ∀ x ∈ a, S x) (RES : Bool) (hr : F104 a b = some RES) :
    C Try.prog 104 [.val false [.c (.sl 32 (List.map Ty.row a))], .val false [.c (.sl 32 (List.map Ty.row b))], .fn 51 []] sg104 (fun r0 => r0 = RES) := by
  refine r104 (List.map Ty.row a) (List.map Ty.row b) _ (fun m i => ∃ pre post, a = pre ++ post ∧ m = post.length ∧ i = (pre.length : Int) ∧ F104_4 b i post = some RES) ?_ ?_
  · intro ef0 ef1 J4 hJ4
    unfold q104
    rw [F104] at hr
    refine ⟨fun hb9 => ?_, fun hb9 => ?_⟩
    · rw [if_pos hb9] at hr
      obtain rfl := Option.some.inj hr
      exact by first | rfl | trivial | simp [Ty.row_eq, Ex.row_eq, I.row_eq, S.row_eq, Il.row_eq, Cf.row_eq, Ch.row_eq]
    · rw [if_neg (by rw [hb9]; decide)] at hr
      exact hJ4 a.length _ ⟨[], a, rfl, rfl, rfl, hr⟩
  · rintro m i ⟨pre, post, hL, rfl, hi, hr⟩ sf0 sf1 J4 hJ4
    have hf := fact_sl sf0
    simp only [List.length_map] at hf
    have hlen : a.length = pre.length + post.length := by rw [hL, List.length_append]
    unfold q104_4
    cases post with
    | nil =>
      simp only [List.length_nil] at hlen
      rw [F104_4] at hr
      refine ⟨fun h => absurd h (by simp only [decide_eq_true_eq, List.length_map]; omega), fun _ => ?_⟩
      obtain rfl := Option.some.inj hr
      exact by first | rfl | trivial | simp [Ty.row_eq, Ex.row_eq, I.row_eq, S.row_eq, Il.row_eq, Cf.row_eq, Ch.row_eq]
    | cons x post =>
      simp only [List.length_cons] at hlen
      rw [F104_4] at hr
      have hrow : List.getD (List.map Ty.row a) (Int.toNat i) [] = Ty.row x := by rw [hL, hi, Int.toNat_natCast, getD_mid]
      refine ⟨fun _ => ?_, fun h => absurd h (by simp only [decide_eq_false_iff_not, List.length_map]; omega)⟩
      refine ⟨⟨by omega, by simp only [List.length_map]; omega, by rw [hrow, Ty.row_eq]; rfl⟩, ?_⟩
      refine ⟨x.k, (List.map Ty.row x.ar), by rw [hrow, Ty.row_eq]; rfl, ?_⟩
      by_cases hg8 : (0 : Int) ≤ i
      · rw [if_pos hg8] at hr
        cases hx2 : b[Int.toNat i]? with
        | none => rw [hx2] at hr; cases hr
        | some x1 =>
          rw [hx2] at hr
          dsimp only at hr
          have hrow3 : List.getD (List.map Ty.row b) (Int.toNat i) [] = Ty.row x1 := idx_row hx2
          refine ⟨(idx_ok hx2 ⟨by omega, rfl⟩ Ty.row_len), ?_⟩
          refine ⟨x1.k, (List.map Ty.row x1.ar), by rw [hrow3, Ty.row_eq]; rfl, ?_⟩
          cases hv7 : (F51 x x1) with
          | none => rw [hv7] at hr; cases hr
          | some v4 =>
            rw [hv7] at hr
            dsimp only at hr
            refine (ih x (hS _ (by rw [hL]; simp)) x1 _ hv7).imp ?_
            rintro r6_0 er6_0
            obtain rfl := er6_0.symm
            refine ⟨fun hb5 => ?_, fun hb5 => ?_⟩
            · rw [if_pos hb5] at hr
              obtain rfl := Option.some.inj hr
              exact by first | rfl | trivial | (simp only [hrow, hrow3]; simp [Ty.row_eq, Ex.row_eq, I.row_eq, S.row_eq, Il.row_eq, Cf.row_eq, Ch.row_eq]; done) | simp [Ty.row_eq, Ex.row_eq, I.row_eq, S.row_eq, Il.row_eq, Cf.row_eq, Ch.row_eq]
            · rw [if_neg (by rw [hb5]; decide)] at hr
              exact hJ4 post.length _ (by simp) ⟨pre ++ [x], post, by simp [hL], rfl, by rw [wrap_id (by omega) (by omega), hi]; simp, by rw [wrap_id (by omega) (by omega)]; exact hr⟩
      · rw [if_neg hg8] at hr; cases hr
theorem c51 : ∀ (a : Ty) (b : Ty) (RES : Bool), F51 a b = some RES →
    C Try.prog 51 [.val true [.c (.int .i64 a.k), .c (.sl 32 (List.map Ty.row a.ar))], .val true [.c (.int .i64 b.k), .c (.sl 32 (List.map Ty.row b.ar))]] sg51 (fun r0 => r0 = RES) := by
  intro a
  induction a using Ty.ind with
  | _ a_k a_ar ih =>
  intro b RES hr
  show C Try.prog 51 [.val true [.c (.int .i64 a_k), .c (.sl 32 (List.map Ty.row a_ar))], .val true [.c (.int .i64 b.k), .c (.sl 32 (List.map Ty.row b.ar))]] sg51 (fun r0 => r0 = RES)
  refine r51 a_k (List.map Ty.row a_ar) b.k (List.map Ty.row b.ar) _  ?_
  · intro ef0 ef1 ef2 ef3
    unfold q51
    rw [F51] at hr
    have hr : (if (a_k == b.k) = true then (match (generalizing := false) (F104 a_ar b.ar) with | some v2 => some v2 | none => none) else some false) = some RES := hr
    refine ⟨fun hb1 => ?_, fun hb1 => ?_⟩
    · rw [if_pos hb1] at hr
      cases hv4 : (F104 a_ar b.ar) with
      | none => rw [hv4] at hr; cases hr
      | some v2 =>
        rw [hv4] at hr
        dsimp only at hr
        refine (c104 (· ∈ a_ar) ih a_ar b.ar (fun _ h => h) _ hv4).imp ?_
        rintro r3_0 er3_0
        obtain rfl := er3_0.symm
        obtain rfl := Option.some.inj hr
        exact by first | rfl | trivial | simp [Ty.row_eq, Ex.row_eq, I.row_eq, S.row_eq, Il.row_eq, Cf.row_eq, Ch.row_eq]
    · rw [if_neg (by rw [hb1]; decide)] at hr
      obtain rfl := Option.some.inj hr
      exact by first | rfl | trivial | simp [Ty.row_eq, Ex.row_eq, I.row_eq, S.row_eq, Il.row_eq, Cf.row_eq, Ch.row_eq]

noncomputable def cx155 : Cx := { P := Try.prog, sg := fun i => (alook [(139, sg139), (155, sg155)] i).getD ⟨[], []⟩, mv := fun i => (alook [] i).getD [], head := fun i => (alook [(4, ⟨3000, 3, [⟨1, [some (48, 6, 88)]⟩, ⟨2, []⟩, ⟨15, [some (48, 6, 88)]⟩, ⟨16, [none]⟩, ⟨17, [none]⟩]⟩)] i).getD ⟨0, 0, []⟩, ord := fun i => (alook [] i).getD [] }
noncomputable def st155_4 (a : List (List D)) (b : List (List D)) (n17 : Int) : St := (St.of [(17, .v false [.c (.int .i64 n17)]), (16, .v false [.c (.int .i64 (↑(List.length a) : Int))]), (15, .v false [.c (.sl 88 a)]), (2, .fn 139 []), (1, .v false [.c (.sl 88 b)])] [] [] 3064 32)
def q155 (a : List (List D)) (b : List (List D))  (J4 : Int → Prop) (R : Bool → Prop) : Prop :=
  ((((↑(List.length a) : Int) != (↑(List.length b) : Int)) = true → R false) ∧
  (((↑(List.length a) : Int) != (↑(List.length b) : Int)) = false → J4 (0 : Int)))
theorem v155 (a : List (List D)) (b : List (List D))  (J : List Item → St → Prop) (R : Bool → Prop) : wpt cx155 J (fin Try.prog Try.f155.results.toList sg155 R) 100000 [.code (Try.f155.body.getD .skip)] (initSt [.val false [.c (.sl 88 a)], .val false [.c (.sl 88 b)], .fn 139 []] 32) = q155 a b  (fun n17 => J (td (Try.f155.body.getD .skip) 4) (st155_4 a b n17)) R := by kernel_rfl
def q155_4 (a : List (List D)) (b : List (List D)) (n17 : Int) (J4 : Int → Prop) (R : Bool → Prop) : Prop :=
  ((decide (n17 < (↑(List.length a) : Int)) = true → (((0 : Int) ≤ n17 ∧ n17 < (↑(List.length a) : Int) ∧ List.length (List.getD a (Int.toNat n17) []) = (6 : Nat)) ∧
  (∃ n, (∃ s, (∃ n1, (∃ n2, (∃ xs, (∃ xs1, ((List.take (6 : Nat) (List.drop (0 : Nat) (List.getD a (Int.toNat n17) [])) = [D.int IntKind.i64 n, D.str s, D.int IntKind.i64 n1, D.int IntKind.i64 n2, D.sl (32 : Nat) xs, D.sl (88 : Nat) xs1]) ∧
  (((0 : Int) ≤ n17 ∧ n17 < (↑(List.length b) : Int) ∧ List.length (List.getD b (Int.toNat n17) []) = (6 : Nat)) ∧
  (∃ n3, (∃ s1, (∃ n4, (∃ n5, (∃ xs2, (∃ xs3, ((List.take (6 : Nat) (List.drop (0 : Nat) (List.getD b (Int.toNat n17) [])) = [D.int IntKind.i64 n3, D.str s1, D.int IntKind.i64 n4, D.int IntKind.i64 n5, D.sl (32 : Nat) xs2, D.sl (88 : Nat) xs3]) ∧
  C Try.prog 139 [.val true [.c (.int .i64 n), .c (.str s), .c (.int .i64 n1), .c (.int .i64 n2), .c (.sl 32 xs), .c (.sl 88 xs1)], .val true [.c (.int .i64 n3), .c (.str s1), .c (.int .i64 n4), .c (.int .i64 n5), .c (.sl 32 xs2), .c (.sl 88 xs3)]] sg139 (fun b1 => (((!b1) = true → R false) ∧
  ((!b1) = false → J4 (IntKind.wrap IntKind.i64 (n17 + (1 : Int))))))))))))))))))))))) ∧
  (decide (n17 < (↑(List.length a) : Int)) = false → R true))
theorem v155_4 (a : List (List D)) (b : List (List D)) (n17 : Int) (J : List Item → St → Prop) (R : Bool → Prop) : wpt cx155 J (fin Try.prog Try.f155.results.toList sg155 R) 100000 (td (Try.f155.body.getD .skip) 4) (st155_4 a b n17) = q155_4 a b n17 (fun n17 => J (td (Try.f155.body.getD .skip) 4) (st155_4 a b n17)) R := by kernel_rfl
theorem r155 (a : List (List D)) (b : List (List D)) (R : Bool → Prop) (I4 : Nat → Int → Prop)
    (h : DFact (.sl 88 a) → DFact (.sl 88 b) → ∀ (J4 : Int → Prop), (∀ m n17', I4 m n17' → J4 n17') → q155 a b J4 R)
    (h4 : ∀ x (n17 : Int), I4 x n17 → DFact (.sl 88 a) → DFact (.sl 88 b) → ∀ (J4 : Int → Prop), (∀ m n17', m < x → I4 m n17' → J4 n17') → q155_4 a b n17 J4 R) :
    C Try.prog 155 [.val false [.c (.sl 88 a)], .val false [.c (.sl 88 b)], .fn 139 []] sg155 R :=
  C_rule (cx := cx155) (P := Try.prog) (f := 155) (fn := Try.f155) (c := (Try.f155.body.getD .skip)) (args := [.val false [.c (.sl 88 a)], .val false [.c (.sl 88 b)], .fn 139 []]) (sg := sg155) (rv := Try.f155.results.toList) (N := 32) (R := R) (μ := Nat) (lt := (· < ·)) Nat.lt_wfRel.wf (fun m td st => (∃ (n17 : Int), td = _root_.Go.Gl.td (Try.f155.body.getD .skip) 4 ∧ st = st155_4 a b n17 ∧ I4 m n17)) (by kernel_rfl) (by kernel_rfl) Try.func155 (by kernel_rfl) (by kernel_rfl) (by kernel_rfl) (by kernel_rfl) (by kernel_rfl)
    (fun x td st h hf => by
      obtain ⟨n17, rfl, rfl, hi⟩ := h
      rw [v155_4]
      exact h4 x n17 hi (hf.sd 15 false [.c (.sl 88 a)] 0 (.sl 88 a) (by kernel_rfl) (by kernel_rfl)) (hf.sd 1 false [.c (.sl 88 b)] 0 (.sl 88 b) (by kernel_rfl) (by kernel_rfl)) _ (fun m n17 hm hi => ⟨m, hm, ⟨n17, rfl, rfl, hi⟩⟩))
    (fun hf => by rw [v155]; exact h (hf.sd 0 false [.c (.sl 88 a)] 0 (.sl 88 a) (by kernel_rfl) (by kernel_rfl)) (hf.sd 1 false [.c (.sl 88 b)] 0 (.sl 88 b) (by kernel_rfl) (by kernel_rfl)) _ (fun m n17 hi => ⟨m, ⟨n17, rfl, rfl, hi⟩⟩))

noncomputable def cx139 : Cx := { P := Try.prog, sg := fun i => (alook [(51, sg51), (155, sg155), (139, sg139)] i).getD ⟨[], []⟩, mv := fun i => (alook [] i).getD [], head := fun i => (alook [] i).getD ⟨0, 0, []⟩, ord := fun i => (alook [] i).getD [] }
def q139 (a0 : Int) (a1 : List UInt8) (a2 : Int) (a3 : Int) (a4 : List (List D)) (a5 : List (List D)) (b0 : Int) (b1 : List UInt8) (b2 : Int) (b3 : Int) (b4 : List (List D)) (b5 : List (List D))   (R : Bool → Prop) : Prop :=
  (((a0 == b0) = true → (((a1 == b1) = true → (((a2 == b2) = true → C Try.prog 51 [.val true [.c (.int .i64 a3), .c (.sl 32 a4)], .val true [.c (.int .i64 b3), .c (.sl 32 b4)]] sg51 (fun b => ((b = true → C Try.prog 155 [.val false [.c (.sl 88 a5)], .val false [.c (.sl 88 b5)], .fn 139 []] sg155 (fun b6 => R b6)) ∧
  (b = false → R false)))) ∧
  ((a2 == b2) = false → ((false = true → C Try.prog 155 [.val false [.c (.sl 88 a5)], .val false [.c (.sl 88 b5)], .fn 139 []] sg155 (fun b => R b)) ∧
  (false = false → R false))))) ∧
  ((a1 == b1) = false → ((false = true → C Try.prog 51 [.val true [.c (.int .i64 a3), .c (.sl 32 a4)], .val true [.c (.int .i64 b3), .c (.sl 32 b4)]] sg51 (fun b => ((b = true → C Try.prog 155 [.val false [.c (.sl 88 a5)], .val false [.c (.sl 88 b5)], .fn 139 []] sg155 (fun b6 => R b6)) ∧
  (b = false → R false)))) ∧
  (false = false → ((false = true → C Try.prog 155 [.val false [.c (.sl 88 a5)], .val false [.c (.sl 88 b5)], .fn 139 []] sg155 (fun b => R b)) ∧
  (false = false → R false))))))) ∧
  ((a0 == b0) = false → ((false = true → (((a2 == b2) = true → C Try.prog 51 [.val true [.c (.int .i64 a3), .c (.sl 32 a4)], .val true [.c (.int .i64 b3), .c (.sl 32 b4)]] sg51 (fun b => ((b = true → C Try.prog 155 [.val false [.c (.sl 88 a5)], .val false [.c (.sl 88 b5)], .fn 139 []] sg155 (fun b6 => R b6)) ∧
  (b = false → R false)))) ∧
  ((a2 == b2) = false → ((false = true → C Try.prog 155 [.val false [.c (.sl 88 a5)], .val false [.c (.sl 88 b5)], .fn 139 []] sg155 (fun b => R b)) ∧
  (false = false → R false))))) ∧
  (false = false → ((false = true → C Try.prog 51 [.val true [.c (.int .i64 a3), .c (.sl 32 a4)], .val true [.c (.int .i64 b3), .c (.sl 32 b4)]] sg51 (fun b => ((b = true → C Try.prog 155 [.val false [.c (.sl 88 a5)], .val false [.c (.sl 88 b5)], .fn 139 []] sg155 (fun b6 => R b6)) ∧
  (b = false → R false)))) ∧
  (false = false → ((false = true → C Try.prog 155 [.val false [.c (.sl 88 a5)], .val false [.c (.sl 88 b5)], .fn 139 []] sg155 (fun b => R b)) ∧
  (false = false → R false))))))))
theorem v139 (a0 : Int) (a1 : List UInt8) (a2 : Int) (a3 : Int) (a4 : List (List D)) (a5 : List (List D)) (b0 : Int) (b1 : List UInt8) (b2 : Int) (b3 : Int) (b4 : List (List D)) (b5 : List (List D))  (J : List Item → St → Prop) (R : Bool → Prop) : wpt cx139 J (fin Try.prog Try.f139.results.toList sg139 R) 100000 [.code (Try.f139.body.getD .skip)] (initSt [.val true [.c (.int .i64 a0), .c (.str a1), .c (.int .i64 a2), .c (.int .i64 a3), .c (.sl 32 a4), .c (.sl 88 a5)], .val true [.c (.int .i64 b0), .c (.str b1), .c (.int .i64 b2), .c (.int .i64 b3), .c (.sl 32 b4), .c (.sl 88 b5)]] 38) = q139 a0 a1 a2 a3 a4 a5 b0 b1 b2 b3 b4 b5   R := by kernel_rfl
theorem r139 (a0 : Int) (a1 : List UInt8) (a2 : Int) (a3 : Int) (a4 : List (List D)) (a5 : List (List D)) (b0 : Int) (b1 : List UInt8) (b2 : Int) (b3 : Int) (b4 : List (List D)) (b5 : List (List D)) (R : Bool → Prop) 
    (h : DFact (.int .i64 a0) → DFact (.str a1) → DFact (.int .i64 a2) → DFact (.int .i64 a3) → DFact (.sl 32 a4) → DFact (.sl 88 a5) → DFact (.int .i64 b0) → DFact (.str b1) → DFact (.int .i64 b2) → DFact (.int .i64 b3) → DFact (.sl 32 b4) → DFact (.sl 88 b5) → q139 a0 a1 a2 a3 a4 a5 b0 b1 b2 b3 b4 b5  R) :
    C Try.prog 139 [.val true [.c (.int .i64 a0), .c (.str a1), .c (.int .i64 a2), .c (.int .i64 a3), .c (.sl 32 a4), .c (.sl 88 a5)], .val true [.c (.int .i64 b0), .c (.str b1), .c (.int .i64 b2), .c (.int .i64 b3), .c (.sl 32 b4), .c (.sl 88 b5)]] sg139 R :=
  C_rule (cx := cx139) (P := Try.prog) (f := 139) (fn := Try.f139) (c := (Try.f139.body.getD .skip)) (args := [.val true [.c (.int .i64 a0), .c (.str a1), .c (.int .i64 a2), .c (.int .i64 a3), .c (.sl 32 a4), .c (.sl 88 a5)], .val true [.c (.int .i64 b0), .c (.str b1), .c (.int .i64 b2), .c (.int .i64 b3), .c (.sl 32 b4), .c (.sl 88 b5)]]) (sg := sg139) (rv := Try.f139.results.toList) (N := 38) (R := R) (μ := Nat) (lt := (· < ·)) Nat.lt_wfRel.wf (fun m td st => False) (by kernel_rfl) (by kernel_rfl) Try.func139 (by kernel_rfl) (by kernel_rfl) (by kernel_rfl) (by kernel_rfl) (by kernel_rfl)
    (fun _ _ _ h => h.elim)
    (fun hf => by rw [v139]; exact h (hf.sd 0 true [.c (.int .i64 a0), .c (.str a1), .c (.int .i64 a2), .c (.int .i64 a3), .c (.sl 32 a4), .c (.sl 88 a5)] 0 (.int .i64 a0) (by kernel_rfl) (by kernel_rfl)) (hf.sd 0 true [.c (.int .i64 a0), .c (.str a1), .c (.int .i64 a2), .c (.int .i64 a3), .c (.sl 32 a4), .c (.sl 88 a5)] 1 (.str a1) (by kernel_rfl) (by kernel_rfl)) (hf.sd 0 true [.c (.int .i64 a0), .c (.str a1), .c (.int .i64 a2), .c (.int .i64 a3), .c (.sl 32 a4), .c (.sl 88 a5)] 2 (.int .i64 a2) (by kernel_rfl) (by kernel_rfl)) (hf.sd 0 true [.c (.int .i64 a0), .c (.str a1), .c (.int .i64 a2), .c (.int .i64 a3), .c (.sl 32 a4), .c (.sl 88 a5)] 3 (.int .i64 a3) (by kernel_rfl) (by kernel_rfl)) (hf.sd 0 true [.c (.int .i64 a0), .c (.str a1), .c (.int .i64 a2), .c (.int .i64 a3), .c (.sl 32 a4), .c (.sl 88 a5)] 4 (.sl 32 a4) (by kernel_rfl) (by kernel_rfl)) (hf.sd 0 true [.c (.int .i64 a0), .c (.str a1), .c (.int .i64 a2), .c (.int .i64 a3), .c (.sl 32 a4), .c (.sl 88 a5)] 5 (.sl 88 a5) (by kernel_rfl) (by kernel_rfl)) (hf.sd 1 true [.c (.int .i64 b0), .c (.str b1), .c (.int .i64 b2), .c (.int .i64 b3), .c (.sl 32 b4), .c (.sl 88 b5)] 0 (.int .i64 b0) (by kernel_rfl) (by kernel_rfl)) (hf.sd 1 true [.c (.int .i64 b0), .c (.str b1), .c (.int .i64 b2), .c (.int .i64 b3), .c (.sl 32 b4), .c (.sl 88 b5)] 1 (.str b1) (by kernel_rfl) (by kernel_rfl)) (hf.sd 1 true [.c (.int .i64 b0), .c (.str b1), .c (.int .i64 b2), .c (.int .i64 b3), .c (.sl 32 b4), .c (.sl 88 b5)] 2 (.int .i64 b2) (by kernel_rfl) (by kernel_rfl)) (hf.sd 1 true [.c (.int .i64 b0), .c (.str b1), .c (.int .i64 b2), .c (.int .i64 b3), .c (.sl 32 b4), .c (.sl 88 b5)] 3 (.int .i64 b3) (by kernel_rfl) (by kernel_rfl)) (hf.sd 1 true [.c (.int .i64 b0), .c (.str b1), .c (.int .i64 b2), .c (.int .i64 b3), .c (.sl 32 b4), .c (.sl 88 b5)] 4 (.sl 32 b4) (by kernel_rfl) (by kernel_rfl)) (hf.sd 1 true [.c (.int .i64 b0), .c (.str b1), .c (.int .i64 b2), .c (.int .i64 b3), .c (.sl 32 b4), .c (.sl 88 b5)] 5 (.sl 88 b5) (by kernel_rfl) (by kernel_rfl)) )

mutual
def F139 : Ex → Ex → Option Bool
  | .mk a_k a_nm a_n a_t a_ar, b => (if (a_k == b.k) = true then (if (a_nm == b.nm) = true then (if (a_n == b.n) = true then (match (F51 a_t b.t) with | some v4 => (if v4 = true then (match ((if ((↑(List.length (List.map Ex.row a_ar)) : Int) != (↑(List.length (List.map Ex.row b.ar)) : Int)) = true then some false else (F155_4 b.ar 0 a_ar))) with | some v6 => some v6 | none => none) else some false) | none => none) else some false) else some false) else some false)
def F155_4 (b : List Ex) : Int → (List Ex) → Option Bool
  | i, [] => some true
  | i, x :: post => (if (0 : Int) ≤ i then (match b[Int.toNat i]? with | some x1 => (match (F139 x x1) with | some v4 => (if (!v4) = true then some false else (F155_4 b (i + 1) post)) | none => none) | none => none) else none)
end
def F155 (a : List Ex) (b : List Ex) : Option Bool := (if ((↑(List.length (List.map Ex.row a)) : Int) != (↑(List.length (List.map Ex.row b)) : Int)) = true then some false else (F155_4 b 0 a))
theorem c155 (S : Ex → Prop) (ih : ∀ a, S a → ∀ (b : Ex) (RES : Bool), F139 a b = some RES → C Try.prog 139 [.val true [.c (.int .i64 a.k), .c (.str a.nm), .c (.int .i64 a.n), .c (.int .i64 a.t.k), .c (.sl 32 (List.map Ty.row a.t.ar)), .c (.sl 88 (List.map Ex.row a.ar))], .val true [.c (.int .i64 b.k), .c (.str b.nm), .c (.int .i64 b.n), .c (.int .i64 b.t.k), .c (.sl 32 (List.map Ty.row b.t.ar)), .c (.sl 88 (List.map Ex.row b.ar))]] sg139 (fun r0 => r0 = RES)) (a : List Ex) (b : List Ex) (hS : ∀ x ∈ a, S x) (RES : Bool) (hr : F155 a b = some RES) :
    C Try.prog 155 [.val false [.c (.sl 88 (List.map Ex.row a))], .val false [.c (.sl 88 (List.map Ex.row b))], .fn 139 []] sg155 (fun r0 => r0 = RES) := by
  refine r155 (List.map Ex.row a) (List.map Ex.row b) _ (fun m i => ∃ pre post, a = pre ++ post ∧ m = post.length ∧ i = (pre.length : Int) ∧ F155_4 b i post = some RES) ?_ ?_
  · intro ef0 ef1 J4 hJ4
    unfold q155
    rw [F155] at hr
    refine ⟨fun hb9 => ?_, fun hb9 => ?_⟩
    · rw [if_pos hb9] at hr
      obtain rfl := Option.some.inj hr
      exact by first | rfl | trivial | simp [Ty.row_eq, Ex.row_eq, I.row_eq, S.row_eq, Il.row_eq, Cf.row_eq, Ch.row_eq]
    · rw [if_neg (by rw [hb9]; decide)] at hr
      exact hJ4 a.length _ ⟨[], a, rfl, rfl, rfl, hr⟩
  · rintro m i ⟨pre, post, hL, rfl, hi, hr⟩ sf0 sf1 J4 hJ4
    have hf := fact_sl sf0
    simp only [List.length_map] at hf
    have hlen : a.length = pre.length + post.length := by rw [hL, List.length_append]
    unfold q155_4
    cases post with
    | nil =>
      simp only [List.length_nil] at hlen
      rw [F155_4] at hr
      refine ⟨fun h => absurd h (by simp only [decide_eq_true_eq, List.length_map]; omega), fun _ => ?_⟩
      obtain rfl := Option.some.inj hr
      exact by first | rfl | trivial | simp [Ty.row_eq, Ex.row_eq, I.row_eq, S.row_eq, Il.row_eq, Cf.row_eq, Ch.row_eq]
    | cons x post =>
      simp only [List.length_cons] at hlen
      rw [F155_4] at hr
      have hrow : List.getD (List.map Ex.row a) (Int.toNat i) [] = Ex.row x := by rw [hL, hi, Int.toNat_natCast, getD_mid]
      refine ⟨fun _ => ?_, fun h => absurd h (by simp only [decide_eq_false_iff_not, List.length_map]; omega)⟩
      refine ⟨⟨by omega, by simp only [List.length_map]; omega, by rw [hrow, Ex.row_eq]; rfl⟩, ?_⟩
      refine ⟨x.k, x.nm, x.n, x.t.k, (List.map Ty.row x.t.ar), (List.map Ex.row x.ar), by rw [hrow, Ex.row_eq]; rfl, ?_⟩
      by_cases hg8 : (0 : Int) ≤ i
      · rw [if_pos hg8] at hr
        cases hx2 : b[Int.toNat i]? with
        | none => rw [hx2] at hr; cases hr
        | some x1 =>
          rw [hx2] at hr
          dsimp only at hr
          have hrow3 : List.getD (List.map Ex.row b) (Int.toNat i) [] = Ex.row x1 := idx_row hx2
          refine ⟨(idx_ok hx2 ⟨by omega, rfl⟩ Ex.row_len), ?_⟩
          refine ⟨x1.k, x1.nm, x1.n, x1.t.k, (List.map Ty.row x1.t.ar), (List.map Ex.row x1.ar), by rw [hrow3, Ex.row_eq]; rfl, ?_⟩
          cases hv7 : (F139 x x1) with
          | none => rw [hv7] at hr; cases hr
          | some v4 =>
            rw [hv7] at hr
            dsimp only at hr
            refine (ih x (hS _ (by rw [hL]; simp)) x1 _ hv7).imp ?_
            rintro r6_0 er6_0
            obtain rfl := er6_0.symm
            refine ⟨fun hb5 => ?_, fun hb5 => ?_⟩
            · rw [if_pos hb5] at hr
              obtain rfl := Option.some.inj hr
              exact by first | rfl | trivial | (simp only [hrow, hrow3]; simp [Ty.row_eq, Ex.row_eq, I.row_eq, S.row_eq, Il.row_eq, Cf.row_eq, Ch.row_eq]; done) | simp [Ty.row_eq, Ex.row_eq, I.row_eq, S.row_eq, Il.row_eq, Cf.row_eq, Ch.row_eq]
            · rw [if_neg (by rw [hb5]; decide)] at hr
              exact hJ4 post.length _ (by simp) ⟨pre ++ [x], post, by simp [hL], rfl, by rw [wrap_id (by omega) (by omega), hi]; simp, by rw [wrap_id (by omega) (by omega)]; exact hr⟩
      · rw [if_neg hg8] at hr; cases hr
theorem c139 : ∀ (a : Ex) (b : Ex) (RES : Bool), F139 a b = some RES →
    C Try.prog 139 [.val true [.c (.int .i64 a.k), .c (.str a.nm), .c (.int .i64 a.n), .c (.int .i64 a.t.k), .c (.sl 32 (List.map Ty.row a.t.ar)), .c (.sl 88 (List.map Ex.row a.ar))], .val true [.c (.int .i64 b.k), .c (.str b.nm), .c (.int .i64 b.n), .c (.int .i64 b.t.k), .c (.sl 32 (List.map Ty.row b.t.ar)), .c (.sl 88 (List.map Ex.row b.ar))]] sg139 (fun r0 => r0 = RES) := by
  intro a
  induction a using Ex.ind with
  | _ a_k a_nm a_n a_t a_ar ih =>
  intro b RES hr
  show C Try.prog 139 [.val true [.c (.int .i64 a_k), .c (.str a_nm), .c (.int .i64 a_n), .c (.int .i64 a_t.k), .c (.sl 32 (List.map Ty.row a_t.ar)), .c (.sl 88 (List.map Ex.row a_ar))], .val true [.c (.int .i64 b.k), .c (.str b.nm), .c (.int .i64 b.n), .c (.int .i64 b.t.k), .c (.sl 32 (List.map Ty.row b.t.ar)), .c (.sl 88 (List.map Ex.row b.ar))]] sg139 (fun r0 => r0 = RES)
  refine r139 a_k a_nm a_n a_t.k (List.map Ty.row a_t.ar) (List.map Ex.row a_ar) b.k b.nm b.n b.t.k (List.map Ty.row b.t.ar) (List.map Ex.row b.ar) _  ?_
  · intro ef0 ef1 ef2 ef3 ef4 ef5 ef6 ef7 ef8 ef9 ef10 ef11
    unfold q139
    rw [F139] at hr
    have hr : (if (a_k == b.k) = true then (if (a_nm == b.nm) = true then (if (a_n == b.n) = true then (match (generalizing := false) (F51 a_t b.t) with | some v4 => (if v4 = true then (match (generalizing := false) (F155 a_ar b.ar) with | some v6 => some v6 | none => none) else some false) | none => none) else some false) else some false) else some false) = some RES := hr
    refine ⟨fun hb1 => ?_, fun hb1 => ?_⟩
    · rw [if_pos hb1] at hr
      refine ⟨fun hb2 => ?_, fun hb2 => ?_⟩
      · rw [if_pos hb2] at hr
        refine ⟨fun hb3 => ?_, fun hb3 => ?_⟩
        · rw [if_pos hb3] at hr
          cases hv10 : (F51 a_t b.t) with
          | none => rw [hv10] at hr; cases hr
          | some v4 =>
            rw [hv10] at hr
            dsimp only at hr
            refine (c51 a_t b.t _ hv10).imp ?_
            rintro r9_0 er9_0
            obtain rfl := er9_0.symm
            refine ⟨fun hb5 => ?_, fun hb5 => ?_⟩
            · rw [if_pos hb5] at hr
              cases hv8 : (F155 a_ar b.ar) with
              | none => rw [hv8] at hr; cases hr
              | some v6 =>
                rw [hv8] at hr
                dsimp only at hr
                refine (c155 (· ∈ a_ar) ih a_ar b.ar (fun _ h => h) _ hv8).imp ?_
                rintro r7_0 er7_0
                obtain rfl := er7_0.symm
                obtain rfl := Option.some.inj hr
                exact by first | rfl | trivial | simp [Ty.row_eq, Ex.row_eq, I.row_eq, S.row_eq, Il.row_eq, Cf.row_eq, Ch.row_eq]
            · rw [if_neg (by rw [hb5]; decide)] at hr
              obtain rfl := Option.some.inj hr
              exact by first | rfl | trivial | simp [Ty.row_eq, Ex.row_eq, I.row_eq, S.row_eq, Il.row_eq, Cf.row_eq, Ch.row_eq]
        · rw [if_neg (by rw [hb3]; decide)] at hr
          refine ⟨(fun h => nomatch h), fun _ => ?_⟩
          obtain rfl := Option.some.inj hr
          exact by first | rfl | trivial | simp [Ty.row_eq, Ex.row_eq, I.row_eq, S.row_eq, Il.row_eq, Cf.row_eq, Ch.row_eq]
      · rw [if_neg (by rw [hb2]; decide)] at hr
        refine ⟨(fun h => nomatch h), fun _ => ?_⟩
        refine ⟨(fun h => nomatch h), fun _ => ?_⟩
        obtain rfl := Option.some.inj hr
        exact by first | rfl | trivial | simp [Ty.row_eq, Ex.row_eq, I.row_eq, S.row_eq, Il.row_eq, Cf.row_eq, Ch.row_eq]
    · rw [if_neg (by rw [hb1]; decide)] at hr
      refine ⟨(fun h => nomatch h), fun _ => ?_⟩
      refine ⟨(fun h => nomatch h), fun _ => ?_⟩
      refine ⟨(fun h => nomatch h), fun _ => ?_⟩
      obtain rfl := Option.some.inj hr
      exact by first | rfl | trivial | simp [Ty.row_eq, Ex.row_eq, I.row_eq, S.row_eq, Il.row_eq, Cf.row_eq, Ch.row_eq]

noncomputable def cx95 : Cx := { P := Try.prog, sg := fun i => (alook [(120, sg120), (139, sg139), (95, sg95)] i).getD ⟨[], []⟩, mv := fun i => (alook [] i).getD [], head := fun i => (alook [] i).getD ⟨0, 0, []⟩, ord := fun i => (alook [] i).getD [] }
def q95 (a0 : List (List D)) (a1 : Int) (a2 : List UInt8) (a3 : Int) (a4 : Int) (a5 : List (List D)) (a6 : List (List D)) (b0 : List (List D)) (b1 : Int) (b2 : List UInt8) (b3 : Int) (b4 : Int) (b5 : List (List D)) (b6 : List (List D))   (R : Bool → Prop) : Prop :=
  C Try.prog 120 [.val false [.c (.sl 8 a0)], .val false [.c (.sl 8 b0)]] sg120 (fun b => ((b = true → C Try.prog 139 [.val true [.c (.int .i64 a1), .c (.str a2), .c (.int .i64 a3), .c (.int .i64 a4), .c (.sl 32 a5), .c (.sl 88 a6)], .val true [.c (.int .i64 b1), .c (.str b2), .c (.int .i64 b3), .c (.int .i64 b4), .c (.sl 32 b5), .c (.sl 88 b6)]] sg139 (fun b7 => R b7)) ∧
  (b = false → R false)))
theorem v95 (a0 : List (List D)) (a1 : Int) (a2 : List UInt8) (a3 : Int) (a4 : Int) (a5 : List (List D)) (a6 : List (List D)) (b0 : List (List D)) (b1 : Int) (b2 : List UInt8) (b3 : Int) (b4 : Int) (b5 : List (List D)) (b6 : List (List D))  (J : List Item → St → Prop) (R : Bool → Prop) : wpt cx95 J (fin Try.prog Try.f95.results.toList sg95 R) 100000 [.code (Try.f95.body.getD .skip)] (initSt [.val true [.c (.sl 8 a0), .c (.int .i64 a1), .c (.str a2), .c (.int .i64 a3), .c (.int .i64 a4), .c (.sl 32 a5), .c (.sl 88 a6)], .val true [.c (.sl 8 b0), .c (.int .i64 b1), .c (.str b2), .c (.int .i64 b3), .c (.int .i64 b4), .c (.sl 32 b5), .c (.sl 88 b6)]] 17) = q95 a0 a1 a2 a3 a4 a5 a6 b0 b1 b2 b3 b4 b5 b6   R := by kernel_rfl
theorem r95 (a0 : List (List D)) (a1 : Int) (a2 : List UInt8) (a3 : Int) (a4 : Int) (a5 : List (List D)) (a6 : List (List D)) (b0 : List (List D)) (b1 : Int) (b2 : List UInt8) (b3 : Int) (b4 : Int) (b5 : List (List D)) (b6 : List (List D)) (R : Bool → Prop) 
    (h : DFact (.sl 8 a0) → DFact (.int .i64 a1) → DFact (.str a2) → DFact (.int .i64 a3) → DFact (.int .i64 a4) → DFact (.sl 32 a5) → DFact (.sl 88 a6) → DFact (.sl 8 b0) → DFact (.int .i64 b1) → DFact (.str b2) → DFact (.int .i64 b3) → DFact (.int .i64 b4) → DFact (.sl 32 b5) → DFact (.sl 88 b6) → q95 a0 a1 a2 a3 a4 a5 a6 b0 b1 b2 b3 b4 b5 b6  R) :
    C Try.prog 95 [.val true [.c (.sl 8 a0), .c (.int .i64 a1), .c (.str a2), .c (.int .i64 a3), .c (.int .i64 a4), .c (.sl 32 a5), .c (.sl 88 a6)], .val true [.c (.sl 8 b0), .c (.int .i64 b1), .c (.str b2), .c (.int .i64 b3), .c (.int .i64 b4), .c (.sl 32 b5), .c (.sl 88 b6)]] sg95 R :=
  C_rule (cx := cx95) (P := Try.prog) (f := 95) (fn := Try.f95) (c := (Try.f95.body.getD .skip)) (args := [.val true [.c (.sl 8 a0), .c (.int .i64 a1), .c (.str a2), .c (.int .i64 a3), .c (.int .i64 a4), .c (.sl 32 a5), .c (.sl 88 a6)], .val true [.c (.sl 8 b0), .c (.int .i64 b1), .c (.str b2), .c (.int .i64 b3), .c (.int .i64 b4), .c (.sl 32 b5), .c (.sl 88 b6)]]) (sg := sg95) (rv := Try.f95.results.toList) (N := 17) (R := R) (μ := Nat) (lt := (· < ·)) Nat.lt_wfRel.wf (fun m td st => False) (by kernel_rfl) (by kernel_rfl) Try.func95 (by kernel_rfl) (by kernel_rfl) (by kernel_rfl) (by kernel_rfl) (by kernel_rfl)
    (fun _ _ _ h => h.elim)
    (fun hf => by rw [v95]; exact h (hf.sd 0 true [.c (.sl 8 a0), .c (.int .i64 a1), .c (.str a2), .c (.int .i64 a3), .c (.int .i64 a4), .c (.sl 32 a5), .c (.sl 88 a6)] 0 (.sl 8 a0) (by kernel_rfl) (by kernel_rfl)) (hf.sd 0 true [.c (.sl 8 a0), .c (.int .i64 a1), .c (.str a2), .c (.int .i64 a3), .c (.int .i64 a4), .c (.sl 32 a5), .c (.sl 88 a6)] 1 (.int .i64 a1) (by kernel_rfl) (by kernel_rfl)) (hf.sd 0 true [.c (.sl 8 a0), .c (.int .i64 a1), .c (.str a2), .c (.int .i64 a3), .c (.int .i64 a4), .c (.sl 32 a5), .c (.sl 88 a6)] 2 (.str a2) (by kernel_rfl) (by kernel_rfl)) (hf.sd 0 true [.c (.sl 8 a0), .c (.int .i64 a1), .c (.str a2), .c (.int .i64 a3), .c (.int .i64 a4), .c (.sl 32 a5), .c (.sl 88 a6)] 3 (.int .i64 a3) (by kernel_rfl) (by kernel_rfl)) (hf.sd 0 true [.c (.sl 8 a0), .c (.int .i64 a1), .c (.str a2), .c (.int .i64 a3), .c (.int .i64 a4), .c (.sl 32 a5), .c (.sl 88 a6)] 4 (.int .i64 a4) (by kernel_rfl) (by kernel_rfl)) (hf.sd 0 true [.c (.sl 8 a0), .c (.int .i64 a1), .c (.str a2), .c (.int .i64 a3), .c (.int .i64 a4), .c (.sl 32 a5), .c (.sl 88 a6)] 5 (.sl 32 a5) (by kernel_rfl) (by kernel_rfl)) (hf.sd 0 true [.c (.sl 8 a0), .c (.int .i64 a1), .c (.str a2), .c (.int .i64 a3), .c (.int .i64 a4), .c (.sl 32 a5), .c (.sl 88 a6)] 6 (.sl 88 a6) (by kernel_rfl) (by kernel_rfl)) (hf.sd 1 true [.c (.sl 8 b0), .c (.int .i64 b1), .c (.str b2), .c (.int .i64 b3), .c (.int .i64 b4), .c (.sl 32 b5), .c (.sl 88 b6)] 0 (.sl 8 b0) (by kernel_rfl) (by kernel_rfl)) (hf.sd 1 true [.c (.sl 8 b0), .c (.int .i64 b1), .c (.str b2), .c (.int .i64 b3), .c (.int .i64 b4), .c (.sl 32 b5), .c (.sl 88 b6)] 1 (.int .i64 b1) (by kernel_rfl) (by kernel_rfl)) (hf.sd 1 true [.c (.sl 8 b0), .c (.int .i64 b1), .c (.str b2), .c (.int .i64 b3), .c (.int .i64 b4), .c (.sl 32 b5), .c (.sl 88 b6)] 2 (.str b2) (by kernel_rfl) (by kernel_rfl)) (hf.sd 1 true [.c (.sl 8 b0), .c (.int .i64 b1), .c (.str b2), .c (.int .i64 b3), .c (.int .i64 b4), .c (.sl 32 b5), .c (.sl 88 b6)] 3 (.int .i64 b3) (by kernel_rfl) (by kernel_rfl)) (hf.sd 1 true [.c (.sl 8 b0), .c (.int .i64 b1), .c (.str b2), .c (.int .i64 b3), .c (.int .i64 b4), .c (.sl 32 b5), .c (.sl 88 b6)] 4 (.int .i64 b4) (by kernel_rfl) (by kernel_rfl)) (hf.sd 1 true [.c (.sl 8 b0), .c (.int .i64 b1), .c (.str b2), .c (.int .i64 b3), .c (.int .i64 b4), .c (.sl 32 b5), .c (.sl 88 b6)] 5 (.sl 32 b5) (by kernel_rfl) (by kernel_rfl)) (hf.sd 1 true [.c (.sl 8 b0), .c (.int .i64 b1), .c (.str b2), .c (.int .i64 b3), .c (.int .i64 b4), .c (.sl 32 b5), .c (.sl 88 b6)] 6 (.sl 88 b6) (by kernel_rfl) (by kernel_rfl)) )

@[irreducible] def F95 (a : Ch) (b : Ch) : Option Bool := (match (F120 a.p b.p) with | some v1 => (if v1 = true then (match (F139 a.e b.e) with | some v3 => some v3 | none => none) else some false) | none => none)
theorem c95 (a : Ch) (b : Ch) (RES : Bool) (hr : F95 a b = some RES) :
    C Try.prog 95 [.val true [.c (.sl 8 (List.map I.row a.p)), .c (.int .i64 a.e.k), .c (.str a.e.nm), .c (.int .i64 a.e.n), .c (.int .i64 a.e.t.k), .c (.sl 32 (List.map Ty.row a.e.t.ar)), .c (.sl 88 (List.map Ex.row a.e.ar))], .val true [.c (.sl 8 (List.map I.row b.p)), .c (.int .i64 b.e.k), .c (.str b.e.nm), .c (.int .i64 b.e.n), .c (.int .i64 b.e.t.k), .c (.sl 32 (List.map Ty.row b.e.t.ar)), .c (.sl 88 (List.map Ex.row b.e.ar))]] sg95 (fun r0 => r0 = RES) := by
  refine r95 (List.map I.row a.p) a.e.k a.e.nm a.e.n a.e.t.k (List.map Ty.row a.e.t.ar) (List.map Ex.row a.e.ar) (List.map I.row b.p) b.e.k b.e.nm b.e.n b.e.t.k (List.map Ty.row b.e.t.ar) (List.map Ex.row b.e.ar) _  ?_
  · intro ef0 ef1 ef2 ef3 ef4 ef5 ef6 ef7 ef8 ef9 ef10 ef11 ef12 ef13
    unfold q95
    rw [F95] at hr
    cases hv7 : (F120 a.p b.p) with
    | none => rw [hv7] at hr; cases hr
    | some v1 =>
      rw [hv7] at hr
      dsimp only at hr
      refine (c120 a.p b.p _ hv7).imp ?_
      rintro r6_0 er6_0
      obtain rfl := er6_0.symm
      refine ⟨fun hb2 => ?_, fun hb2 => ?_⟩
      · rw [if_pos hb2] at hr
        cases hv5 : (F139 a.e b.e) with
        | none => rw [hv5] at hr; cases hr
        | some v3 =>
          rw [hv5] at hr
          dsimp only at hr
          refine (c139 a.e b.e _ hv5).imp ?_
          rintro r4_0 er4_0
          obtain rfl := er4_0.symm
          obtain rfl := Option.some.inj hr
          exact by first | rfl | trivial | simp [Ty.row_eq, Ex.row_eq, I.row_eq, S.row_eq, Il.row_eq, Cf.row_eq, Ch.row_eq]
      · rw [if_neg (by rw [hb2]; decide)] at hr
        obtain rfl := Option.some.inj hr
        exact by first | rfl | trivial | simp [Ty.row_eq, Ex.row_eq, I.row_eq, S.row_eq, Il.row_eq, Cf.row_eq, Ch.row_eq]

noncomputable def cx94 : Cx := { P := Try.prog, sg := fun i => (alook [(95, sg95), (94, sg94)] i).getD ⟨[], []⟩, mv := fun i => (alook [] i).getD [], head := fun i => (alook [(4, ⟨3000, 3, [⟨1, [some (116, 7, 112)]⟩, ⟨2, []⟩, ⟨15, [some (116, 7, 112)]⟩, ⟨16, [none]⟩, ⟨17, [none]⟩]⟩)] i).getD ⟨0, 0, []⟩, ord := fun i => (alook [] i).getD [] }
noncomputable def st94_4 (a : List (List D)) (b : List (List D)) (n17 : Int) : St := (St.of [(17, .v false [.c (.int .i64 n17)]), (16, .v false [.c (.int .i64 (↑(List.length a) : Int))]), (15, .v false [.c (.sl 112 a)]), (2, .fn 95 []), (1, .v false [.c (.sl 112 b)])] [] [] 3064 32)
def q94 (a : List (List D)) (b : List (List D))  (J4 : Int → Prop) (R : Bool → Prop) : Prop :=
  ((((↑(List.length a) : Int) != (↑(List.length b) : Int)) = true → R false) ∧
  (((↑(List.length a) : Int) != (↑(List.length b) : Int)) = false → J4 (0 : Int)))
theorem v94 (a : List (List D)) (b : List (List D))  (J : List Item → St → Prop) (R : Bool → Prop) : wpt cx94 J (fin Try.prog Try.f94.results.toList sg94 R) 100000 [.code (Try.f94.body.getD .skip)] (initSt [.val false [.c (.sl 112 a)], .val false [.c (.sl 112 b)], .fn 95 []] 32) = q94 a b  (fun n17 => J (td (Try.f94.body.getD .skip) 4) (st94_4 a b n17)) R := by kernel_rfl
def q94_4 (a : List (List D)) (b : List (List D)) (n17 : Int) (J4 : Int → Prop) (R : Bool → Prop) : Prop :=
  ((decide (n17 < (↑(List.length a) : Int)) = true → (((0 : Int) ≤ n17 ∧ n17 < (↑(List.length a) : Int) ∧ List.length (List.getD a (Int.toNat n17) []) = (7 : Nat)) ∧
  (∃ xs, (∃ n, (∃ s, (∃ n1, (∃ n2, (∃ xs1, (∃ xs2, ((List.take (7 : Nat) (List.drop (0 : Nat) (List.getD a (Int.toNat n17) [])) = [D.sl (8 : Nat) xs, D.int IntKind.i64 n, D.str s, D.int IntKind.i64 n1, D.int IntKind.i64 n2, D.sl (32 : Nat) xs1, D.sl (88 : Nat) xs2]) ∧
  (((0 : Int) ≤ n17 ∧ n17 < (↑(List.length b) : Int) ∧ List.length (List.getD b (Int.toNat n17) []) = (7 : Nat)) ∧
  (∃ xs3, (∃ n3, (∃ s1, (∃ n4, (∃ n5, (∃ xs4, (∃ xs5, ((List.take (7 : Nat) (List.drop (0 : Nat) (List.getD b (Int.toNat n17) [])) = [D.sl (8 : Nat) xs3, D.int IntKind.i64 n3, D.str s1, D.int IntKind.i64 n4, D.int IntKind.i64 n5, D.sl (32 : Nat) xs4, D.sl (88 : Nat) xs5]) ∧
  C Try.prog 95 [.val true [.c (.sl 8 xs), .c (.int .i64 n), .c (.str s), .c (.int .i64 n1), .c (.int .i64 n2), .c (.sl 32 xs1), .c (.sl 88 xs2)], .val true [.c (.sl 8 xs3), .c (.int .i64 n3), .c (.str s1), .c (.int .i64 n4), .c (.int .i64 n5), .c (.sl 32 xs4), .c (.sl 88 xs5)]] sg95 (fun b1 => (((!b1) = true → R false) ∧
  ((!b1) = false → J4 (IntKind.wrap IntKind.i64 (n17 + (1 : Int))))))))))))))))))))))))) ∧
  (decide (n17 < (↑(List.length a) : Int)) = false → R true))
theorem v94_4 (a : List (List D)) (b : List (List D)) (n17 : Int) (J : List Item → St → Prop) (R : Bool → Prop) : wpt cx94 J (fin Try.prog Try.f94.results.toList sg94 R) 100000 (td (Try.f94.body.getD .skip) 4) (st94_4 a b n17) = q94_4 a b n17 (fun n17 => J (td (Try.f94.body.getD .skip) 4) (st94_4 a b n17)) R := by kernel_rfl
theorem r94 (a : List (List D)) (b : List (List D)) (R : Bool → Prop) (I4 : Nat → Int → Prop)
    (h : DFact (.sl 112 a) → DFact (.sl 112 b) → ∀ (J4 : Int → Prop), (∀ m n17', I4 m n17' → J4 n17') → q94 a b J4 R)
    (h4 : ∀ x (n17 : Int), I4 x n17 → DFact (.sl 112 a) → DFact (.sl 112 b) → ∀ (J4 : Int → Prop), (∀ m n17', m < x → I4 m n17' → J4 n17') → q94_4 a b n17 J4 R) :
    C Try.prog 94 [.val false [.c (.sl 112 a)], .val false [.c (.sl 112 b)], .fn 95 []] sg94 R :=
  C_rule (cx := cx94) (P := Try.prog) (f := 94) (fn := Try.f94) (c := (Try.f94.body.getD .skip)) (args := [.val false [.c (.sl 112 a)], .val false [.c (.sl 112 b)], .fn 95 []]) (sg := sg94) (rv := Try.f94.results.toList) (N := 32) (R := R) (μ := Nat) (lt := (· < ·)) Nat.lt_wfRel.wf (fun m td st => (∃ (n17 : Int), td = _root_.Go.Gl.td (Try.f94.body.getD .skip) 4 ∧ st = st94_4 a b n17 ∧ I4 m n17)) (by kernel_rfl) (by kernel_rfl) Try.func94 (by kernel_rfl) (by kernel_rfl) (by kernel_rfl) (by kernel_rfl) (by kernel_rfl)
    (fun x td st h hf => by
      obtain ⟨n17, rfl, rfl, hi⟩ := h
      rw [v94_4]
      exact h4 x n17 hi (hf.sd 15 false [.c (.sl 112 a)] 0 (.sl 112 a) (by kernel_rfl) (by kernel_rfl)) (hf.sd 1 false [.c (.sl 112 b)] 0 (.sl 112 b) (by kernel_rfl) (by kernel_rfl)) _ (fun m n17 hm hi => ⟨m, hm, ⟨n17, rfl, rfl, hi⟩⟩))
    (fun hf => by rw [v94]; exact h (hf.sd 0 false [.c (.sl 112 a)] 0 (.sl 112 a) (by kernel_rfl) (by kernel_rfl)) (hf.sd 1 false [.c (.sl 112 b)] 0 (.sl 112 b) (by kernel_rfl) (by kernel_rfl)) _ (fun m n17 hi => ⟨m, ⟨n17, rfl, rfl, hi⟩⟩))

def F94_4 (b : List Ch) : Int → (List Ch) → Option Bool
  | i, [] => some true
  | i, x :: post => (if (0 : Int) ≤ i then (match b[Int.toNat i]? with | some x1 => (match (F95 x x1) with | some v4 => (if (!v4) = true then some false else (F94_4 b (i + 1) post)) | none => none) | none => none) else none)
@[irreducible] def F94 (a : List Ch) (b : List Ch) : Option Bool := (if ((↑(List.length (List.map Ch.row a)) : Int) != (↑(List.length (List.map Ch.row b)) : Int)) = true then some false else (F94_4 b 0 a))
theorem c94 (a : List Ch) (b : List Ch) (RES : Bool) (hr : F94 a b = some RES) :
    C Try.prog 94 [.val false [.c (.sl 112 (List.map Ch.row a))], .val false [.c (.sl 112 (List.map Ch.row b))], .fn 95 []] sg94 (fun r0 => r0 = RES) := by
  refine r94 (List.map Ch.row a) (List.map Ch.row b) _ (fun m i => ∃ pre post, a = pre ++ post ∧ m = post.length ∧ i = (pre.length : Int) ∧ F94_4 b i post = some RES) ?_ ?_
  · intro ef0 ef1 J4 hJ4
    unfold q94
    rw [F94] at hr
    refine ⟨fun hb9 => ?_, fun hb9 => ?_⟩
    · rw [if_pos hb9] at hr
      obtain rfl := Option.some.inj hr
      exact by first | rfl | trivial | simp [Ty.row_eq, Ex.row_eq, I.row_eq, S.row_eq, Il.row_eq, Cf.row_eq, Ch.row_eq]
    · rw [if_neg (by rw [hb9]; decide)] at hr
      exact hJ4 a.length _ ⟨[], a, rfl, rfl, rfl, hr⟩
  · rintro m i ⟨pre, post, hL, rfl, hi, hr⟩ sf0 sf1 J4 hJ4
    have hf := fact_sl sf0
    simp only [List.length_map] at hf
    have hlen : a.length = pre.length + post.length := by rw [hL, List.length_append]
    unfold q94_4
    cases post with
    | nil =>
      simp only [List.length_nil] at hlen
      rw [F94_4] at hr
      refine ⟨fun h => absurd h (by simp only [decide_eq_true_eq, List.length_map]; omega), fun _ => ?_⟩
      obtain rfl := Option.some.inj hr
      exact by first | rfl | trivial | simp [Ty.row_eq, Ex.row_eq, I.row_eq, S.row_eq, Il.row_eq, Cf.row_eq, Ch.row_eq]
    | cons x post =>
      simp only [List.length_cons] at hlen
      rw [F94_4] at hr
      have hrow : List.getD (List.map Ch.row a) (Int.toNat i) [] = Ch.row x := by rw [hL, hi, Int.toNat_natCast, getD_mid]
      refine ⟨fun _ => ?_, fun h => absurd h (by simp only [decide_eq_false_iff_not, List.length_map]; omega)⟩
      refine ⟨⟨by omega, by simp only [List.length_map]; omega, by rw [hrow, Ch.row_eq]; rfl⟩, ?_⟩
      refine ⟨(List.map I.row x.p), x.e.k, x.e.nm, x.e.n, x.e.t.k, (List.map Ty.row x.e.t.ar), (List.map Ex.row x.e.ar), by rw [hrow, Ch.row_eq]; rfl, ?_⟩
      by_cases hg8 : (0 : Int) ≤ i
      · rw [if_pos hg8] at hr
        cases hx2 : b[Int.toNat i]? with
        | none => rw [hx2] at hr; cases hr
        | some x1 =>
          rw [hx2] at hr
          dsimp only at hr
          have hrow3 : List.getD (List.map Ch.row b) (Int.toNat i) [] = Ch.row x1 := idx_row hx2
          refine ⟨(idx_ok hx2 ⟨by omega, rfl⟩ Ch.row_len), ?_⟩
          refine ⟨(List.map I.row x1.p), x1.e.k, x1.e.nm, x1.e.n, x1.e.t.k, (List.map Ty.row x1.e.t.ar), (List.map Ex.row x1.e.ar), by rw [hrow3, Ch.row_eq]; rfl, ?_⟩
          cases hv7 : (F95 x x1) with
          | none => rw [hv7] at hr; cases hr
          | some v4 =>
            rw [hv7] at hr
            dsimp only at hr
            refine (c95 x x1 _ hv7).imp ?_
            rintro r6_0 er6_0
            obtain rfl := er6_0.symm
            refine ⟨fun hb5 => ?_, fun hb5 => ?_⟩
            · rw [if_pos hb5] at hr
              obtain rfl := Option.some.inj hr
              exact by first | rfl | trivial | (simp only [hrow, hrow3]; simp [Ty.row_eq, Ex.row_eq, I.row_eq, S.row_eq, Il.row_eq, Cf.row_eq, Ch.row_eq]; done) | simp [Ty.row_eq, Ex.row_eq, I.row_eq, S.row_eq, Il.row_eq, Cf.row_eq, Ch.row_eq]
            · rw [if_neg (by rw [hb5]; decide)] at hr
              exact hJ4 post.length _ (by simp) ⟨pre ++ [x], post, by simp [hL], rfl, by rw [wrap_id (by omega) (by omega), hi]; simp, by rw [wrap_id (by omega) (by omega)]; exact hr⟩
      · rw [if_neg hg8] at hr; cases hr

noncomputable def cx44 : Cx := { P := Try.prog, sg := fun i => (alook [(94, sg94), (95, sg95), (44, sg44)] i).getD ⟨[], []⟩, mv := fun i => (alook [] i).getD [], head := fun i => (alook [] i).getD ⟨0, 0, []⟩, ord := fun i => (alook [] i).getD [] }
def q44 (a : List (List D)) (b : List (List D))   (R : Bool → Prop) : Prop :=
  C Try.prog 94 [.val false [.c (.sl 112 a)], .val false [.c (.sl 112 b)], .fn 95 []] sg94 (fun b1 => R b1)
theorem v44 (a : List (List D)) (b : List (List D))  (J : List Item → St → Prop) (R : Bool → Prop) : wpt cx44 J (fin Try.prog Try.f44.results.toList sg44 R) 100000 [.code (Try.f44.body.getD .skip)] (initSt [.val false [.c (.sl 112 a)], .val false [.c (.sl 112 b)]] 8) = q44 a b   R := by kernel_rfl
theorem r44 (a : List (List D)) (b : List (List D)) (R : Bool → Prop) 
    (h : DFact (.sl 112 a) → DFact (.sl 112 b) → q44 a b  R) :
    C Try.prog 44 [.val false [.c (.sl 112 a)], .val false [.c (.sl 112 b)]] sg44 R :=
  C_rule (cx := cx44) (P := Try.prog) (f := 44) (fn := Try.f44) (c := (Try.f44.body.getD .skip)) (args := [.val false [.c (.sl 112 a)], .val false [.c (.sl 112 b)]]) (sg := sg44) (rv := Try.f44.results.toList) (N := 8) (R := R) (μ := Nat) (lt := (· < ·)) Nat.lt_wfRel.wf (fun m td st => False) (by kernel_rfl) (by kernel_rfl) Try.func44 (by kernel_rfl) (by kernel_rfl) (by kernel_rfl) (by kernel_rfl) (by kernel_rfl)
    (fun _ _ _ h => h.elim)
    (fun hf => by rw [v44]; exact h (hf.sd 0 false [.c (.sl 112 a)] 0 (.sl 112 a) (by kernel_rfl) (by kernel_rfl)) (hf.sd 1 false [.c (.sl 112 b)] 0 (.sl 112 b) (by kernel_rfl) (by kernel_rfl)) )

@[irreducible] def F44 (a : List Ch) (b : List Ch) : Option Bool := (match (F94 a b) with | some v1 => some v1 | none => none)
theorem c44 (a : List Ch) (b : List Ch) (RES : Bool) (hr : F44 a b = some RES) :
    C Try.prog 44 [.val false [.c (.sl 112 (List.map Ch.row a))], .val false [.c (.sl 112 (List.map Ch.row b))]] sg44 (fun r0 => r0 = RES) := by
  refine r44 (List.map Ch.row a) (List.map Ch.row b) _  ?_
  · intro ef0 ef1
    unfold q44
    rw [F44] at hr
    cases hv3 : (F94 a b) with
    | none => rw [hv3] at hr; cases hr
    | some v1 =>
      rw [hv3] at hr
      dsimp only at hr
      refine (c94 a b _ hv3).imp ?_
      rintro r2_0 er2_0
      obtain rfl := er2_0.symm
      obtain rfl := Option.some.inj hr
      exact by first | rfl | trivial | simp [Ty.row_eq, Ex.row_eq, I.row_eq, S.row_eq, Il.row_eq, Cf.row_eq, Ch.row_eq]

noncomputable def cx96 : Cx := { P := Try.prog, sg := fun i => (alook [(20, sg20), (30, sg30), (96, sg96)] i).getD ⟨[], []⟩, mv := fun i => (alook [] i).getD [], head := fun i => (alook [] i).getD ⟨0, 0, []⟩, ord := fun i => (alook [] i).getD [] }
def q96 (a0 : List (List D)) (a1 : Int) (a2 : List UInt8) (a3 : Int) (a4 : Int) (a5 : List (List D)) (a6 : List (List D)) (b0 : List (List D)) (b1 : Int) (b2 : List UInt8) (b3 : Int) (b4 : Int) (b5 : List (List D)) (b6 : List (List D))   (R : Bool → Prop) : Prop :=
  C Try.prog 20 [.val false [.c (.sl 8 a0)], .val false [.c (.sl 8 b0)]] sg20 (fun b => (((!b) = true → R false) ∧
  ((!b) = false → C Try.prog 30 [.val true [.c (.int .i64 a1), .c (.str a2), .c (.int .i64 a3), .c (.int .i64 a4), .c (.sl 32 a5), .c (.sl 88 a6)], .val true [.c (.int .i64 b1), .c (.str b2), .c (.int .i64 b3), .c (.int .i64 b4), .c (.sl 32 b5), .c (.sl 88 b6)]] sg30 (fun b7 => (((!b7) = true → R false) ∧
  ((!b7) = false → R true))))))
theorem v96 (a0 : List (List D)) (a1 : Int) (a2 : List UInt8) (a3 : Int) (a4 : Int) (a5 : List (List D)) (a6 : List (List D)) (b0 : List (List D)) (b1 : Int) (b2 : List UInt8) (b3 : Int) (b4 : Int) (b5 : List (List D)) (b6 : List (List D))  (J : List Item → St → Prop) (R : Bool → Prop) : wpt cx96 J (fin Try.prog Try.f96.results.toList sg96 R) 100000 [.code (Try.f96.body.getD .skip)] (initSt [.val true [.c (.sl 8 a0), .c (.int .i64 a1), .c (.str a2), .c (.int .i64 a3), .c (.int .i64 a4), .c (.sl 32 a5), .c (.sl 88 a6)], .val true [.c (.sl 8 b0), .c (.int .i64 b1), .c (.str b2), .c (.int .i64 b3), .c (.int .i64 b4), .c (.sl 32 b5), .c (.sl 88 b6)]] 17) = q96 a0 a1 a2 a3 a4 a5 a6 b0 b1 b2 b3 b4 b5 b6   R := by kernel_rfl
theorem r96 (a0 : List (List D)) (a1 : Int) (a2 : List UInt8) (a3 : Int) (a4 : Int) (a5 : List (List D)) (a6 : List (List D)) (b0 : List (List D)) (b1 : Int) (b2 : List UInt8) (b3 : Int) (b4 : Int) (b5 : List (List D)) (b6 : List (List D)) (R : Bool → Prop) 
    (h : DFact (.sl 8 a0) → DFact (.int .i64 a1) → DFact (.str a2) → DFact (.int .i64 a3) → DFact (.int .i64 a4) → DFact (.sl 32 a5) → DFact (.sl 88 a6) → DFact (.sl 8 b0) → DFact (.int .i64 b1) → DFact (.str b2) → DFact (.int .i64 b3) → DFact (.int .i64 b4) → DFact (.sl 32 b5) → DFact (.sl 88 b6) → q96 a0 a1 a2 a3 a4 a5 a6 b0 b1 b2 b3 b4 b5 b6  R) :
    C Try.prog 96 [.val true [.c (.sl 8 a0), .c (.int .i64 a1), .c (.str a2), .c (.int .i64 a3), .c (.int .i64 a4), .c (.sl 32 a5), .c (.sl 88 a6)], .val true [.c (.sl 8 b0), .c (.int .i64 b1), .c (.str b2), .c (.int .i64 b3), .c (.int .i64 b4), .c (.sl 32 b5), .c (.sl 88 b6)]] sg96 R :=
  C_rule (cx := cx96) (P := Try.prog) (f := 96) (fn := Try.f96) (c := (Try.f96.body.getD .skip)) (args := [.val true [.c (.sl 8 a0), .c (.int .i64 a1), .c (.str a2), .c (.int .i64 a3), .c (.int .i64 a4), .c (.sl 32 a5), .c (.sl 88 a6)], .val true [.c (.sl 8 b0), .c (.int .i64 b1), .c (.str b2), .c (.int .i64 b3), .c (.int .i64 b4), .c (.sl 32 b5), .c (.sl 88 b6)]]) (sg := sg96) (rv := Try.f96.results.toList) (N := 17) (R := R) (μ := Nat) (lt := (· < ·)) Nat.lt_wfRel.wf (fun m td st => False) (by kernel_rfl) (by kernel_rfl) Try.func96 (by kernel_rfl) (by kernel_rfl) (by kernel_rfl) (by kernel_rfl) (by kernel_rfl)
    (fun _ _ _ h => h.elim)
    (fun hf => by rw [v96]; exact h (hf.sd 0 true [.c (.sl 8 a0), .c (.int .i64 a1), .c (.str a2), .c (.int .i64 a3), .c (.int .i64 a4), .c (.sl 32 a5), .c (.sl 88 a6)] 0 (.sl 8 a0) (by kernel_rfl) (by kernel_rfl)) (hf.sd 0 true [.c (.sl 8 a0), .c (.int .i64 a1), .c (.str a2), .c (.int .i64 a3), .c (.int .i64 a4), .c (.sl 32 a5), .c (.sl 88 a6)] 1 (.int .i64 a1) (by kernel_rfl) (by kernel_rfl)) (hf.sd 0 true [.c (.sl 8 a0), .c (.int .i64 a1), .c (.str a2), .c (.int .i64 a3), .c (.int .i64 a4), .c (.sl 32 a5), .c (.sl 88 a6)] 2 (.str a2) (by kernel_rfl) (by kernel_rfl)) (hf.sd 0 true [.c (.sl 8 a0), .c (.int .i64 a1), .c (.str a2), .c (.int .i64 a3), .c (.int .i64 a4), .c (.sl 32 a5), .c (.sl 88 a6)] 3 (.int .i64 a3) (by kernel_rfl) (by kernel_rfl)) (hf.sd 0 true [.c (.sl 8 a0), .c (.int .i64 a1), .c (.str a2), .c (.int .i64 a3), .c (.int .i64 a4), .c (.sl 32 a5), .c (.sl 88 a6)] 4 (.int .i64 a4) (by kernel_rfl) (by kernel_rfl)) (hf.sd 0 true [.c (.sl 8 a0), .c (.int .i64 a1), .c (.str a2), .c (.int .i64 a3), .c (.int .i64 a4), .c (.sl 32 a5), .c (.sl 88 a6)] 5 (.sl 32 a5) (by kernel_rfl) (by kernel_rfl)) (hf.sd 0 true [.c (.sl 8 a0), .c (.int .i64 a1), .c (.str a2), .c (.int .i64 a3), .c (.int .i64 a4), .c (.sl 32 a5), .c (.sl 88 a6)] 6 (.sl 88 a6) (by kernel_rfl) (by kernel_rfl)) (hf.sd 1 true [.c (.sl 8 b0), .c (.int .i64 b1), .c (.str b2), .c (.int .i64 b3), .c (.int .i64 b4), .c (.sl 32 b5), .c (.sl 88 b6)] 0 (.sl 8 b0) (by kernel_rfl) (by kernel_rfl)) (hf.sd 1 true [.c (.sl 8 b0), .c (.int .i64 b1), .c (.str b2), .c (.int .i64 b3), .c (.int .i64 b4), .c (.sl 32 b5), .c (.sl 88 b6)] 1 (.int .i64 b1) (by kernel_rfl) (by kernel_rfl)) (hf.sd 1 true [.c (.sl 8 b0), .c (.int .i64 b1), .c (.str b2), .c (.int .i64 b3), .c (.int .i64 b4), .c (.sl 32 b5), .c (.sl 88 b6)] 2 (.str b2) (by kernel_rfl) (by kernel_rfl)) (hf.sd 1 true [.c (.sl 8 b0), .c (.int .i64 b1), .c (.str b2), .c (.int .i64 b3), .c (.int .i64 b4), .c (.sl 32 b5), .c (.sl 88 b6)] 3 (.int .i64 b3) (by kernel_rfl) (by kernel_rfl)) (hf.sd 1 true [.c (.sl 8 b0), .c (.int .i64 b1), .c (.str b2), .c (.int .i64 b3), .c (.int .i64 b4), .c (.sl 32 b5), .c (.sl 88 b6)] 4 (.int .i64 b4) (by kernel_rfl) (by kernel_rfl)) (hf.sd 1 true [.c (.sl 8 b0), .c (.int .i64 b1), .c (.str b2), .c (.int .i64 b3), .c (.int .i64 b4), .c (.sl 32 b5), .c (.sl 88 b6)] 5 (.sl 32 b5) (by kernel_rfl) (by kernel_rfl)) (hf.sd 1 true [.c (.sl 8 b0), .c (.int .i64 b1), .c (.str b2), .c (.int .i64 b3), .c (.int .i64 b4), .c (.sl 32 b5), .c (.sl 88 b6)] 6 (.sl 88 b6) (by kernel_rfl) (by kernel_rfl)) )

@[irreducible] def F96 (a : Ch) (b : Ch) : Option Bool := (match (F20 a.p b.p) with | some v1 => (if (!v1) = true then some false else (match (F30 a.e b.e) with | some v3 => (if (!v3) = true then some false else some true) | none => none)) | none => none)
theorem c96 (a : Ch) (b : Ch) (RES : Bool) (hr : F96 a b = some RES) :
    C Try.prog 96 [.val true [.c (.sl 8 (List.map I.row a.p)), .c (.int .i64 a.e.k), .c (.str a.e.nm), .c (.int .i64 a.e.n), .c (.int .i64 a.e.t.k), .c (.sl 32 (List.map Ty.row a.e.t.ar)), .c (.sl 88 (List.map Ex.row a.e.ar))], .val true [.c (.sl 8 (List.map I.row b.p)), .c (.int .i64 b.e.k), .c (.str b.e.nm), .c (.int .i64 b.e.n), .c (.int .i64 b.e.t.k), .c (.sl 32 (List.map Ty.row b.e.t.ar)), .c (.sl 88 (List.map Ex.row b.e.ar))]] sg96 (fun r0 => r0 = RES) := by
  refine r96 (List.map I.row a.p) a.e.k a.e.nm a.e.n a.e.t.k (List.map Ty.row a.e.t.ar) (List.map Ex.row a.e.ar) (List.map I.row b.p) b.e.k b.e.nm b.e.n b.e.t.k (List.map Ty.row b.e.t.ar) (List.map Ex.row b.e.ar) _  ?_
  · intro ef0 ef1 ef2 ef3 ef4 ef5 ef6 ef7 ef8 ef9 ef10 ef11 ef12 ef13
    unfold q96
    rw [F96] at hr
    cases hv8 : (F20 a.p b.p) with
    | none => rw [hv8] at hr; cases hr
    | some v1 =>
      rw [hv8] at hr
      dsimp only at hr
      refine (c20 a.p b.p _ hv8).imp ?_
      rintro r7_0 er7_0
      obtain rfl := er7_0.symm
      refine ⟨fun hb2 => ?_, fun hb2 => ?_⟩
      · rw [if_pos hb2] at hr
        obtain rfl := Option.some.inj hr
        exact by first | rfl | trivial | simp [Ty.row_eq, Ex.row_eq, I.row_eq, S.row_eq, Il.row_eq, Cf.row_eq, Ch.row_eq]
      · rw [if_neg (by rw [hb2]; decide)] at hr
        cases hv6 : (F30 a.e b.e) with
        | none => rw [hv6] at hr; cases hr
        | some v3 =>
          rw [hv6] at hr
          dsimp only at hr
          refine (c30 a.e b.e _ hv6).imp ?_
          rintro r5_0 er5_0
          obtain rfl := er5_0.symm
          refine ⟨fun hb4 => ?_, fun hb4 => ?_⟩
          · rw [if_pos hb4] at hr
            obtain rfl := Option.some.inj hr
            exact by first | rfl | trivial | simp [Ty.row_eq, Ex.row_eq, I.row_eq, S.row_eq, Il.row_eq, Cf.row_eq, Ch.row_eq]
          · rw [if_neg (by rw [hb4]; decide)] at hr
            obtain rfl := Option.some.inj hr
            exact by first | rfl | trivial | simp [Ty.row_eq, Ex.row_eq, I.row_eq, S.row_eq, Il.row_eq, Cf.row_eq, Ch.row_eq]

noncomputable def cx45 : Cx := { P := Try.prog, sg := fun i => (alook [(96, sg96), (45, sg45)] i).getD ⟨[], []⟩, mv := fun i => (alook [] i).getD [], head := fun i => (alook [(4, ⟨3000, 3, [⟨0, [some (116, 7, 112)]⟩, ⟨1, [some (116, 7, 112)]⟩, ⟨5, [none]⟩]⟩)] i).getD ⟨0, 0, []⟩, ord := fun i => (alook [(6, [0, 1, 2, 3, 4, 5, 6, 7, 8, 9])] i).getD [] }
noncomputable def st45_4 (a : List (List D)) (b : List (List D)) (n5 : Int) : St := (St.of [(5, .v false [.c (.int .i64 n5)]), (1, .v false [.c (.sl 112 b)]), (0, .v false [.c (.sl 112 a)])] [] [] 3064 27)
def q45 (a : List (List D)) (b : List (List D))  (J4 : Int → Prop) (R : Bool → Prop) : Prop :=
  ((((↑(List.length a) : Int) != (↑(List.length b) : Int)) = true → R false) ∧
  (((↑(List.length a) : Int) != (↑(List.length b) : Int)) = false → J4 (0 : Int)))
theorem v45 (a : List (List D)) (b : List (List D))  (J : List Item → St → Prop) (R : Bool → Prop) : wpt cx45 J (fin Try.prog Try.f45.results.toList sg45 R) 100000 [.code (Try.f45.body.getD .skip)] (initSt [.val false [.c (.sl 112 a)], .val false [.c (.sl 112 b)]] 27) = q45 a b  (fun n5 => J (td (Try.f45.body.getD .skip) 4) (st45_4 a b n5)) R := by kernel_rfl
def q45_4 (a : List (List D)) (b : List (List D)) (n5 : Int) (J4 : Int → Prop) (R : Bool → Prop) : Prop :=
  ((decide (n5 < (↑(List.length a) : Int)) = true → (((0 : Int) ≤ n5 ∧ n5 < (↑(List.length a) : Int) ∧ List.length (List.getD a (Int.toNat n5) []) = (7 : Nat)) ∧
  (∃ xs, (∃ n, (∃ s, (∃ n1, (∃ n2, (∃ xs1, (∃ xs2, ((List.take (7 : Nat) (List.drop (0 : Nat) (List.getD a (Int.toNat n5) [])) = [D.sl (8 : Nat) xs, D.int IntKind.i64 n, D.str s, D.int IntKind.i64 n1, D.int IntKind.i64 n2, D.sl (32 : Nat) xs1, D.sl (88 : Nat) xs2]) ∧
  (((0 : Int) ≤ n5 ∧ n5 < (↑(List.length b) : Int) ∧ List.length (List.getD b (Int.toNat n5) []) = (7 : Nat)) ∧
  (∃ xs3, (∃ n3, (∃ s1, (∃ n4, (∃ n6, (∃ xs4, (∃ xs5, ((List.take (7 : Nat) (List.drop (0 : Nat) (List.getD b (Int.toNat n5) [])) = [D.sl (8 : Nat) xs3, D.int IntKind.i64 n3, D.str s1, D.int IntKind.i64 n4, D.int IntKind.i64 n6, D.sl (32 : Nat) xs4, D.sl (88 : Nat) xs5]) ∧
  C Try.prog 96 [.val true [.c (.sl 8 xs), .c (.int .i64 n), .c (.str s), .c (.int .i64 n1), .c (.int .i64 n2), .c (.sl 32 xs1), .c (.sl 88 xs2)], .val true [.c (.sl 8 xs3), .c (.int .i64 n3), .c (.str s1), .c (.int .i64 n4), .c (.int .i64 n6), .c (.sl 32 xs4), .c (.sl 88 xs5)]] sg96 (fun b1 => (((!b1) = true → R false) ∧
  ((!b1) = false → J4 (IntKind.wrap IntKind.i64 (n5 + (1 : Int))))))))))))))))))))))))) ∧
  (decide (n5 < (↑(List.length a) : Int)) = false → R true))
theorem v45_4 (a : List (List D)) (b : List (List D)) (n5 : Int) (J : List Item → St → Prop) (R : Bool → Prop) : wpt cx45 J (fin Try.prog Try.f45.results.toList sg45 R) 100000 (td (Try.f45.body.getD .skip) 4) (st45_4 a b n5) = q45_4 a b n5 (fun n5 => J (td (Try.f45.body.getD .skip) 4) (st45_4 a b n5)) R := by kernel_rfl
theorem r45 (a : List (List D)) (b : List (List D)) (R : Bool → Prop) (I4 : Nat → Int → Prop)
    (h : DFact (.sl 112 a) → DFact (.sl 112 b) → ∀ (J4 : Int → Prop), (∀ m n5', I4 m n5' → J4 n5') → q45 a b J4 R)
    (h4 : ∀ x (n5 : Int), I4 x n5 → DFact (.sl 112 b) → DFact (.sl 112 a) → ∀ (J4 : Int → Prop), (∀ m n5', m < x → I4 m n5' → J4 n5') → q45_4 a b n5 J4 R) :
    C Try.prog 45 [.val false [.c (.sl 112 a)], .val false [.c (.sl 112 b)]] sg45 R :=
  C_rule (cx := cx45) (P := Try.prog) (f := 45) (fn := Try.f45) (c := (Try.f45.body.getD .skip)) (args := [.val false [.c (.sl 112 a)], .val false [.c (.sl 112 b)]]) (sg := sg45) (rv := Try.f45.results.toList) (N := 27) (R := R) (μ := Nat) (lt := (· < ·)) Nat.lt_wfRel.wf (fun m td st => (∃ (n5 : Int), td = _root_.Go.Gl.td (Try.f45.body.getD .skip) 4 ∧ st = st45_4 a b n5 ∧ I4 m n5)) (by kernel_rfl) (by kernel_rfl) Try.func45 (by kernel_rfl) (by kernel_rfl) (by kernel_rfl) (by kernel_rfl) (by kernel_rfl)
    (fun x td st h hf => by
      obtain ⟨n5, rfl, rfl, hi⟩ := h
      rw [v45_4]
      exact h4 x n5 hi (hf.sd 1 false [.c (.sl 112 b)] 0 (.sl 112 b) (by kernel_rfl) (by kernel_rfl)) (hf.sd 0 false [.c (.sl 112 a)] 0 (.sl 112 a) (by kernel_rfl) (by kernel_rfl)) _ (fun m n5 hm hi => ⟨m, hm, ⟨n5, rfl, rfl, hi⟩⟩))
    (fun hf => by rw [v45]; exact h (hf.sd 0 false [.c (.sl 112 a)] 0 (.sl 112 a) (by kernel_rfl) (by kernel_rfl)) (hf.sd 1 false [.c (.sl 112 b)] 0 (.sl 112 b) (by kernel_rfl) (by kernel_rfl)) _ (fun m n5 hi => ⟨m, ⟨n5, rfl, rfl, hi⟩⟩))

def F45_4 (b : List Ch) : Int → (List Ch) → Option Bool
  | i, [] => some true
  | i, x :: post => (if (0 : Int) ≤ i then (match b[Int.toNat i]? with | some x1 => (match (F96 x x1) with | some v4 => (if (!v4) = true then some false else (F45_4 b (i + 1) post)) | none => none) | none => none) else none)
@[irreducible] def F45 (a : List Ch) (b : List Ch) : Option Bool := (if ((↑(List.length (List.map Ch.row a)) : Int) != (↑(List.length (List.map Ch.row b)) : Int)) = true then some false else (F45_4 b 0 a))
theorem c45 (a : List Ch) (b : List Ch) (RES : Bool) (hr : F45 a b = some RES) :
    C Try.prog 45 [.val false [.c (.sl 112 (List.map Ch.row a))], .val false [.c (.sl 112 (List.map Ch.row b))]] sg45 (fun r0 => r0 = RES) := by
  refine r45 (List.map Ch.row a) (List.map Ch.row b) _ (fun m i => ∃ pre post, a = pre ++ post ∧ m = post.length ∧ i = (pre.length : Int) ∧ F45_4 b i post = some RES) ?_ ?_
  · intro ef0 ef1 J4 hJ4
    unfold q45
    rw [F45] at hr
    refine ⟨fun hb9 => ?_, fun hb9 => ?_⟩
    · rw [if_pos hb9] at hr
      obtain rfl := Option.some.inj hr
      exact by first | rfl | trivial | simp [Ty.row_eq, Ex.row_eq, I.row_eq, S.row_eq, Il.row_eq, Cf.row_eq, Ch.row_eq]
    · rw [if_neg (by rw [hb9]; decide)] at hr
      exact hJ4 a.length _ ⟨[], a, rfl, rfl, rfl, hr⟩
  · rintro m i ⟨pre, post, hL, rfl, hi, hr⟩ sf0 sf1 J4 hJ4
    have hf := fact_sl sf1
    simp only [List.length_map] at hf
    have hlen : a.length = pre.length + post.length := by rw [hL, List.length_append]
    unfold q45_4
    cases post with
    | nil =>
      simp only [List.length_nil] at hlen
      rw [F45_4] at hr
      refine ⟨fun h => absurd h (by simp only [decide_eq_true_eq, List.length_map]; omega), fun _ => ?_⟩
      obtain rfl := Option.some.inj hr
      exact by first | rfl | trivial | simp [Ty.row_eq, Ex.row_eq, I.row_eq, S.row_eq, Il.row_eq, Cf.row_eq, Ch.row_eq]
    | cons x post =>
      simp only [List.length_cons] at hlen
      rw [F45_4] at hr
      have hrow : List.getD (List.map Ch.row a) (Int.toNat i) [] = Ch.row x := by rw [hL, hi, Int.toNat_natCast, getD_mid]
      refine ⟨fun _ => ?_, fun h => absurd h (by simp only [decide_eq_false_iff_not, List.length_map]; omega)⟩
      refine ⟨⟨by omega, by simp only [List.length_map]; omega, by rw [hrow, Ch.row_eq]; rfl⟩, ?_⟩
      refine ⟨(List.map I.row x.p), x.e.k, x.e.nm, x.e.n, x.e.t.k, (List.map Ty.row x.e.t.ar), (List.map Ex.row x.e.ar), by rw [hrow, Ch.row_eq]; rfl, ?_⟩
      by_cases hg8 : (0 : Int) ≤ i
      · rw [if_pos hg8] at hr
        cases hx2 : b[Int.toNat i]? with
        | none => rw [hx2] at hr; cases hr
        | some x1 =>
          rw [hx2] at hr
          dsimp only at hr
          have hrow3 : List.getD (List.map Ch.row b) (Int.toNat i) [] = Ch.row x1 := idx_row hx2
          refine ⟨(idx_ok hx2 ⟨by omega, rfl⟩ Ch.row_len), ?_⟩
          refine ⟨(List.map I.row x1.p), x1.e.k, x1.e.nm, x1.e.n, x1.e.t.k, (List.map Ty.row x1.e.t.ar), (List.map Ex.row x1.e.ar), by rw [hrow3, Ch.row_eq]; rfl, ?_⟩
          cases hv7 : (F96 x x1) with
          | none => rw [hv7] at hr; cases hr
          | some v4 =>
            rw [hv7] at hr
            dsimp only at hr
            refine (c96 x x1 _ hv7).imp ?_
            rintro r6_0 er6_0
            obtain rfl := er6_0.symm
            refine ⟨fun hb5 => ?_, fun hb5 => ?_⟩
            · rw [if_pos hb5] at hr
              obtain rfl := Option.some.inj hr
              exact by first | rfl | trivial | (simp only [hrow, hrow3]; simp [Ty.row_eq, Ex.row_eq, I.row_eq, S.row_eq, Il.row_eq, Cf.row_eq, Ch.row_eq]; done) | simp [Ty.row_eq, Ex.row_eq, I.row_eq, S.row_eq, Il.row_eq, Cf.row_eq, Ch.row_eq]
            · rw [if_neg (by rw [hb5]; decide)] at hr
              exact hJ4 post.length _ (by simp) ⟨pre ++ [x], post, by simp [hL], rfl, by rw [wrap_id (by omega) (by omega), hi]; simp, by rw [wrap_id (by omega) (by omega)]; exact hr⟩
      · rw [if_neg hg8] at hr; cases hr

noncomputable def cx9 : Cx := { P := Try.prog, sg := fun i => (alook [(41, sg41), (43, sg43), (42, sg42), (44, sg44), (45, sg45), (9, sg9)] i).getD ⟨[], []⟩, mv := fun i => (alook [] i).getD [], head := fun i => (alook [] i).getD ⟨0, 0, []⟩, ord := fun i => (alook [] i).getD [] }
def q9 (a : List (List D)) (b : List (List D))   (R : Bool → Prop) : Prop :=
  C Try.prog 41 [.val false [.c (.sl 112 a)], .val false [.c (.int .i64 (1048576 : Int))]] sg41 (fun n => ((decide (n < (0 : Int)) = true → R true) ∧
  (decide (n < (0 : Int)) = false → C Try.prog 41 [.val false [.c (.sl 112 b)], .val false [.c (.int .i64 n)]] sg41 (fun n1 => ((decide (n1 < (0 : Int)) = true → R true) ∧
  (decide (n1 < (0 : Int)) = false → C Try.prog 43 [.val false [.c (.sl 112 a)]] sg43 (fun xs => C Try.prog 43 [.val false [.c (.sl 112 b)]] sg43 (fun xs1 => C Try.prog 42 [.val false [.c (.sl 112 xs)], .val false [.c (.sl 112 xs1)]] sg42 (fun b1 => C Try.prog 43 [.val false [.c (.sl 112 a)]] sg43 (fun xs2 => C Try.prog 43 [.val false [.c (.sl 112 b)]] sg43 (fun xs3 => C Try.prog 44 [.val false [.c (.sl 112 xs2)], .val false [.c (.sl 112 xs3)]] sg44 (fun b2 => (((b2 != b1) = true → R false) ∧
  ((b2 != b1) = false → C Try.prog 43 [.val false [.c (.sl 112 a)]] sg43 (fun xs4 => C Try.prog 45 [.val false [.c (.sl 112 xs2)], .val false [.c (.sl 112 xs4)]] sg45 (fun b3 => (((!b3) = true → R false) ∧
  ((!b3) = false → C Try.prog 43 [.val false [.c (.sl 112 b)]] sg43 (fun xs5 => C Try.prog 45 [.val false [.c (.sl 112 xs3)], .val false [.c (.sl 112 xs5)]] sg45 (fun b4 => (((!b4) = true → R false) ∧
  ((!b4) = false → R true))))))))))))))))))))))
theorem v9 (a : List (List D)) (b : List (List D))  (J : List Item → St → Prop) (R : Bool → Prop) : wpt cx9 J (fin Try.prog Try.f9.results.toList sg9 R) 100000 [.code (Try.f9.body.getD .skip)] (initSt [.val false [.c (.sl 112 a)], .val false [.c (.sl 112 b)]] 45) = q9 a b   R := by kernel_rfl
theorem r9 (a : List (List D)) (b : List (List D)) (R : Bool → Prop) 
    (h : DFact (.sl 112 a) → DFact (.sl 112 b) → q9 a b  R) :
    C Try.prog 9 [.val false [.c (.sl 112 a)], .val false [.c (.sl 112 b)]] sg9 R :=
  C_rule (cx := cx9) (P := Try.prog) (f := 9) (fn := Try.f9) (c := (Try.f9.body.getD .skip)) (args := [.val false [.c (.sl 112 a)], .val false [.c (.sl 112 b)]]) (sg := sg9) (rv := Try.f9.results.toList) (N := 45) (R := R) (μ := Nat) (lt := (· < ·)) Nat.lt_wfRel.wf (fun m td st => False) (by kernel_rfl) (by kernel_rfl) Try.func9 (by kernel_rfl) (by kernel_rfl) (by kernel_rfl) (by kernel_rfl) (by kernel_rfl)
    (fun _ _ _ h => h.elim)
    (fun hf => by rw [v9]; exact h (hf.sd 0 false [.c (.sl 112 a)] 0 (.sl 112 a) (by kernel_rfl) (by kernel_rfl)) (hf.sd 1 false [.c (.sl 112 b)] 0 (.sl 112 b) (by kernel_rfl) (by kernel_rfl)) )

@[irreducible] def F9 (a : List Ch) (b : List Ch) : Option Bool := (if (decide ((F41 a (1048576 : Int)) < (0 : Int))) = true then some true else (if (decide ((F41 b (F41 a (1048576 : Int))) < (0 : Int))) = true then some true else (match (F42 (F43 a) (F43 b)) with | some v3 => (match (F44 (F43 a) (F43 b)) with | some v4 => (if (v4 != v3) = true then some false else (match (F45 (F43 a) (F43 a)) with | some v6 => (if (!v6) = true then some false else (match (F45 (F43 b) (F43 b)) with | some v8 => (if (!v8) = true then some false else some true) | none => none)) | none => none)) | none => none) | none => none)))
theorem c9 (a : List Ch) (b : List Ch) (RES : Bool) (hr : F9 a b = some RES) :
    C Try.prog 9 [.val false [.c (.sl 112 (List.map Ch.row a))], .val false [.c (.sl 112 (List.map Ch.row b))]] sg9 (fun r0 => r0 = RES) := by
  refine r9 (List.map Ch.row a) (List.map Ch.row b) _  ?_
  · intro ef0 ef1
    unfold q9
    rw [F9] at hr
    refine (c41 a (1048576 : Int) _ rfl).imp ?_
    rintro r25_0 er25_0
    obtain rfl := er25_0.symm
    refine ⟨fun hb1 => ?_, fun hb1 => ?_⟩
    · rw [if_pos hb1] at hr
      obtain rfl := Option.some.inj hr
      exact by first | rfl | trivial | simp [Ty.row_eq, Ex.row_eq, I.row_eq, S.row_eq, Il.row_eq, Cf.row_eq, Ch.row_eq]
    · rw [if_neg (by rw [hb1]; decide)] at hr
      refine (c41 b (F41 a (1048576 : Int)) _ rfl).imp ?_
      rintro r24_0 er24_0
      obtain rfl := er24_0.symm
      refine ⟨fun hb2 => ?_, fun hb2 => ?_⟩
      · rw [if_pos hb2] at hr
        obtain rfl := Option.some.inj hr
        exact by first | rfl | trivial | simp [Ty.row_eq, Ex.row_eq, I.row_eq, S.row_eq, Il.row_eq, Cf.row_eq, Ch.row_eq]
      · rw [if_neg (by rw [hb2]; decide)] at hr
        refine (c43 a _ rfl).imp ?_
        rintro r23_0 er23_0
        obtain rfl := er23_0.symm
        refine (c43 b _ rfl).imp ?_
        rintro r22_0 er22_0
        obtain rfl := er22_0.symm
        cases hv21 : (F42 (F43 a) (F43 b)) with
        | none => rw [hv21] at hr; cases hr
        | some v3 =>
          rw [hv21] at hr
          dsimp only at hr
          refine (c42 (F43 a) (F43 b) _ hv21).imp ?_
          rintro r20_0 er20_0
          obtain rfl := er20_0.symm
          refine (c43 a _ rfl).imp ?_
          rintro r19_0 er19_0
          obtain rfl := er19_0.symm
          refine (c43 b _ rfl).imp ?_
          rintro r18_0 er18_0
          obtain rfl := er18_0.symm
          cases hv17 : (F44 (F43 a) (F43 b)) with
          | none => rw [hv17] at hr; cases hr
          | some v4 =>
            rw [hv17] at hr
            dsimp only at hr
            refine (c44 (F43 a) (F43 b) _ hv17).imp ?_
            rintro r16_0 er16_0
            obtain rfl := er16_0.symm
            refine ⟨fun hb5 => ?_, fun hb5 => ?_⟩
            · rw [if_pos hb5] at hr
              obtain rfl := Option.some.inj hr
              exact by first | rfl | trivial | simp [Ty.row_eq, Ex.row_eq, I.row_eq, S.row_eq, Il.row_eq, Cf.row_eq, Ch.row_eq]
            · rw [if_neg (by rw [hb5]; decide)] at hr
              refine (c43 a _ rfl).imp ?_
              rintro r15_0 er15_0
              obtain rfl := er15_0.symm
              cases hv14 : (F45 (F43 a) (F43 a)) with
              | none => rw [hv14] at hr; cases hr
              | some v6 =>
                rw [hv14] at hr
                dsimp only at hr
                refine (c45 (F43 a) (F43 a) _ hv14).imp ?_
                rintro r13_0 er13_0
                obtain rfl := er13_0.symm
                refine ⟨fun hb7 => ?_, fun hb7 => ?_⟩
                · rw [if_pos hb7] at hr
                  obtain rfl := Option.some.inj hr
                  exact by first | rfl | trivial | simp [Ty.row_eq, Ex.row_eq, I.row_eq, S.row_eq, Il.row_eq, Cf.row_eq, Ch.row_eq]
                · rw [if_neg (by rw [hb7]; decide)] at hr
                  refine (c43 b _ rfl).imp ?_
                  rintro r12_0 er12_0
                  obtain rfl := er12_0.symm
                  cases hv11 : (F45 (F43 b) (F43 b)) with
                  | none => rw [hv11] at hr; cases hr
                  | some v8 =>
                    rw [hv11] at hr
                    dsimp only at hr
                    refine (c45 (F43 b) (F43 b) _ hv11).imp ?_
                    rintro r10_0 er10_0
                    obtain rfl := er10_0.symm
                    refine ⟨fun hb9 => ?_, fun hb9 => ?_⟩
                    · rw [if_pos hb9] at hr
                      obtain rfl := Option.some.inj hr
                      exact by first | rfl | trivial | simp [Ty.row_eq, Ex.row_eq, I.row_eq, S.row_eq, Il.row_eq, Cf.row_eq, Ch.row_eq]
                    · rw [if_neg (by rw [hb9]; decide)] at hr
                      obtain rfl := Option.some.inj hr
                      exact by first | rfl | trivial | simp [Ty.row_eq, Ex.row_eq, I.row_eq, S.row_eq, Il.row_eq, Cf.row_eq, Ch.row_eq]

end Go.Gl
