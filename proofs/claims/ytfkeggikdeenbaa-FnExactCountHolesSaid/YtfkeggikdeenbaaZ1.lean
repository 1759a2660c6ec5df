import Derived.Test.YtfkeggikdeenbaaChecked
import Derived.Test.YtfkeggikdeenbaaL39
set_option linter.unusedVariables false
namespace Go.Gl
open Go.Proofs
def sg73 : Sig := ⟨[(false, [.c (.int .i64)])], []⟩
def sg121 : Sig := ⟨[(false, [.c (.int .i64)])], []⟩
def sg26 : Sig := ⟨[(false, [.c (.int .i64)])], []⟩
def sg74 : Sig := ⟨[(false, [.c (.int .i64)])], []⟩
def sg76 : Sig := ⟨[(true, [.c (.int .i64), .own 3 45 2 32])], []⟩
def sg122 : Sig := ⟨[(false, [.own 3 45 2 32])], []⟩
def sg28 : Sig := ⟨[(true, [.c (.int .i64), .c .str, .c (.int .i64), .c (.int .i64), .own 3 45 2 32, .own 3 48 6 88])], []⟩
def sg77 : Sig := ⟨[(false, [.own 3 48 6 88])], []⟩
def sg75 : Sig := ⟨[(false, [.c (.int .i64)])], []⟩
def sg27 : Sig := ⟨[(false, [.c (.int .i64)])], []⟩
def sg33 : Sig := ⟨[(false, [.c .bool])], []⟩
def sg83 : Sig := ⟨[(false, [.c .bool])], []⟩
def sg30 : Sig := ⟨[(false, [.c .bool])], []⟩
def sg79 : Sig := ⟨[(false, [.c .bool])], []⟩
def sg124 : Sig := ⟨[], [[.c (.int .i64)], [.c (.int .i64)]]⟩
def sg123 : Sig := ⟨[], [[.c (.int .i64)], [.c (.int .i64)]]⟩
def sg78 : Sig := ⟨[(false, [.c (.int .i64)])], []⟩
def sg29 : Sig := ⟨[(false, [.c (.int .i64)])], []⟩
def sg6 : Sig := ⟨[(false, [.c .bool])], []⟩
def sg118 : Sig := ⟨[(false, [.c (.int .i64)])], []⟩
def sg67 : Sig := ⟨[(false, [.c (.int .i64)])], []⟩
def sg21 : Sig := ⟨[(false, [.c (.int .i64)])], []⟩
def sg18 : Sig := ⟨[(false, [.own 3 3 1 8])], []⟩
def sg69 : Sig := ⟨[(true, [.own 3 3 1 8, .own 3 3 1 8])], []⟩
def sg23 : Sig := ⟨[(false, [.own 3 87 2 48])], []⟩
def sg119 : Sig := ⟨[(false, [.c .bool])], []⟩
def sg68 : Sig := ⟨[(false, [.c .bool])], []⟩
def sg22 : Sig := ⟨[(false, [.c .bool])], []⟩
def sg120 : Sig := ⟨[(false, [.c .bool])], []⟩
def sg71 : Sig := ⟨[(false, [.c .bool])], []⟩
def sg70 : Sig := ⟨[(false, [.c .bool])], []⟩
def sg24 : Sig := ⟨[(false, [.c .bool])], []⟩
def sg20 : Sig := ⟨[(false, [.c .bool])], []⟩
def sg72 : Sig := ⟨[(false, [.c .bool])], []⟩
def sg25 : Sig := ⟨[(false, [.c .bool])], []⟩
def sg5 : Sig := ⟨[(false, [.c .bool])], []⟩
noncomputable def cx73 : Cx := { P := Try.prog, sg := fun i => (alook [(121, sg121), (73, sg73)] i).getD ⟨[], []⟩, mv := fun i => (alook [] i).getD [], head := fun i => (alook [] i).getD ⟨0, 0, []⟩, ord := fun i => (alook [] i).getD [] }
def q73 (a0 : Int) (a1 : List (List D)) (b : Int)   (R : Int → Prop) : Prop :=
  C Try.prog 121 [.val false [.c (.sl 32 a1)], .val false [.c (.int .i64 b)]] sg121 (fun n => ((decide (n < (0 : Int)) = true → R (-1 : Int)) ∧
  (decide (n < (0 : Int)) = false → R n)))
theorem v73 (a0 : Int) (a1 : List (List D)) (b : Int)  (J : List Item → St → Prop) (R : Int → Prop) : wpt cx73 J (fin Try.prog Try.f73.results.toList sg73 R) 100000 [.code (Try.f73.body.getD .skip)] (initSt [.val true [.c (.int .i64 a0), .c (.sl 32 a1)], .val false [.c (.int .i64 b)]] 12) = q73 a0 a1 b   R := by kernel_rfl
theorem r73 (a0 : Int) (a1 : List (List D)) (b : Int) (R : Int → Prop) 
    (h : DFact (.int .i64 a0) → DFact (.sl 32 a1) → DFact (.int .i64 b) → q73 a0 a1 b  R) :
    C Try.prog 73 [.val true [.c (.int .i64 a0), .c (.sl 32 a1)], .val false [.c (.int .i64 b)]] sg73 R :=
  C_rule (cx := cx73) (P := Try.prog) (f := 73) (fn := Try.f73) (c := (Try.f73.body.getD .skip)) (args := [.val true [.c (.int .i64 a0), .c (.sl 32 a1)], .val false [.c (.int .i64 b)]]) (sg := sg73) (rv := Try.f73.results.toList) (N := 12) (R := R) (μ := Nat) (lt := (· < ·)) Nat.lt_wfRel.wf (fun m td st => False) (by kernel_rfl) (by kernel_rfl) Try.func73 (by kernel_rfl) (by kernel_rfl) (by kernel_rfl) (by kernel_rfl) (by kernel_rfl)
    (fun _ _ _ h => h.elim)
    (fun hf => by rw [v73]; exact h (hf.sd 0 true [.c (.int .i64 a0), .c (.sl 32 a1)] 0 (.int .i64 a0) (by kernel_rfl) (by kernel_rfl)) (hf.sd 0 true [.c (.int .i64 a0), .c (.sl 32 a1)] 1 (.sl 32 a1) (by kernel_rfl) (by kernel_rfl)) (hf.sd 1 false [.c (.int .i64 b)] 0 (.int .i64 b) (by kernel_rfl) (by kernel_rfl)) )

noncomputable def cx121 : Cx := { P := Try.prog, sg := fun i => (alook [(73, sg73), (121, sg121)] i).getD ⟨[], []⟩, mv := fun i => (alook [] i).getD [], head := fun i => (alook [(5, ⟨3000, 3, [⟨0, [some (37, 2, 32)]⟩, ⟨1, [none]⟩, ⟨5, [none]⟩]⟩)] i).getD ⟨0, 0, []⟩, ord := fun i => (alook [] i).getD [] }
noncomputable def st121_5 (a : List (List D)) (b : Int) (n5 : Int) (n1 : Int) : St := (St.of [(5, .v false [.c (.int .i64 n5)]), (1, .v false [.c (.int .i64 n1)]), (0, .v false [.c (.sl 32 a)])] [] [] 3064 27)
def q121 (a : List (List D)) (b : Int)  (J5 : Int → Int → Prop) (R : Int → Prop) : Prop :=
  ((decide (IntKind.wrap IntKind.i64 (b - (↑(List.length a) : Int)) < (0 : Int)) = true → R (-1 : Int)) ∧
  (decide (IntKind.wrap IntKind.i64 (b - (↑(List.length a) : Int)) < (0 : Int)) = false → J5 (0 : Int) (IntKind.wrap IntKind.i64 (b - (↑(List.length a) : Int)))))
theorem v121 (a : List (List D)) (b : Int)  (J : List Item → St → Prop) (R : Int → Prop) : wpt cx121 J (fin Try.prog Try.f121.results.toList sg121 R) 100000 [.code (Try.f121.body.getD .skip)] (initSt [.val false [.c (.sl 32 a)], .val false [.c (.int .i64 b)]] 27) = q121 a b  (fun n5 n1 => J (td (Try.f121.body.getD .skip) 5) (st121_5 a b n5 n1)) R := by kernel_rfl
def q121_5 (a : List (List D)) (b : Int) (n5 : Int) (n1 : Int) (J5 : Int → Int → Prop) (R : Int → Prop) : Prop :=
  ((decide (n5 < (↑(List.length a) : Int)) = true → (((0 : Int) ≤ n5 ∧ n5 < (↑(List.length a) : Int) ∧ List.length (List.getD a (Int.toNat n5) []) = (2 : Nat)) ∧
  (∃ n, (∃ xs, ((List.take (2 : Nat) (List.drop (0 : Nat) (List.getD a (Int.toNat n5) [])) = [D.int IntKind.i64 n, D.sl (32 : Nat) xs]) ∧
  C Try.prog 73 [.val true [.c (.int .i64 n), .c (.sl 32 xs)], .val false [.c (.int .i64 n1)]] sg73 (fun n2 => ((decide (n2 < (0 : Int)) = true → R (-1 : Int)) ∧
  (decide (n2 < (0 : Int)) = false → J5 (IntKind.wrap IntKind.i64 (n5 + (1 : Int))) n2)))))))) ∧
  (decide (n5 < (↑(List.length a) : Int)) = false → R n1))
theorem v121_5 (a : List (List D)) (b : Int) (n5 : Int) (n1 : Int) (J : List Item → St → Prop) (R : Int → Prop) : wpt cx121 J (fin Try.prog Try.f121.results.toList sg121 R) 100000 (td (Try.f121.body.getD .skip) 5) (st121_5 a b n5 n1) = q121_5 a b n5 n1 (fun n5 n1 => J (td (Try.f121.body.getD .skip) 5) (st121_5 a b n5 n1)) R := by kernel_rfl
theorem r121 (a : List (List D)) (b : Int) (R : Int → Prop) (I5 : Nat → Int → Int → Prop)
    (h : DFact (.sl 32 a) → DFact (.int .i64 b) → ∀ (J5 : Int → Int → Prop), (∀ m n5' n1', I5 m n5' n1' → J5 n5' n1') → q121 a b J5 R)
    (h5 : ∀ x (n5 : Int) (n1 : Int), I5 x n5 n1 → DFact (.sl 32 a) → ∀ (J5 : Int → Int → Prop), (∀ m n5' n1', m < x → I5 m n5' n1' → J5 n5' n1') → q121_5 a b n5 n1 J5 R) :
    C Try.prog 121 [.val false [.c (.sl 32 a)], .val false [.c (.int .i64 b)]] sg121 R :=
  C_rule (cx := cx121) (P := Try.prog) (f := 121) (fn := Try.f121) (c := (Try.f121.body.getD .skip)) (args := [.val false [.c (.sl 32 a)], .val false [.c (.int .i64 b)]]) (sg := sg121) (rv := Try.f121.results.toList) (N := 27) (R := R) (μ := Nat) (lt := (· < ·)) Nat.lt_wfRel.wf (fun m td st => (∃ (n5 : Int) (n1 : Int), td = _root_.Go.Gl.td (Try.f121.body.getD .skip) 5 ∧ st = st121_5 a b n5 n1 ∧ I5 m n5 n1)) (by kernel_rfl) (by kernel_rfl) Try.func121 (by kernel_rfl) (by kernel_rfl) (by kernel_rfl) (by kernel_rfl) (by kernel_rfl)
    (fun x td st h hf => by
      obtain ⟨n5, n1, rfl, rfl, hi⟩ := h
      rw [v121_5]
      exact h5 x n5 n1 hi (hf.sd 0 false [.c (.sl 32 a)] 0 (.sl 32 a) (by kernel_rfl) (by kernel_rfl)) _ (fun m n5 n1 hm hi => ⟨m, hm, ⟨n5, n1, rfl, rfl, hi⟩⟩))
    (fun hf => by rw [v121]; exact h (hf.sd 0 false [.c (.sl 32 a)] 0 (.sl 32 a) (by kernel_rfl) (by kernel_rfl)) (hf.sd 1 false [.c (.int .i64 b)] 0 (.int .i64 b) (by kernel_rfl) (by kernel_rfl)) _ (fun m n5 n1 hi => ⟨m, ⟨n5, n1, rfl, rfl, hi⟩⟩))

noncomputable def cx26 : Cx := { P := Try.prog, sg := fun i => (alook [(73, sg73), (74, sg74), (26, sg26)] i).getD ⟨[], []⟩, mv := fun i => (alook [] i).getD [], head := fun i => (alook [] i).getD ⟨0, 0, []⟩, ord := fun i => (alook [] i).getD [] }
def q26 (a0 : Int) (a1 : List UInt8) (a2 : Int) (a3 : Int) (a4 : List (List D)) (a5 : List (List D)) (b : Int)   (R : Int → Prop) : Prop :=
  ((decide (IntKind.wrap IntKind.i64 (b - (↑(List.length a1) : Int)) < (0 : Int)) = true → R (-1 : Int)) ∧
  (decide (IntKind.wrap IntKind.i64 (b - (↑(List.length a1) : Int)) < (0 : Int)) = false → C Try.prog 73 [.val true [.c (.int .i64 a3), .c (.sl 32 a4)], .val false [.c (.int .i64 (IntKind.wrap IntKind.i64 (b - (↑(List.length a1) : Int))))]] sg73 (fun n => ((decide (n < (0 : Int)) = true → R (-1 : Int)) ∧
  (decide (n < (0 : Int)) = false → C Try.prog 74 [.val false [.c (.sl 88 a5)], .val false [.c (.int .i64 n)]] sg74 (fun n1 => ((decide (n1 < (0 : Int)) = true → R (-1 : Int)) ∧
  (decide (n1 < (0 : Int)) = false → R n1))))))))
theorem v26 (a0 : Int) (a1 : List UInt8) (a2 : Int) (a3 : Int) (a4 : List (List D)) (a5 : List (List D)) (b : Int)  (J : List Item → St → Prop) (R : Int → Prop) : wpt cx26 J (fin Try.prog Try.f26.results.toList sg26 R) 100000 [.code (Try.f26.body.getD .skip)] (initSt [.val true [.c (.int .i64 a0), .c (.str a1), .c (.int .i64 a2), .c (.int .i64 a3), .c (.sl 32 a4), .c (.sl 88 a5)], .val false [.c (.int .i64 b)]] 25) = q26 a0 a1 a2 a3 a4 a5 b   R := by kernel_rfl
theorem r26 (a0 : Int) (a1 : List UInt8) (a2 : Int) (a3 : Int) (a4 : List (List D)) (a5 : List (List D)) (b : Int) (R : Int → Prop) 
    (h : DFact (.int .i64 a0) → DFact (.str a1) → DFact (.int .i64 a2) → DFact (.int .i64 a3) → DFact (.sl 32 a4) → DFact (.sl 88 a5) → DFact (.int .i64 b) → q26 a0 a1 a2 a3 a4 a5 b  R) :
    C Try.prog 26 [.val true [.c (.int .i64 a0), .c (.str a1), .c (.int .i64 a2), .c (.int .i64 a3), .c (.sl 32 a4), .c (.sl 88 a5)], .val false [.c (.int .i64 b)]] sg26 R :=
  C_rule (cx := cx26) (P := Try.prog) (f := 26) (fn := Try.f26) (c := (Try.f26.body.getD .skip)) (args := [.val true [.c (.int .i64 a0), .c (.str a1), .c (.int .i64 a2), .c (.int .i64 a3), .c (.sl 32 a4), .c (.sl 88 a5)], .val false [.c (.int .i64 b)]]) (sg := sg26) (rv := Try.f26.results.toList) (N := 25) (R := R) (μ := Nat) (lt := (· < ·)) Nat.lt_wfRel.wf (fun m td st => False) (by kernel_rfl) (by kernel_rfl) Try.func26 (by kernel_rfl) (by kernel_rfl) (by kernel_rfl) (by kernel_rfl) (by kernel_rfl)
    (fun _ _ _ h => h.elim)
    (fun hf => by rw [v26]; exact h (hf.sd 0 true [.c (.int .i64 a0), .c (.str a1), .c (.int .i64 a2), .c (.int .i64 a3), .c (.sl 32 a4), .c (.sl 88 a5)] 0 (.int .i64 a0) (by kernel_rfl) (by kernel_rfl)) (hf.sd 0 true [.c (.int .i64 a0), .c (.str a1), .c (.int .i64 a2), .c (.int .i64 a3), .c (.sl 32 a4), .c (.sl 88 a5)] 1 (.str a1) (by kernel_rfl) (by kernel_rfl)) (hf.sd 0 true [.c (.int .i64 a0), .c (.str a1), .c (.int .i64 a2), .c (.int .i64 a3), .c (.sl 32 a4), .c (.sl 88 a5)] 2 (.int .i64 a2) (by kernel_rfl) (by kernel_rfl)) (hf.sd 0 true [.c (.int .i64 a0), .c (.str a1), .c (.int .i64 a2), .c (.int .i64 a3), .c (.sl 32 a4), .c (.sl 88 a5)] 3 (.int .i64 a3) (by kernel_rfl) (by kernel_rfl)) (hf.sd 0 true [.c (.int .i64 a0), .c (.str a1), .c (.int .i64 a2), .c (.int .i64 a3), .c (.sl 32 a4), .c (.sl 88 a5)] 4 (.sl 32 a4) (by kernel_rfl) (by kernel_rfl)) (hf.sd 0 true [.c (.int .i64 a0), .c (.str a1), .c (.int .i64 a2), .c (.int .i64 a3), .c (.sl 32 a4), .c (.sl 88 a5)] 5 (.sl 88 a5) (by kernel_rfl) (by kernel_rfl)) (hf.sd 1 false [.c (.int .i64 b)] 0 (.int .i64 b) (by kernel_rfl) (by kernel_rfl)) )

noncomputable def cx74 : Cx := { P := Try.prog, sg := fun i => (alook [(26, sg26), (74, sg74)] i).getD ⟨[], []⟩, mv := fun i => (alook [] i).getD [], head := fun i => (alook [(5, ⟨3000, 3, [⟨0, [some (40, 6, 88)]⟩, ⟨1, [none]⟩, ⟨5, [none]⟩]⟩)] i).getD ⟨0, 0, []⟩, ord := fun i => (alook [] i).getD [] }
noncomputable def st74_5 (a : List (List D)) (b : Int) (n5 : Int) (n1 : Int) : St := (St.of [(5, .v false [.c (.int .i64 n5)]), (1, .v false [.c (.int .i64 n1)]), (0, .v false [.c (.sl 88 a)])] [] [] 3064 27)
def q74 (a : List (List D)) (b : Int)  (J5 : Int → Int → Prop) (R : Int → Prop) : Prop :=
  ((decide (IntKind.wrap IntKind.i64 (b - (↑(List.length a) : Int)) < (0 : Int)) = true → R (-1 : Int)) ∧
  (decide (IntKind.wrap IntKind.i64 (b - (↑(List.length a) : Int)) < (0 : Int)) = false → J5 (0 : Int) (IntKind.wrap IntKind.i64 (b - (↑(List.length a) : Int)))))
theorem v74 (a : List (List D)) (b : Int)  (J : List Item → St → Prop) (R : Int → Prop) : wpt cx74 J (fin Try.prog Try.f74.results.toList sg74 R) 100000 [.code (Try.f74.body.getD .skip)] (initSt [.val false [.c (.sl 88 a)], .val false [.c (.int .i64 b)]] 27) = q74 a b  (fun n5 n1 => J (td (Try.f74.body.getD .skip) 5) (st74_5 a b n5 n1)) R := by kernel_rfl
def q74_5 (a : List (List D)) (b : Int) (n5 : Int) (n1 : Int) (J5 : Int → Int → Prop) (R : Int → Prop) : Prop :=
  ((decide (n5 < (↑(List.length a) : Int)) = true → (((0 : Int) ≤ n5 ∧ n5 < (↑(List.length a) : Int) ∧ List.length (List.getD a (Int.toNat n5) []) = (6 : Nat)) ∧
  (∃ n, (∃ s, (∃ n2, (∃ n3, (∃ xs, (∃ xs1, ((List.take (6 : Nat) (List.drop (0 : Nat) (List.getD a (Int.toNat n5) [])) = [D.int IntKind.i64 n, D.str s, D.int IntKind.i64 n2, D.int IntKind.i64 n3, D.sl (32 : Nat) xs, D.sl (88 : Nat) xs1]) ∧
  C Try.prog 26 [.val true [.c (.int .i64 n), .c (.str s), .c (.int .i64 n2), .c (.int .i64 n3), .c (.sl 32 xs), .c (.sl 88 xs1)], .val false [.c (.int .i64 n1)]] sg26 (fun n4 => ((decide (n4 < (0 : Int)) = true → R (-1 : Int)) ∧
  (decide (n4 < (0 : Int)) = false → J5 (IntKind.wrap IntKind.i64 (n5 + (1 : Int))) n4)))))))))))) ∧
  (decide (n5 < (↑(List.length a) : Int)) = false → R n1))
theorem v74_5 (a : List (List D)) (b : Int) (n5 : Int) (n1 : Int) (J : List Item → St → Prop) (R : Int → Prop) : wpt cx74 J (fin Try.prog Try.f74.results.toList sg74 R) 100000 (td (Try.f74.body.getD .skip) 5) (st74_5 a b n5 n1) = q74_5 a b n5 n1 (fun n5 n1 => J (td (Try.f74.body.getD .skip) 5) (st74_5 a b n5 n1)) R := by kernel_rfl
theorem r74 (a : List (List D)) (b : Int) (R : Int → Prop) (I5 : Nat → Int → Int → Prop)
    (h : DFact (.sl 88 a) → DFact (.int .i64 b) → ∀ (J5 : Int → Int → Prop), (∀ m n5' n1', I5 m n5' n1' → J5 n5' n1') → q74 a b J5 R)
    (h5 : ∀ x (n5 : Int) (n1 : Int), I5 x n5 n1 → DFact (.sl 88 a) → ∀ (J5 : Int → Int → Prop), (∀ m n5' n1', m < x → I5 m n5' n1' → J5 n5' n1') → q74_5 a b n5 n1 J5 R) :
    C Try.prog 74 [.val false [.c (.sl 88 a)], .val false [.c (.int .i64 b)]] sg74 R :=
  C_rule (cx := cx74) (P := Try.prog) (f := 74) (fn := Try.f74) (c := (Try.f74.body.getD .skip)) (args := [.val false [.c (.sl 88 a)], .val false [.c (.int .i64 b)]]) (sg := sg74) (rv := Try.f74.results.toList) (N := 27) (R := R) (μ := Nat) (lt := (· < ·)) Nat.lt_wfRel.wf (fun m td st => (∃ (n5 : Int) (n1 : Int), td = _root_.Go.Gl.td (Try.f74.body.getD .skip) 5 ∧ st = st74_5 a b n5 n1 ∧ I5 m n5 n1)) (by kernel_rfl) (by kernel_rfl) Try.func74 (by kernel_rfl) (by kernel_rfl) (by kernel_rfl) (by kernel_rfl) (by kernel_rfl)
    (fun x td st h hf => by
      obtain ⟨n5, n1, rfl, rfl, hi⟩ := h
      rw [v74_5]
      exact h5 x n5 n1 hi (hf.sd 0 false [.c (.sl 88 a)] 0 (.sl 88 a) (by kernel_rfl) (by kernel_rfl)) _ (fun m n5 n1 hm hi => ⟨m, hm, ⟨n5, n1, rfl, rfl, hi⟩⟩))
    (fun hf => by rw [v74]; exact h (hf.sd 0 false [.c (.sl 88 a)] 0 (.sl 88 a) (by kernel_rfl) (by kernel_rfl)) (hf.sd 1 false [.c (.int .i64 b)] 0 (.int .i64 b) (by kernel_rfl) (by kernel_rfl)) _ (fun m n5 n1 hi => ⟨m, ⟨n5, n1, rfl, rfl, hi⟩⟩))

noncomputable def cx76 : Cx := { P := Try.prog, sg := fun i => (alook [(122, sg122), (76, sg76)] i).getD ⟨[], []⟩, mv := fun i => (alook [] i).getD [], head := fun i => (alook [] i).getD ⟨0, 0, []⟩, ord := fun i => (alook [] i).getD [] }
def q76 (a0 : Int) (a1 : List (List D))   (R : Int → (List (List D)) → Prop) : Prop :=
  C Try.prog 122 [.val false [.c (.sl 32 a1)]] sg122 (fun xs => R a0 xs)
theorem v76 (a0 : Int) (a1 : List (List D))  (J : List Item → St → Prop) (R : Int → (List (List D)) → Prop) : wpt cx76 J (fin Try.prog Try.f76.results.toList sg76 R) 100000 [.code (Try.f76.body.getD .skip)] (initSt [.val true [.c (.int .i64 a0), .c (.sl 32 a1)]] 12) = q76 a0 a1   R := by kernel_rfl
theorem r76 (a0 : Int) (a1 : List (List D)) (R : Int → (List (List D)) → Prop) 
    (h : DFact (.int .i64 a0) → DFact (.sl 32 a1) → q76 a0 a1  R) :
    C Try.prog 76 [.val true [.c (.int .i64 a0), .c (.sl 32 a1)]] sg76 R :=
  C_rule (cx := cx76) (P := Try.prog) (f := 76) (fn := Try.f76) (c := (Try.f76.body.getD .skip)) (args := [.val true [.c (.int .i64 a0), .c (.sl 32 a1)]]) (sg := sg76) (rv := Try.f76.results.toList) (N := 12) (R := R) (μ := Nat) (lt := (· < ·)) Nat.lt_wfRel.wf (fun m td st => False) (by kernel_rfl) (by kernel_rfl) Try.func76 (by kernel_rfl) (by kernel_rfl) (by kernel_rfl) (by kernel_rfl) (by kernel_rfl)
    (fun _ _ _ h => h.elim)
    (fun hf => by rw [v76]; exact h (hf.sd 0 true [.c (.int .i64 a0), .c (.sl 32 a1)] 0 (.int .i64 a0) (by kernel_rfl) (by kernel_rfl)) (hf.sd 0 true [.c (.int .i64 a0), .c (.sl 32 a1)] 1 (.sl 32 a1) (by kernel_rfl) (by kernel_rfl)) )

noncomputable def cx122 : Cx := { P := Try.prog, sg := fun i => (alook [(76, sg76), (122, sg122)] i).getD ⟨[], []⟩, mv := fun i => (alook [] i).getD [], head := fun i => (alook [(3, ⟨3000, 3, [⟨0, [some (37, 2, 32)]⟩, ⟨3, [some (45, 2, 32)]⟩, ⟨4, [none]⟩]⟩)] i).getD ⟨0, 0, []⟩, ord := fun i => (alook [] i).getD [] }
noncomputable def st122_3 (a : List (List D)) (n4 : Int) (x3000 : List (List D)) : St := (St.of [(4, .v false [.c (.int .i64 n4)]), (3, .v false [.tk 3000]), (0, .v false [.c (.sl 32 a)])] [] [(3000, ⟨3, 45, 2, 32, x3000⟩)] 3064 23)
def q122 (a : List (List D))  (J3 : Int → (List (List D)) → Prop) (R : (List (List D)) → Prop) : Prop :=
  (((0 : Int) ≤ (↑(List.length a) : Int) ∧ (↑(List.length a) : Int) = (↑(List.length a) : Int) ∧ (↑(List.length a) : Int) * (↑(32 : Nat) : Int) ≤ (↑capB : Int)) ∧
  J3 (0 : Int) (List.replicate (Int.toNat (↑(List.length a) : Int)) (List.map CK.zeroD ([CK.int IntKind.i64] ++ ([CK.sl (45 : Nat) (2 : Nat) (32 : Nat)] ++ [])))))
theorem v122 (a : List (List D))  (J : List Item → St → Prop) (R : (List (List D)) → Prop) : wpt cx122 J (fin Try.prog Try.f122.results.toList sg122 R) 100000 [.code (Try.f122.body.getD .skip)] (initSt [.val false [.c (.sl 32 a)]] 23) = q122 a  (fun n4 x3000 => J (td (Try.f122.body.getD .skip) 3) (st122_3 a n4 x3000)) R := by kernel_rfl
def q122_3 (a : List (List D)) (n4 : Int) (x3000 : List (List D)) (J3 : Int → (List (List D)) → Prop) (R : (List (List D)) → Prop) : Prop :=
  ((decide (n4 < (↑(List.length a) : Int)) = true → (((0 : Int) ≤ n4 ∧ n4 < (↑(List.length a) : Int) ∧ List.length (List.getD a (Int.toNat n4) []) = (2 : Nat)) ∧
  (∃ n, (∃ xs, ((List.take (2 : Nat) (List.drop (0 : Nat) (List.getD a (Int.toNat n4) [])) = [D.int IntKind.i64 n, D.sl (32 : Nat) xs]) ∧
  C Try.prog 76 [.val true [.c (.int .i64 n), .c (.sl 32 xs)]] sg76 (fun n1 => (fun xs1 => (((0 : Int) ≤ n4 ∧ n4 < (↑(List.length x3000) : Int)) ∧
  (((2 : Nat) ≤ List.length (List.getD x3000 (Int.toNat n4) [])) ∧
  J3 (IntKind.wrap IntKind.i64 (n4 + (1 : Int))) (List.set x3000 (Int.toNat n4) (List.take (0 : Nat) (List.getD x3000 (Int.toNat n4) []) ++ [D.int IntKind.i64 n1, D.sl (32 : Nat) xs1] ++ List.drop (2 : Nat) (List.getD x3000 (Int.toNat n4) [])))))))))))) ∧
  (decide (n4 < (↑(List.length a) : Int)) = false → R x3000))
theorem v122_3 (a : List (List D)) (n4 : Int) (x3000 : List (List D)) (J : List Item → St → Prop) (R : (List (List D)) → Prop) : wpt cx122 J (fin Try.prog Try.f122.results.toList sg122 R) 100000 (td (Try.f122.body.getD .skip) 3) (st122_3 a n4 x3000) = q122_3 a n4 x3000 (fun n4 x3000 => J (td (Try.f122.body.getD .skip) 3) (st122_3 a n4 x3000)) R := by kernel_rfl
theorem r122 (a : List (List D)) (R : (List (List D)) → Prop) (I3 : Nat → Int → (List (List D)) → Prop)
    (h : DFact (.sl 32 a) → ∀ (J3 : Int → (List (List D)) → Prop), (∀ m n4' x3000', I3 m n4' x3000' → J3 n4' x3000') → q122 a J3 R)
    (h3 : ∀ x (n4 : Int) (x3000 : List (List D)), I3 x n4 x3000 → DFact (.sl 32 a) → DFact (.sl 32 x3000) → ∀ (J3 : Int → (List (List D)) → Prop), (∀ m n4' x3000', m < x → I3 m n4' x3000' → J3 n4' x3000') → q122_3 a n4 x3000 J3 R) :
    C Try.prog 122 [.val false [.c (.sl 32 a)]] sg122 R :=
  C_rule (cx := cx122) (P := Try.prog) (f := 122) (fn := Try.f122) (c := (Try.f122.body.getD .skip)) (args := [.val false [.c (.sl 32 a)]]) (sg := sg122) (rv := Try.f122.results.toList) (N := 23) (R := R) (μ := Nat) (lt := (· < ·)) Nat.lt_wfRel.wf (fun m td st => (∃ (n4 : Int) (x3000 : List (List D)), td = _root_.Go.Gl.td (Try.f122.body.getD .skip) 3 ∧ st = st122_3 a n4 x3000 ∧ I3 m n4 x3000)) (by kernel_rfl) (by kernel_rfl) Try.func122 (by kernel_rfl) (by kernel_rfl) (by kernel_rfl) (by kernel_rfl) (by kernel_rfl)
    (fun x td st h hf => by
      obtain ⟨n4, x3000, rfl, rfl, hi⟩ := h
      rw [v122_3]
      exact h3 x n4 x3000 hi (hf.sd 0 false [.c (.sl 32 a)] 0 (.sl 32 a) (by kernel_rfl) (by kernel_rfl)) (hf.td 3000 3 45 2 32 x3000 (by kernel_rfl)) _ (fun m n4 x3000 hm hi => ⟨m, hm, ⟨n4, x3000, rfl, rfl, hi⟩⟩))
    (fun hf => by rw [v122]; exact h (hf.sd 0 false [.c (.sl 32 a)] 0 (.sl 32 a) (by kernel_rfl) (by kernel_rfl)) _ (fun m n4 x3000 hi => ⟨m, ⟨n4, x3000, rfl, rfl, hi⟩⟩))

noncomputable def cx28 : Cx := { P := Try.prog, sg := fun i => (alook [(76, sg76), (77, sg77), (28, sg28)] i).getD ⟨[], []⟩, mv := fun i => (alook [] i).getD [], head := fun i => (alook [] i).getD ⟨0, 0, []⟩, ord := fun i => (alook [] i).getD [] }
def q28 (a0 : Int) (a1 : List UInt8) (a2 : Int) (a3 : Int) (a4 : List (List D)) (a5 : List (List D))   (R : Int → (List UInt8) → Int → Int → (List (List D)) → (List (List D)) → Prop) : Prop :=
  C Try.prog 76 [.val true [.c (.int .i64 a3), .c (.sl 32 a4)]] sg76 (fun n => (fun xs => C Try.prog 77 [.val false [.c (.sl 88 a5)]] sg77 (fun xs1 => R a0 a1 a2 n xs xs1)))
theorem v28 (a0 : Int) (a1 : List UInt8) (a2 : Int) (a3 : Int) (a4 : List (List D)) (a5 : List (List D))  (J : List Item → St → Prop) (R : Int → (List UInt8) → Int → Int → (List (List D)) → (List (List D)) → Prop) : wpt cx28 J (fin Try.prog Try.f28.results.toList sg28 R) 100000 [.code (Try.f28.body.getD .skip)] (initSt [.val true [.c (.int .i64 a0), .c (.str a1), .c (.int .i64 a2), .c (.int .i64 a3), .c (.sl 32 a4), .c (.sl 88 a5)]] 22) = q28 a0 a1 a2 a3 a4 a5   R := by kernel_rfl
theorem r28 (a0 : Int) (a1 : List UInt8) (a2 : Int) (a3 : Int) (a4 : List (List D)) (a5 : List (List D)) (R : Int → (List UInt8) → Int → Int → (List (List D)) → (List (List D)) → Prop) 
    (h : DFact (.int .i64 a0) → DFact (.str a1) → DFact (.int .i64 a2) → DFact (.int .i64 a3) → DFact (.sl 32 a4) → DFact (.sl 88 a5) → q28 a0 a1 a2 a3 a4 a5  R) :
    C Try.prog 28 [.val true [.c (.int .i64 a0), .c (.str a1), .c (.int .i64 a2), .c (.int .i64 a3), .c (.sl 32 a4), .c (.sl 88 a5)]] sg28 R :=
  C_rule (cx := cx28) (P := Try.prog) (f := 28) (fn := Try.f28) (c := (Try.f28.body.getD .skip)) (args := [.val true [.c (.int .i64 a0), .c (.str a1), .c (.int .i64 a2), .c (.int .i64 a3), .c (.sl 32 a4), .c (.sl 88 a5)]]) (sg := sg28) (rv := Try.f28.results.toList) (N := 22) (R := R) (μ := Nat) (lt := (· < ·)) Nat.lt_wfRel.wf (fun m td st => False) (by kernel_rfl) (by kernel_rfl) Try.func28 (by kernel_rfl) (by kernel_rfl) (by kernel_rfl) (by kernel_rfl) (by kernel_rfl)
    (fun _ _ _ h => h.elim)
    (fun hf => by rw [v28]; exact h (hf.sd 0 true [.c (.int .i64 a0), .c (.str a1), .c (.int .i64 a2), .c (.int .i64 a3), .c (.sl 32 a4), .c (.sl 88 a5)] 0 (.int .i64 a0) (by kernel_rfl) (by kernel_rfl)) (hf.sd 0 true [.c (.int .i64 a0), .c (.str a1), .c (.int .i64 a2), .c (.int .i64 a3), .c (.sl 32 a4), .c (.sl 88 a5)] 1 (.str a1) (by kernel_rfl) (by kernel_rfl)) (hf.sd 0 true [.c (.int .i64 a0), .c (.str a1), .c (.int .i64 a2), .c (.int .i64 a3), .c (.sl 32 a4), .c (.sl 88 a5)] 2 (.int .i64 a2) (by kernel_rfl) (by kernel_rfl)) (hf.sd 0 true [.c (.int .i64 a0), .c (.str a1), .c (.int .i64 a2), .c (.int .i64 a3), .c (.sl 32 a4), .c (.sl 88 a5)] 3 (.int .i64 a3) (by kernel_rfl) (by kernel_rfl)) (hf.sd 0 true [.c (.int .i64 a0), .c (.str a1), .c (.int .i64 a2), .c (.int .i64 a3), .c (.sl 32 a4), .c (.sl 88 a5)] 4 (.sl 32 a4) (by kernel_rfl) (by kernel_rfl)) (hf.sd 0 true [.c (.int .i64 a0), .c (.str a1), .c (.int .i64 a2), .c (.int .i64 a3), .c (.sl 32 a4), .c (.sl 88 a5)] 5 (.sl 88 a5) (by kernel_rfl) (by kernel_rfl)) )

noncomputable def cx77 : Cx := { P := Try.prog, sg := fun i => (alook [(28, sg28), (77, sg77)] i).getD ⟨[], []⟩, mv := fun i => (alook [] i).getD [], head := fun i => (alook [(3, ⟨3000, 3, [⟨0, [some (40, 6, 88)]⟩, ⟨3, [some (48, 6, 88)]⟩, ⟨4, [none]⟩]⟩)] i).getD ⟨0, 0, []⟩, ord := fun i => (alook [] i).getD [] }
noncomputable def st77_3 (a : List (List D)) (n4 : Int) (x3000 : List (List D)) : St := (St.of [(4, .v false [.c (.int .i64 n4)]), (3, .v false [.tk 3000]), (0, .v false [.c (.sl 88 a)])] [] [(3000, ⟨3, 48, 6, 88, x3000⟩)] 3064 23)
def q77 (a : List (List D))  (J3 : Int → (List (List D)) → Prop) (R : (List (List D)) → Prop) : Prop :=
  (((0 : Int) ≤ (↑(List.length a) : Int) ∧ (↑(List.length a) : Int) = (↑(List.length a) : Int) ∧ (↑(List.length a) : Int) * (↑(88 : Nat) : Int) ≤ (↑capB : Int)) ∧
  J3 (0 : Int) (List.replicate (Int.toNat (↑(List.length a) : Int)) (List.map CK.zeroD ([CK.int IntKind.i64] ++ ([CK.str] ++ ([CK.int IntKind.i64] ++ ([CK.int IntKind.i64] ++ ([CK.sl (45 : Nat) (2 : Nat) (32 : Nat)] ++ []) ++ ([CK.sl (48 : Nat) (6 : Nat) (88 : Nat)] ++ []))))))))
theorem v77 (a : List (List D))  (J : List Item → St → Prop) (R : (List (List D)) → Prop) : wpt cx77 J (fin Try.prog Try.f77.results.toList sg77 R) 100000 [.code (Try.f77.body.getD .skip)] (initSt [.val false [.c (.sl 88 a)]] 23) = q77 a  (fun n4 x3000 => J (td (Try.f77.body.getD .skip) 3) (st77_3 a n4 x3000)) R := by kernel_rfl
def q77_3 (a : List (List D)) (n4 : Int) (x3000 : List (List D)) (J3 : Int → (List (List D)) → Prop) (R : (List (List D)) → Prop) : Prop :=
  ((decide (n4 < (↑(List.length a) : Int)) = true → (((0 : Int) ≤ n4 ∧ n4 < (↑(List.length a) : Int) ∧ List.length (List.getD a (Int.toNat n4) []) = (6 : Nat)) ∧
  (∃ n, (∃ s, (∃ n1, (∃ n2, (∃ xs, (∃ xs1, ((List.take (6 : Nat) (List.drop (0 : Nat) (List.getD a (Int.toNat n4) [])) = [D.int IntKind.i64 n, D.str s, D.int IntKind.i64 n1, D.int IntKind.i64 n2, D.sl (32 : Nat) xs, D.sl (88 : Nat) xs1]) ∧
  C Try.prog 28 [.val true [.c (.int .i64 n), .c (.str s), .c (.int .i64 n1), .c (.int .i64 n2), .c (.sl 32 xs), .c (.sl 88 xs1)]] sg28 (fun n3 => (fun s1 => (fun n5 => (fun n6 => (fun xs2 => (fun xs3 => (((0 : Int) ≤ n4 ∧ n4 < (↑(List.length x3000) : Int)) ∧
  (((6 : Nat) ≤ List.length (List.getD x3000 (Int.toNat n4) [])) ∧
  J3 (IntKind.wrap IntKind.i64 (n4 + (1 : Int))) (List.set x3000 (Int.toNat n4) (List.take (0 : Nat) (List.getD x3000 (Int.toNat n4) []) ++ [D.int IntKind.i64 n3, D.str s1, D.int IntKind.i64 n5, D.int IntKind.i64 n6, D.sl (32 : Nat) xs2, D.sl (88 : Nat) xs3] ++ List.drop (6 : Nat) (List.getD x3000 (Int.toNat n4) [])))))))))))))))))))) ∧
  (decide (n4 < (↑(List.length a) : Int)) = false → R x3000))
theorem v77_3 (a : List (List D)) (n4 : Int) (x3000 : List (List D)) (J : List Item → St → Prop) (R : (List (List D)) → Prop) : wpt cx77 J (fin Try.prog Try.f77.results.toList sg77 R) 100000 (td (Try.f77.body.getD .skip) 3) (st77_3 a n4 x3000) = q77_3 a n4 x3000 (fun n4 x3000 => J (td (Try.f77.body.getD .skip) 3) (st77_3 a n4 x3000)) R := by kernel_rfl
theorem r77 (a : List (List D)) (R : (List (List D)) → Prop) (I3 : Nat → Int → (List (List D)) → Prop)
    (h : DFact (.sl 88 a) → ∀ (J3 : Int → (List (List D)) → Prop), (∀ m n4' x3000', I3 m n4' x3000' → J3 n4' x3000') → q77 a J3 R)
    (h3 : ∀ x (n4 : Int) (x3000 : List (List D)), I3 x n4 x3000 → DFact (.sl 88 a) → DFact (.sl 88 x3000) → ∀ (J3 : Int → (List (List D)) → Prop), (∀ m n4' x3000', m < x → I3 m n4' x3000' → J3 n4' x3000') → q77_3 a n4 x3000 J3 R) :
    C Try.prog 77 [.val false [.c (.sl 88 a)]] sg77 R :=
  C_rule (cx := cx77) (P := Try.prog) (f := 77) (fn := Try.f77) (c := (Try.f77.body.getD .skip)) (args := [.val false [.c (.sl 88 a)]]) (sg := sg77) (rv := Try.f77.results.toList) (N := 23) (R := R) (μ := Nat) (lt := (· < ·)) Nat.lt_wfRel.wf (fun m td st => (∃ (n4 : Int) (x3000 : List (List D)), td = _root_.Go.Gl.td (Try.f77.body.getD .skip) 3 ∧ st = st77_3 a n4 x3000 ∧ I3 m n4 x3000)) (by kernel_rfl) (by kernel_rfl) Try.func77 (by kernel_rfl) (by kernel_rfl) (by kernel_rfl) (by kernel_rfl) (by kernel_rfl)
    (fun x td st h hf => by
      obtain ⟨n4, x3000, rfl, rfl, hi⟩ := h
      rw [v77_3]
      exact h3 x n4 x3000 hi (hf.sd 0 false [.c (.sl 88 a)] 0 (.sl 88 a) (by kernel_rfl) (by kernel_rfl)) (hf.td 3000 3 48 6 88 x3000 (by kernel_rfl)) _ (fun m n4 x3000 hm hi => ⟨m, hm, ⟨n4, x3000, rfl, rfl, hi⟩⟩))
    (fun hf => by rw [v77]; exact h (hf.sd 0 false [.c (.sl 88 a)] 0 (.sl 88 a) (by kernel_rfl) (by kernel_rfl)) _ (fun m n4 x3000 hi => ⟨m, ⟨n4, x3000, rfl, rfl, hi⟩⟩))

noncomputable def cx75 : Cx := { P := Try.prog, sg := fun i => (alook [(75, sg75)] i).getD ⟨[], []⟩, mv := fun i => (alook [] i).getD [], head := fun i => (alook [] i).getD ⟨0, 0, []⟩, ord := fun i => (alook [] i).getD [] }
def q75 (a : Bool)   (R : Int → Prop) : Prop :=
  ((a = true → R (1 : Int)) ∧
  (a = false → R (0 : Int)))
theorem v75 (a : Bool)  (J : List Item → St → Prop) (R : Int → Prop) : wpt cx75 J (fin Try.prog Try.f75.results.toList sg75 R) 100000 [.code (Try.f75.body.getD .skip)] (initSt [.val false [.c (.bool a)]] 4) = q75 a   R := by kernel_rfl
theorem r75 (a : Bool) (R : Int → Prop) 
    (h : q75 a  R) :
    C Try.prog 75 [.val false [.c (.bool a)]] sg75 R :=
  C_rule (cx := cx75) (P := Try.prog) (f := 75) (fn := Try.f75) (c := (Try.f75.body.getD .skip)) (args := [.val false [.c (.bool a)]]) (sg := sg75) (rv := Try.f75.results.toList) (N := 4) (R := R) (μ := Nat) (lt := (· < ·)) Nat.lt_wfRel.wf (fun m td st => False) (by kernel_rfl) (by kernel_rfl) Try.func75 (by kernel_rfl) (by kernel_rfl) (by kernel_rfl) (by kernel_rfl) (by kernel_rfl)
    (fun _ _ _ h => h.elim)
    (fun hf => by rw [v75]; exact h  )

noncomputable def cx27 : Cx := { P := Try.prog, sg := fun i => (alook [(75, sg75), (27, sg27)] i).getD ⟨[], []⟩, mv := fun i => (alook [] i).getD [], head := fun i => (alook [(3, ⟨3000, 3, [⟨1, [none, none, none, none, some (45, 2, 32), some (48, 6, 88)]⟩, ⟨3, [none]⟩, ⟨4, [none]⟩]⟩)] i).getD ⟨0, 0, []⟩, ord := fun i => (alook [] i).getD [] }
noncomputable def st27_3 (a0 : Int) (a1 : List UInt8) (a2 : Int) (a3 : Int) (a4 : List (List D)) (a5 : List (List D)) (n4 : Int) (n3 : Int) : St := (St.of [(4, .v false [.c (.int .i64 n4)]), (3, .v false [.c (.int .i64 n3)]), (1, .lp 1000 0)] [(1000, [.c (.int .i64 a0), .c (.str a1), .c (.int .i64 a2), .c (.int .i64 a3), .c (.sl 32 a4), .c (.sl 88 a5)])] [] 3064 25)
def q27 (a0 : Int) (a1 : List UInt8) (a2 : Int) (a3 : Int) (a4 : List (List D)) (a5 : List (List D))  (J3 : Int → Int → Prop) (R : Int → Prop) : Prop :=
  C Try.prog 75 [.val false [.c (.bool (a0 == (1 : Int)))]] sg75 (fun n => J3 (0 : Int) n)
theorem v27 (a0 : Int) (a1 : List UInt8) (a2 : Int) (a3 : Int) (a4 : List (List D)) (a5 : List (List D))  (J : List Item → St → Prop) (R : Int → Prop) : wpt cx27 J (fin Try.prog Try.f27.results.toList sg27 R) 100000 [.code (Try.f27.body.getD .skip)] (initSt [.val true [.c (.int .i64 a0), .c (.str a1), .c (.int .i64 a2), .c (.int .i64 a3), .c (.sl 32 a4), .c (.sl 88 a5)]] 25) = q27 a0 a1 a2 a3 a4 a5  (fun n4 n3 => J (td (Try.f27.body.getD .skip) 3) (st27_3 a0 a1 a2 a3 a4 a5 n4 n3)) R := by kernel_rfl
def q27_3 (a0 : Int) (a1 : List UInt8) (a2 : Int) (a3 : Int) (a4 : List (List D)) (a5 : List (List D)) (n4 : Int) (n3 : Int) (J3 : Int → Int → Prop) (R : Int → Prop) : Prop :=
  ((decide (n4 < (↑(List.length a5) : Int)) = true → (((0 : Int) ≤ n4 ∧ n4 < (↑(List.length a5) : Int) ∧ List.length (List.getD a5 (Int.toNat n4) []) = (6 : Nat)) ∧
  (∃ n, (∃ s, (∃ n1, (∃ n2, (∃ xs, (∃ xs1, ((List.take (6 : Nat) (List.drop (0 : Nat) (List.getD a5 (Int.toNat n4) [])) = [D.int IntKind.i64 n, D.str s, D.int IntKind.i64 n1, D.int IntKind.i64 n2, D.sl (32 : Nat) xs, D.sl (88 : Nat) xs1]) ∧
  C Try.prog 27 [.val true [.c (.int .i64 n), .c (.str s), .c (.int .i64 n1), .c (.int .i64 n2), .c (.sl 32 xs), .c (.sl 88 xs1)]] sg27 (fun n5 => J3 (IntKind.wrap IntKind.i64 (n4 + (1 : Int))) (IntKind.wrap IntKind.i64 (n3 + n5)))))))))))) ∧
  (decide (n4 < (↑(List.length a5) : Int)) = false → R n3))
theorem v27_3 (a0 : Int) (a1 : List UInt8) (a2 : Int) (a3 : Int) (a4 : List (List D)) (a5 : List (List D)) (n4 : Int) (n3 : Int) (J : List Item → St → Prop) (R : Int → Prop) : wpt cx27 J (fin Try.prog Try.f27.results.toList sg27 R) 100000 (td (Try.f27.body.getD .skip) 3) (st27_3 a0 a1 a2 a3 a4 a5 n4 n3) = q27_3 a0 a1 a2 a3 a4 a5 n4 n3 (fun n4 n3 => J (td (Try.f27.body.getD .skip) 3) (st27_3 a0 a1 a2 a3 a4 a5 n4 n3)) R := by kernel_rfl
theorem r27 (a0 : Int) (a1 : List UInt8) (a2 : Int) (a3 : Int) (a4 : List (List D)) (a5 : List (List D)) (R : Int → Prop) (I3 : Nat → Int → Int → Prop)
    (h : DFact (.int .i64 a0) → DFact (.str a1) → DFact (.int .i64 a2) → DFact (.int .i64 a3) → DFact (.sl 32 a4) → DFact (.sl 88 a5) → ∀ (J3 : Int → Int → Prop), (∀ m n4' n3', I3 m n4' n3' → J3 n4' n3') → q27 a0 a1 a2 a3 a4 a5 J3 R)
    (h3 : ∀ x (n4 : Int) (n3 : Int), I3 x n4 n3 → DFact (.str a1) → DFact (.sl 32 a4) → DFact (.sl 88 a5) → ∀ (J3 : Int → Int → Prop), (∀ m n4' n3', m < x → I3 m n4' n3' → J3 n4' n3') → q27_3 a0 a1 a2 a3 a4 a5 n4 n3 J3 R) :
    C Try.prog 27 [.val true [.c (.int .i64 a0), .c (.str a1), .c (.int .i64 a2), .c (.int .i64 a3), .c (.sl 32 a4), .c (.sl 88 a5)]] sg27 R :=
  C_rule (cx := cx27) (P := Try.prog) (f := 27) (fn := Try.f27) (c := (Try.f27.body.getD .skip)) (args := [.val true [.c (.int .i64 a0), .c (.str a1), .c (.int .i64 a2), .c (.int .i64 a3), .c (.sl 32 a4), .c (.sl 88 a5)]]) (sg := sg27) (rv := Try.f27.results.toList) (N := 25) (R := R) (μ := Nat) (lt := (· < ·)) Nat.lt_wfRel.wf (fun m td st => (∃ (n4 : Int) (n3 : Int), td = _root_.Go.Gl.td (Try.f27.body.getD .skip) 3 ∧ st = st27_3 a0 a1 a2 a3 a4 a5 n4 n3 ∧ I3 m n4 n3)) (by kernel_rfl) (by kernel_rfl) Try.func27 (by kernel_rfl) (by kernel_rfl) (by kernel_rfl) (by kernel_rfl) (by kernel_rfl)
    (fun x td st h hf => by
      obtain ⟨n4, n3, rfl, rfl, hi⟩ := h
      rw [v27_3]
      exact h3 x n4 n3 hi (hf.bd 1000 [.c (.int .i64 a0), .c (.str a1), .c (.int .i64 a2), .c (.int .i64 a3), .c (.sl 32 a4), .c (.sl 88 a5)] 1 (.str a1) (by kernel_rfl) (by kernel_rfl)) (hf.bd 1000 [.c (.int .i64 a0), .c (.str a1), .c (.int .i64 a2), .c (.int .i64 a3), .c (.sl 32 a4), .c (.sl 88 a5)] 4 (.sl 32 a4) (by kernel_rfl) (by kernel_rfl)) (hf.bd 1000 [.c (.int .i64 a0), .c (.str a1), .c (.int .i64 a2), .c (.int .i64 a3), .c (.sl 32 a4), .c (.sl 88 a5)] 5 (.sl 88 a5) (by kernel_rfl) (by kernel_rfl)) _ (fun m n4 n3 hm hi => ⟨m, hm, ⟨n4, n3, rfl, rfl, hi⟩⟩))
    (fun hf => by rw [v27]; exact h (hf.sd 0 true [.c (.int .i64 a0), .c (.str a1), .c (.int .i64 a2), .c (.int .i64 a3), .c (.sl 32 a4), .c (.sl 88 a5)] 0 (.int .i64 a0) (by kernel_rfl) (by kernel_rfl)) (hf.sd 0 true [.c (.int .i64 a0), .c (.str a1), .c (.int .i64 a2), .c (.int .i64 a3), .c (.sl 32 a4), .c (.sl 88 a5)] 1 (.str a1) (by kernel_rfl) (by kernel_rfl)) (hf.sd 0 true [.c (.int .i64 a0), .c (.str a1), .c (.int .i64 a2), .c (.int .i64 a3), .c (.sl 32 a4), .c (.sl 88 a5)] 2 (.int .i64 a2) (by kernel_rfl) (by kernel_rfl)) (hf.sd 0 true [.c (.int .i64 a0), .c (.str a1), .c (.int .i64 a2), .c (.int .i64 a3), .c (.sl 32 a4), .c (.sl 88 a5)] 3 (.int .i64 a3) (by kernel_rfl) (by kernel_rfl)) (hf.sd 0 true [.c (.int .i64 a0), .c (.str a1), .c (.int .i64 a2), .c (.int .i64 a3), .c (.sl 32 a4), .c (.sl 88 a5)] 4 (.sl 32 a4) (by kernel_rfl) (by kernel_rfl)) (hf.sd 0 true [.c (.int .i64 a0), .c (.str a1), .c (.int .i64 a2), .c (.int .i64 a3), .c (.sl 32 a4), .c (.sl 88 a5)] 5 (.sl 88 a5) (by kernel_rfl) (by kernel_rfl)) _ (fun m n4 n3 hi => ⟨m, ⟨n4, n3, rfl, rfl, hi⟩⟩))

noncomputable def cx33 : Cx := { P := Try.prog, sg := fun i => (alook [(83, sg83), (33, sg33)] i).getD ⟨[], []⟩, mv := fun i => (alook [] i).getD [], head := fun i => (alook [] i).getD ⟨0, 0, []⟩, ord := fun i => (alook [] i).getD [] }
def q33 (a0 : Int) (a1 : List (List D)) (b0 : Int) (b1 : List (List D))   (R : Bool → Prop) : Prop :=
  (((a0 != b0) = true → R false) ∧
  ((a0 != b0) = false → C Try.prog 83 [.val false [.c (.sl 32 a1)], .val false [.c (.sl 32 b1)]] sg83 (fun b => (((!b) = true → R false) ∧
  ((!b) = false → R true)))))
theorem v33 (a0 : Int) (a1 : List (List D)) (b0 : Int) (b1 : List (List D))  (J : List Item → St → Prop) (R : Bool → Prop) : wpt cx33 J (fin Try.prog Try.f33.results.toList sg33 R) 100000 [.code (Try.f33.body.getD .skip)] (initSt [.val true [.c (.int .i64 a0), .c (.sl 32 a1)], .val true [.c (.int .i64 b0), .c (.sl 32 b1)]] 16) = q33 a0 a1 b0 b1   R := by kernel_rfl
theorem r33 (a0 : Int) (a1 : List (List D)) (b0 : Int) (b1 : List (List D)) (R : Bool → Prop) 
    (h : DFact (.int .i64 a0) → DFact (.sl 32 a1) → DFact (.int .i64 b0) → DFact (.sl 32 b1) → q33 a0 a1 b0 b1  R) :
    C Try.prog 33 [.val true [.c (.int .i64 a0), .c (.sl 32 a1)], .val true [.c (.int .i64 b0), .c (.sl 32 b1)]] sg33 R :=
  C_rule (cx := cx33) (P := Try.prog) (f := 33) (fn := Try.f33) (c := (Try.f33.body.getD .skip)) (args := [.val true [.c (.int .i64 a0), .c (.sl 32 a1)], .val true [.c (.int .i64 b0), .c (.sl 32 b1)]]) (sg := sg33) (rv := Try.f33.results.toList) (N := 16) (R := R) (μ := Nat) (lt := (· < ·)) Nat.lt_wfRel.wf (fun m td st => False) (by kernel_rfl) (by kernel_rfl) Try.func33 (by kernel_rfl) (by kernel_rfl) (by kernel_rfl) (by kernel_rfl) (by kernel_rfl)
    (fun _ _ _ h => h.elim)
    (fun hf => by rw [v33]; exact h (hf.sd 0 true [.c (.int .i64 a0), .c (.sl 32 a1)] 0 (.int .i64 a0) (by kernel_rfl) (by kernel_rfl)) (hf.sd 0 true [.c (.int .i64 a0), .c (.sl 32 a1)] 1 (.sl 32 a1) (by kernel_rfl) (by kernel_rfl)) (hf.sd 1 true [.c (.int .i64 b0), .c (.sl 32 b1)] 0 (.int .i64 b0) (by kernel_rfl) (by kernel_rfl)) (hf.sd 1 true [.c (.int .i64 b0), .c (.sl 32 b1)] 1 (.sl 32 b1) (by kernel_rfl) (by kernel_rfl)) )

noncomputable def cx83 : Cx := { P := Try.prog, sg := fun i => (alook [(33, sg33), (83, sg83)] i).getD ⟨[], []⟩, mv := fun i => (alook [] i).getD [], head := fun i => (alook [(4, ⟨3000, 3, [⟨0, [some (45, 2, 32)]⟩, ⟨1, [some (45, 2, 32)]⟩, ⟨5, [none]⟩]⟩)] i).getD ⟨0, 0, []⟩, ord := fun i => (alook [(6, [0, 1, 2, 3, 4, 5, 6, 7, 8, 9])] i).getD [] }
noncomputable def st83_4 (a : List (List D)) (b : List (List D)) (n5 : Int) : St := (St.of [(5, .v false [.c (.int .i64 n5)]), (1, .v false [.c (.sl 32 b)]), (0, .v false [.c (.sl 32 a)])] [] [] 3064 27)
def q83 (a : List (List D)) (b : List (List D))  (J4 : Int → Prop) (R : Bool → Prop) : Prop :=
  ((((↑(List.length a) : Int) != (↑(List.length b) : Int)) = true → R false) ∧
  (((↑(List.length a) : Int) != (↑(List.length b) : Int)) = false → J4 (0 : Int)))
theorem v83 (a : List (List D)) (b : List (List D))  (J : List Item → St → Prop) (R : Bool → Prop) : wpt cx83 J (fin Try.prog Try.f83.results.toList sg83 R) 100000 [.code (Try.f83.body.getD .skip)] (initSt [.val false [.c (.sl 32 a)], .val false [.c (.sl 32 b)]] 27) = q83 a b  (fun n5 => J (td (Try.f83.body.getD .skip) 4) (st83_4 a b n5)) R := by kernel_rfl
def q83_4 (a : List (List D)) (b : List (List D)) (n5 : Int) (J4 : Int → Prop) (R : Bool → Prop) : Prop :=
  ((decide (n5 < (↑(List.length a) : Int)) = true → (((0 : Int) ≤ n5 ∧ n5 < (↑(List.length a) : Int) ∧ List.length (List.getD a (Int.toNat n5) []) = (2 : Nat)) ∧
  (∃ n, (∃ xs, ((List.take (2 : Nat) (List.drop (0 : Nat) (List.getD a (Int.toNat n5) [])) = [D.int IntKind.i64 n, D.sl (32 : Nat) xs]) ∧
  (((0 : Int) ≤ n5 ∧ n5 < (↑(List.length b) : Int) ∧ List.length (List.getD b (Int.toNat n5) []) = (2 : Nat)) ∧
  (∃ n1, (∃ xs1, ((List.take (2 : Nat) (List.drop (0 : Nat) (List.getD b (Int.toNat n5) [])) = [D.int IntKind.i64 n1, D.sl (32 : Nat) xs1]) ∧
  C Try.prog 33 [.val true [.c (.int .i64 n), .c (.sl 32 xs)], .val true [.c (.int .i64 n1), .c (.sl 32 xs1)]] sg33 (fun b1 => (((!b1) = true → R false) ∧
  ((!b1) = false → J4 (IntKind.wrap IntKind.i64 (n5 + (1 : Int))))))))))))))) ∧
  (decide (n5 < (↑(List.length a) : Int)) = false → R true))
theorem v83_4 (a : List (List D)) (b : List (List D)) (n5 : Int) (J : List Item → St → Prop) (R : Bool → Prop) : wpt cx83 J (fin Try.prog Try.f83.results.toList sg83 R) 100000 (td (Try.f83.body.getD .skip) 4) (st83_4 a b n5) = q83_4 a b n5 (fun n5 => J (td (Try.f83.body.getD .skip) 4) (st83_4 a b n5)) R := by kernel_rfl
theorem r83 (a : List (List D)) (b : List (List D)) (R : Bool → Prop) (I4 : Nat → Int → Prop)
    (h : DFact (.sl 32 a) → DFact (.sl 32 b) → ∀ (J4 : Int → Prop), (∀ m n5', I4 m n5' → J4 n5') → q83 a b J4 R)
    (h4 : ∀ x (n5 : Int), I4 x n5 → DFact (.sl 32 b) → DFact (.sl 32 a) → ∀ (J4 : Int → Prop), (∀ m n5', m < x → I4 m n5' → J4 n5') → q83_4 a b n5 J4 R) :
    C Try.prog 83 [.val false [.c (.sl 32 a)], .val false [.c (.sl 32 b)]] sg83 R :=
  C_rule (cx := cx83) (P := Try.prog) (f := 83) (fn := Try.f83) (c := (Try.f83.body.getD .skip)) (args := [.val false [.c (.sl 32 a)], .val false [.c (.sl 32 b)]]) (sg := sg83) (rv := Try.f83.results.toList) (N := 27) (R := R) (μ := Nat) (lt := (· < ·)) Nat.lt_wfRel.wf (fun m td st => (∃ (n5 : Int), td = _root_.Go.Gl.td (Try.f83.body.getD .skip) 4 ∧ st = st83_4 a b n5 ∧ I4 m n5)) (by kernel_rfl) (by kernel_rfl) Try.func83 (by kernel_rfl) (by kernel_rfl) (by kernel_rfl) (by kernel_rfl) (by kernel_rfl)
    (fun x td st h hf => by
      obtain ⟨n5, rfl, rfl, hi⟩ := h
      rw [v83_4]
      exact h4 x n5 hi (hf.sd 1 false [.c (.sl 32 b)] 0 (.sl 32 b) (by kernel_rfl) (by kernel_rfl)) (hf.sd 0 false [.c (.sl 32 a)] 0 (.sl 32 a) (by kernel_rfl) (by kernel_rfl)) _ (fun m n5 hm hi => ⟨m, hm, ⟨n5, rfl, rfl, hi⟩⟩))
    (fun hf => by rw [v83]; exact h (hf.sd 0 false [.c (.sl 32 a)] 0 (.sl 32 a) (by kernel_rfl) (by kernel_rfl)) (hf.sd 1 false [.c (.sl 32 b)] 0 (.sl 32 b) (by kernel_rfl) (by kernel_rfl)) _ (fun m n5 hi => ⟨m, ⟨n5, rfl, rfl, hi⟩⟩))

noncomputable def cx30 : Cx := { P := Try.prog, sg := fun i => (alook [(33, sg33), (79, sg79), (30, sg30)] i).getD ⟨[], []⟩, mv := fun i => (alook [] i).getD [], head := fun i => (alook [] i).getD ⟨0, 0, []⟩, ord := fun i => (alook [] i).getD [] }
def q30 (a0 : Int) (a1 : List UInt8) (a2 : Int) (a3 : Int) (a4 : List (List D)) (a5 : List (List D)) (b0 : Int) (b1 : List UInt8) (b2 : Int) (b3 : Int) (b4 : List (List D)) (b5 : List (List D))   (R : Bool → Prop) : Prop :=
  (((a0 != b0) = true → R false) ∧
  ((a0 != b0) = false → (((a1 != b1) = true → R false) ∧
  ((a1 != b1) = false → (((a2 != b2) = true → R false) ∧
  ((a2 != b2) = false → C Try.prog 33 [.val true [.c (.int .i64 a3), .c (.sl 32 a4)], .val true [.c (.int .i64 b3), .c (.sl 32 b4)]] sg33 (fun b => (((!b) = true → R false) ∧
  ((!b) = false → C Try.prog 79 [.val false [.c (.sl 88 a5)], .val false [.c (.sl 88 b5)]] sg79 (fun b6 => (((!b6) = true → R false) ∧
  ((!b6) = false → R true))))))))))))
theorem v30 (a0 : Int) (a1 : List UInt8) (a2 : Int) (a3 : Int) (a4 : List (List D)) (a5 : List (List D)) (b0 : Int) (b1 : List UInt8) (b2 : Int) (b3 : Int) (b4 : List (List D)) (b5 : List (List D))  (J : List Item → St → Prop) (R : Bool → Prop) : wpt cx30 J (fin Try.prog Try.f30.results.toList sg30 R) 100000 [.code (Try.f30.body.getD .skip)] (initSt [.val true [.c (.int .i64 a0), .c (.str a1), .c (.int .i64 a2), .c (.int .i64 a3), .c (.sl 32 a4), .c (.sl 88 a5)], .val true [.c (.int .i64 b0), .c (.str b1), .c (.int .i64 b2), .c (.int .i64 b3), .c (.sl 32 b4), .c (.sl 88 b5)]] 32) = q30 a0 a1 a2 a3 a4 a5 b0 b1 b2 b3 b4 b5   R := by kernel_rfl
theorem r30 (a0 : Int) (a1 : List UInt8) (a2 : Int) (a3 : Int) (a4 : List (List D)) (a5 : List (List D)) (b0 : Int) (b1 : List UInt8) (b2 : Int) (b3 : Int) (b4 : List (List D)) (b5 : List (List D)) (R : Bool → Prop) 
    (h : DFact (.int .i64 a0) → DFact (.str a1) → DFact (.int .i64 a2) → DFact (.int .i64 a3) → DFact (.sl 32 a4) → DFact (.sl 88 a5) → DFact (.int .i64 b0) → DFact (.str b1) → DFact (.int .i64 b2) → DFact (.int .i64 b3) → DFact (.sl 32 b4) → DFact (.sl 88 b5) → q30 a0 a1 a2 a3 a4 a5 b0 b1 b2 b3 b4 b5  R) :
    C Try.prog 30 [.val true [.c (.int .i64 a0), .c (.str a1), .c (.int .i64 a2), .c (.int .i64 a3), .c (.sl 32 a4), .c (.sl 88 a5)], .val true [.c (.int .i64 b0), .c (.str b1), .c (.int .i64 b2), .c (.int .i64 b3), .c (.sl 32 b4), .c (.sl 88 b5)]] sg30 R :=
  C_rule (cx := cx30) (P := Try.prog) (f := 30) (fn := Try.f30) (c := (Try.f30.body.getD .skip)) (args := [.val true [.c (.int .i64 a0), .c (.str a1), .c (.int .i64 a2), .c (.int .i64 a3), .c (.sl 32 a4), .c (.sl 88 a5)], .val true [.c (.int .i64 b0), .c (.str b1), .c (.int .i64 b2), .c (.int .i64 b3), .c (.sl 32 b4), .c (.sl 88 b5)]]) (sg := sg30) (rv := Try.f30.results.toList) (N := 32) (R := R) (μ := Nat) (lt := (· < ·)) Nat.lt_wfRel.wf (fun m td st => False) (by kernel_rfl) (by kernel_rfl) Try.func30 (by kernel_rfl) (by kernel_rfl) (by kernel_rfl) (by kernel_rfl) (by kernel_rfl)
    (fun _ _ _ h => h.elim)
    (fun hf => by rw [v30]; exact h (hf.sd 0 true [.c (.int .i64 a0), .c (.str a1), .c (.int .i64 a2), .c (.int .i64 a3), .c (.sl 32 a4), .c (.sl 88 a5)] 0 (.int .i64 a0) (by kernel_rfl) (by kernel_rfl)) (hf.sd 0 true [.c (.int .i64 a0), .c (.str a1), .c (.int .i64 a2), .c (.int .i64 a3), .c (.sl 32 a4), .c (.sl 88 a5)] 1 (.str a1) (by kernel_rfl) (by kernel_rfl)) (hf.sd 0 true [.c (.int .i64 a0), .c (.str a1), .c (.int .i64 a2), .c (.int .i64 a3), .c (.sl 32 a4), .c (.sl 88 a5)] 2 (.int .i64 a2) (by kernel_rfl) (by kernel_rfl)) (hf.sd 0 true [.c (.int .i64 a0), .c (.str a1), .c (.int .i64 a2), .c (.int .i64 a3), .c (.sl 32 a4), .c (.sl 88 a5)] 3 (.int .i64 a3) (by kernel_rfl) (by kernel_rfl)) (hf.sd 0 true [.c (.int .i64 a0), .c (.str a1), .c (.int .i64 a2), .c (.int .i64 a3), .c (.sl 32 a4), .c (.sl 88 a5)] 4 (.sl 32 a4) (by kernel_rfl) (by kernel_rfl)) (hf.sd 0 true [.c (.int .i64 a0), .c (.str a1), .c (.int .i64 a2), .c (.int .i64 a3), .c (.sl 32 a4), .c (.sl 88 a5)] 5 (.sl 88 a5) (by kernel_rfl) (by kernel_rfl)) (hf.sd 1 true [.c (.int .i64 b0), .c (.str b1), .c (.int .i64 b2), .c (.int .i64 b3), .c (.sl 32 b4), .c (.sl 88 b5)] 0 (.int .i64 b0) (by kernel_rfl) (by kernel_rfl)) (hf.sd 1 true [.c (.int .i64 b0), .c (.str b1), .c (.int .i64 b2), .c (.int .i64 b3), .c (.sl 32 b4), .c (.sl 88 b5)] 1 (.str b1) (by kernel_rfl) (by kernel_rfl)) (hf.sd 1 true [.c (.int .i64 b0), .c (.str b1), .c (.int .i64 b2), .c (.int .i64 b3), .c (.sl 32 b4), .c (.sl 88 b5)] 2 (.int .i64 b2) (by kernel_rfl) (by kernel_rfl)) (hf.sd 1 true [.c (.int .i64 b0), .c (.str b1), .c (.int .i64 b2), .c (.int .i64 b3), .c (.sl 32 b4), .c (.sl 88 b5)] 3 (.int .i64 b3) (by kernel_rfl) (by kernel_rfl)) (hf.sd 1 true [.c (.int .i64 b0), .c (.str b1), .c (.int .i64 b2), .c (.int .i64 b3), .c (.sl 32 b4), .c (.sl 88 b5)] 4 (.sl 32 b4) (by kernel_rfl) (by kernel_rfl)) (hf.sd 1 true [.c (.int .i64 b0), .c (.str b1), .c (.int .i64 b2), .c (.int .i64 b3), .c (.sl 32 b4), .c (.sl 88 b5)] 5 (.sl 88 b5) (by kernel_rfl) (by kernel_rfl)) )

noncomputable def cx79 : Cx := { P := Try.prog, sg := fun i => (alook [(30, sg30), (79, sg79)] i).getD ⟨[], []⟩, mv := fun i => (alook [] i).getD [], head := fun i => (alook [(4, ⟨3000, 3, [⟨0, [some (48, 6, 88)]⟩, ⟨1, [some (48, 6, 88)]⟩, ⟨5, [none]⟩]⟩)] i).getD ⟨0, 0, []⟩, ord := fun i => (alook [(6, [0, 1, 2, 3, 4, 5, 6, 7, 8, 9])] i).getD [] }
noncomputable def st79_4 (a : List (List D)) (b : List (List D)) (n5 : Int) : St := (St.of [(5, .v false [.c (.int .i64 n5)]), (1, .v false [.c (.sl 88 b)]), (0, .v false [.c (.sl 88 a)])] [] [] 3064 27)
def q79 (a : List (List D)) (b : List (List D))  (J4 : Int → Prop) (R : Bool → Prop) : Prop :=
  ((((↑(List.length a) : Int) != (↑(List.length b) : Int)) = true → R false) ∧
  (((↑(List.length a) : Int) != (↑(List.length b) : Int)) = false → J4 (0 : Int)))
theorem v79 (a : List (List D)) (b : List (List D))  (J : List Item → St → Prop) (R : Bool → Prop) : wpt cx79 J (fin Try.prog Try.f79.results.toList sg79 R) 100000 [.code (Try.f79.body.getD .skip)] (initSt [.val false [.c (.sl 88 a)], .val false [.c (.sl 88 b)]] 27) = q79 a b  (fun n5 => J (td (Try.f79.body.getD .skip) 4) (st79_4 a b n5)) R := by kernel_rfl
def q79_4 (a : List (List D)) (b : List (List D)) (n5 : Int) (J4 : Int → Prop) (R : Bool → Prop) : Prop :=
  ((decide (n5 < (↑(List.length a) : Int)) = true → (((0 : Int) ≤ n5 ∧ n5 < (↑(List.length a) : Int) ∧ List.length (List.getD a (Int.toNat n5) []) = (6 : Nat)) ∧
  (∃ n, (∃ s, (∃ n1, (∃ n2, (∃ xs, (∃ xs1, ((List.take (6 : Nat) (List.drop (0 : Nat) (List.getD a (Int.toNat n5) [])) = [D.int IntKind.i64 n, D.str s, D.int IntKind.i64 n1, D.int IntKind.i64 n2, D.sl (32 : Nat) xs, D.sl (88 : Nat) xs1]) ∧
  (((0 : Int) ≤ n5 ∧ n5 < (↑(List.length b) : Int) ∧ List.length (List.getD b (Int.toNat n5) []) = (6 : Nat)) ∧
  (∃ n3, (∃ s1, (∃ n4, (∃ n6, (∃ xs2, (∃ xs3, ((List.take (6 : Nat) (List.drop (0 : Nat) (List.getD b (Int.toNat n5) [])) = [D.int IntKind.i64 n3, D.str s1, D.int IntKind.i64 n4, D.int IntKind.i64 n6, D.sl (32 : Nat) xs2, D.sl (88 : Nat) xs3]) ∧
  C Try.prog 30 [.val true [.c (.int .i64 n), .c (.str s), .c (.int .i64 n1), .c (.int .i64 n2), .c (.sl 32 xs), .c (.sl 88 xs1)], .val true [.c (.int .i64 n3), .c (.str s1), .c (.int .i64 n4), .c (.int .i64 n6), .c (.sl 32 xs2), .c (.sl 88 xs3)]] sg30 (fun b1 => (((!b1) = true → R false) ∧
  ((!b1) = false → J4 (IntKind.wrap IntKind.i64 (n5 + (1 : Int))))))))))))))))))))))) ∧
  (decide (n5 < (↑(List.length a) : Int)) = false → R true))
theorem v79_4 (a : List (List D)) (b : List (List D)) (n5 : Int) (J : List Item → St → Prop) (R : Bool → Prop) : wpt cx79 J (fin Try.prog Try.f79.results.toList sg79 R) 100000 (td (Try.f79.body.getD .skip) 4) (st79_4 a b n5) = q79_4 a b n5 (fun n5 => J (td (Try.f79.body.getD .skip) 4) (st79_4 a b n5)) R := by kernel_rfl
theorem r79 (a : List (List D)) (b : List (List D)) (R : Bool → Prop) (I4 : Nat → Int → Prop)
    (h : DFact (.sl 88 a) → DFact (.sl 88 b) → ∀ (J4 : Int → Prop), (∀ m n5', I4 m n5' → J4 n5') → q79 a b J4 R)
    (h4 : ∀ x (n5 : Int), I4 x n5 → DFact (.sl 88 b) → DFact (.sl 88 a) → ∀ (J4 : Int → Prop), (∀ m n5', m < x → I4 m n5' → J4 n5') → q79_4 a b n5 J4 R) :
    C Try.prog 79 [.val false [.c (.sl 88 a)], .val false [.c (.sl 88 b)]] sg79 R :=
  C_rule (cx := cx79) (P := Try.prog) (f := 79) (fn := Try.f79) (c := (Try.f79.body.getD .skip)) (args := [.val false [.c (.sl 88 a)], .val false [.c (.sl 88 b)]]) (sg := sg79) (rv := Try.f79.results.toList) (N := 27) (R := R) (μ := Nat) (lt := (· < ·)) Nat.lt_wfRel.wf (fun m td st => (∃ (n5 : Int), td = _root_.Go.Gl.td (Try.f79.body.getD .skip) 4 ∧ st = st79_4 a b n5 ∧ I4 m n5)) (by kernel_rfl) (by kernel_rfl) Try.func79 (by kernel_rfl) (by kernel_rfl) (by kernel_rfl) (by kernel_rfl) (by kernel_rfl)
    (fun x td st h hf => by
      obtain ⟨n5, rfl, rfl, hi⟩ := h
      rw [v79_4]
      exact h4 x n5 hi (hf.sd 1 false [.c (.sl 88 b)] 0 (.sl 88 b) (by kernel_rfl) (by kernel_rfl)) (hf.sd 0 false [.c (.sl 88 a)] 0 (.sl 88 a) (by kernel_rfl) (by kernel_rfl)) _ (fun m n5 hm hi => ⟨m, hm, ⟨n5, rfl, rfl, hi⟩⟩))
    (fun hf => by rw [v79]; exact h (hf.sd 0 false [.c (.sl 88 a)] 0 (.sl 88 a) (by kernel_rfl) (by kernel_rfl)) (hf.sd 1 false [.c (.sl 88 b)] 0 (.sl 88 b) (by kernel_rfl) (by kernel_rfl)) _ (fun m n5 hi => ⟨m, ⟨n5, rfl, rfl, hi⟩⟩))

noncomputable def cx124 : Cx := { P := Try.prog, sg := fun i => (alook [(124, sg124)] i).getD ⟨[], []⟩, mv := fun i => (alook [] i).getD [], head := fun i => (alook [] i).getD ⟨0, 0, []⟩, ord := fun i => (alook [] i).getD [] }
def q124 (a0 : Int) (a1 : List UInt8) (a2 : Int) (a3 : Int) (a4 : List (List D)) (a5 : List (List D)) (b : Int) (c : Int)   (R : Int → Int → Prop) : Prop :=
  (((a0 == b) = true → R b (IntKind.wrap IntKind.i64 (c + (1 : Int)))) ∧
  ((a0 == b) = false → R b c))
theorem v124 (a0 : Int) (a1 : List UInt8) (a2 : Int) (a3 : Int) (a4 : List (List D)) (a5 : List (List D)) (b : Int) (c : Int)  (J : List Item → St → Prop) (R : Int → Int → Prop) : wpt cx124 J (fin Try.prog Try.f124.results.toList sg124 R) 100000 [.code (Try.f124.body.getD .skip)] (initSt [.val true [.c (.int .i64 a0), .c (.str a1), .c (.int .i64 a2), .c (.int .i64 a3), .c (.sl 32 a4), .c (.sl 88 a5)], .box [.c (.int .i64 b)], .box [.c (.int .i64 c)]] 10) = q124 a0 a1 a2 a3 a4 a5 b c   R := by kernel_rfl
theorem r124 (a0 : Int) (a1 : List UInt8) (a2 : Int) (a3 : Int) (a4 : List (List D)) (a5 : List (List D)) (b : Int) (c : Int) (R : Int → Int → Prop) 
    (h : DFact (.int .i64 a0) → DFact (.str a1) → DFact (.int .i64 a2) → DFact (.int .i64 a3) → DFact (.sl 32 a4) → DFact (.sl 88 a5) → DFact (.int .i64 b) → DFact (.int .i64 c) → q124 a0 a1 a2 a3 a4 a5 b c  R) :
    C Try.prog 124 [.val true [.c (.int .i64 a0), .c (.str a1), .c (.int .i64 a2), .c (.int .i64 a3), .c (.sl 32 a4), .c (.sl 88 a5)], .box [.c (.int .i64 b)], .box [.c (.int .i64 c)]] sg124 R :=
  C_rule (cx := cx124) (P := Try.prog) (f := 124) (fn := Try.f124) (c := (Try.f124.body.getD .skip)) (args := [.val true [.c (.int .i64 a0), .c (.str a1), .c (.int .i64 a2), .c (.int .i64 a3), .c (.sl 32 a4), .c (.sl 88 a5)], .box [.c (.int .i64 b)], .box [.c (.int .i64 c)]]) (sg := sg124) (rv := Try.f124.results.toList) (N := 10) (R := R) (μ := Nat) (lt := (· < ·)) Nat.lt_wfRel.wf (fun m td st => False) (by kernel_rfl) (by kernel_rfl) Try.func124 (by kernel_rfl) (by kernel_rfl) (by kernel_rfl) (by kernel_rfl) (by kernel_rfl)
    (fun _ _ _ h => h.elim)
    (fun hf => by rw [v124]; exact h (hf.sd 0 true [.c (.int .i64 a0), .c (.str a1), .c (.int .i64 a2), .c (.int .i64 a3), .c (.sl 32 a4), .c (.sl 88 a5)] 0 (.int .i64 a0) (by kernel_rfl) (by kernel_rfl)) (hf.sd 0 true [.c (.int .i64 a0), .c (.str a1), .c (.int .i64 a2), .c (.int .i64 a3), .c (.sl 32 a4), .c (.sl 88 a5)] 1 (.str a1) (by kernel_rfl) (by kernel_rfl)) (hf.sd 0 true [.c (.int .i64 a0), .c (.str a1), .c (.int .i64 a2), .c (.int .i64 a3), .c (.sl 32 a4), .c (.sl 88 a5)] 2 (.int .i64 a2) (by kernel_rfl) (by kernel_rfl)) (hf.sd 0 true [.c (.int .i64 a0), .c (.str a1), .c (.int .i64 a2), .c (.int .i64 a3), .c (.sl 32 a4), .c (.sl 88 a5)] 3 (.int .i64 a3) (by kernel_rfl) (by kernel_rfl)) (hf.sd 0 true [.c (.int .i64 a0), .c (.str a1), .c (.int .i64 a2), .c (.int .i64 a3), .c (.sl 32 a4), .c (.sl 88 a5)] 4 (.sl 32 a4) (by kernel_rfl) (by kernel_rfl)) (hf.sd 0 true [.c (.int .i64 a0), .c (.str a1), .c (.int .i64 a2), .c (.int .i64 a3), .c (.sl 32 a4), .c (.sl 88 a5)] 5 (.sl 88 a5) (by kernel_rfl) (by kernel_rfl)) (hf.bd 0 [.c (.int .i64 b)] 0 (.int .i64 b) (by kernel_rfl) (by kernel_rfl)) (hf.bd 1 [.c (.int .i64 c)] 0 (.int .i64 c) (by kernel_rfl) (by kernel_rfl)) )

noncomputable def cx123 : Cx := { P := Try.prog, sg := fun i => (alook [(123, sg123), (124, sg124)] i).getD ⟨[], []⟩, mv := fun i => (alook [] i).getD [], head := fun i => (alook [(3, ⟨3000, 3, [⟨1, []⟩, ⟨10, [some (48, 6, 88)]⟩, ⟨11, [none]⟩, ⟨12, [none]⟩]⟩)] i).getD ⟨0, 0, []⟩, ord := fun i => (alook [] i).getD [] }
noncomputable def st123_3 (a0 : Int) (a1 : List UInt8) (a2 : Int) (a3 : Int) (a4 : List (List D)) (a5 : List (List D)) (ba : Int) (bb : Int) (n12 : Int) (n1 : Int) (n0 : Int) : St := (St.of [(12, .v false [.c (.int .i64 n12)]), (11, .v false [.c (.int .i64 (↑(List.length a5) : Int))]), (10, .v false [.c (.sl 88 a5)]), (1, .fn 124 [0, 1])] [(1, [.c (.int .i64 n1)]), (0, [.c (.int .i64 n0)])] [] 3064 20)
def q123 (a0 : Int) (a1 : List UInt8) (a2 : Int) (a3 : Int) (a4 : List (List D)) (a5 : List (List D)) (ba : Int) (bb : Int)  (J3 : Int → Int → Int → Prop) (R : Int → Int → Prop) : Prop :=
  C Try.prog 124 [.val true [.c (.int .i64 a0), .c (.str a1), .c (.int .i64 a2), .c (.int .i64 a3), .c (.sl 32 a4), .c (.sl 88 a5)], .box [.c (.int .i64 ba)], .box [.c (.int .i64 bb)]] sg124 (fun n => (fun n1 => J3 (0 : Int) n1 n))
theorem v123 (a0 : Int) (a1 : List UInt8) (a2 : Int) (a3 : Int) (a4 : List (List D)) (a5 : List (List D)) (ba : Int) (bb : Int)  (J : List Item → St → Prop) (R : Int → Int → Prop) : wpt cx123 J (fin Try.prog Try.f123.results.toList sg123 R) 100000 [.code (Try.f123.body.getD .skip)] (initSt [.val true [.c (.int .i64 a0), .c (.str a1), .c (.int .i64 a2), .c (.int .i64 a3), .c (.sl 32 a4), .c (.sl 88 a5)], .fn 124 [[.c (.int .i64 ba)], [.c (.int .i64 bb)]]] 20) = q123 a0 a1 a2 a3 a4 a5 ba bb  (fun n12 n1 n0 => J (td (Try.f123.body.getD .skip) 3) (st123_3 a0 a1 a2 a3 a4 a5 ba bb n12 n1 n0)) R := by kernel_rfl
def q123_3 (a0 : Int) (a1 : List UInt8) (a2 : Int) (a3 : Int) (a4 : List (List D)) (a5 : List (List D)) (ba : Int) (bb : Int) (n12 : Int) (n1 : Int) (n0 : Int) (J3 : Int → Int → Int → Prop) (R : Int → Int → Prop) : Prop :=
  ((decide (n12 < (↑(List.length a5) : Int)) = true → (((0 : Int) ≤ n12 ∧ n12 < (↑(List.length a5) : Int) ∧ List.length (List.getD a5 (Int.toNat n12) []) = (6 : Nat)) ∧
  (∃ n, (∃ s, (∃ n2, (∃ n3, (∃ xs, (∃ xs1, ((List.take (6 : Nat) (List.drop (0 : Nat) (List.getD a5 (Int.toNat n12) [])) = [D.int IntKind.i64 n, D.str s, D.int IntKind.i64 n2, D.int IntKind.i64 n3, D.sl (32 : Nat) xs, D.sl (88 : Nat) xs1]) ∧
  C Try.prog 123 [.val true [.c (.int .i64 n), .c (.str s), .c (.int .i64 n2), .c (.int .i64 n3), .c (.sl 32 xs), .c (.sl 88 xs1)], .fn 124 [[.c (.int .i64 n0)], [.c (.int .i64 n1)]]] sg123 (fun n4 => (fun n5 => J3 (IntKind.wrap IntKind.i64 (n12 + (1 : Int))) n5 n4))))))))))) ∧
  (decide (n12 < (↑(List.length a5) : Int)) = false → R n0 n1))
theorem v123_3 (a0 : Int) (a1 : List UInt8) (a2 : Int) (a3 : Int) (a4 : List (List D)) (a5 : List (List D)) (ba : Int) (bb : Int) (n12 : Int) (n1 : Int) (n0 : Int) (J : List Item → St → Prop) (R : Int → Int → Prop) : wpt cx123 J (fin Try.prog Try.f123.results.toList sg123 R) 100000 (td (Try.f123.body.getD .skip) 3) (st123_3 a0 a1 a2 a3 a4 a5 ba bb n12 n1 n0) = q123_3 a0 a1 a2 a3 a4 a5 ba bb n12 n1 n0 (fun n12 n1 n0 => J (td (Try.f123.body.getD .skip) 3) (st123_3 a0 a1 a2 a3 a4 a5 ba bb n12 n1 n0)) R := by kernel_rfl
theorem r123 (a0 : Int) (a1 : List UInt8) (a2 : Int) (a3 : Int) (a4 : List (List D)) (a5 : List (List D)) (ba : Int) (bb : Int) (R : Int → Int → Prop) (I3 : Nat → Int → Int → Int → Prop)
    (h : DFact (.int .i64 a0) → DFact (.str a1) → DFact (.int .i64 a2) → DFact (.int .i64 a3) → DFact (.sl 32 a4) → DFact (.sl 88 a5) → DFact (.int .i64 ba) → DFact (.int .i64 bb) → ∀ (J3 : Int → Int → Int → Prop), (∀ m n12' n1' n0', I3 m n12' n1' n0' → J3 n12' n1' n0') → q123 a0 a1 a2 a3 a4 a5 ba bb J3 R)
    (h3 : ∀ x (n12 : Int) (n1 : Int) (n0 : Int), I3 x n12 n1 n0 → DFact (.sl 88 a5) → ∀ (J3 : Int → Int → Int → Prop), (∀ m n12' n1' n0', m < x → I3 m n12' n1' n0' → J3 n12' n1' n0') → q123_3 a0 a1 a2 a3 a4 a5 ba bb n12 n1 n0 J3 R) :
    C Try.prog 123 [.val true [.c (.int .i64 a0), .c (.str a1), .c (.int .i64 a2), .c (.int .i64 a3), .c (.sl 32 a4), .c (.sl 88 a5)], .fn 124 [[.c (.int .i64 ba)], [.c (.int .i64 bb)]]] sg123 R :=
  C_rule (cx := cx123) (P := Try.prog) (f := 123) (fn := Try.f123) (c := (Try.f123.body.getD .skip)) (args := [.val true [.c (.int .i64 a0), .c (.str a1), .c (.int .i64 a2), .c (.int .i64 a3), .c (.sl 32 a4), .c (.sl 88 a5)], .fn 124 [[.c (.int .i64 ba)], [.c (.int .i64 bb)]]]) (sg := sg123) (rv := Try.f123.results.toList) (N := 20) (R := R) (μ := Nat) (lt := (· < ·)) Nat.lt_wfRel.wf (fun m td st => (∃ (n12 : Int) (n1 : Int) (n0 : Int), td = _root_.Go.Gl.td (Try.f123.body.getD .skip) 3 ∧ st = st123_3 a0 a1 a2 a3 a4 a5 ba bb n12 n1 n0 ∧ I3 m n12 n1 n0)) (by kernel_rfl) (by kernel_rfl) Try.func123 (by kernel_rfl) (by kernel_rfl) (by kernel_rfl) (by kernel_rfl) (by kernel_rfl)
    (fun x td st h hf => by
      obtain ⟨n12, n1, n0, rfl, rfl, hi⟩ := h
      rw [v123_3]
      exact h3 x n12 n1 n0 hi (hf.sd 10 false [.c (.sl 88 a5)] 0 (.sl 88 a5) (by kernel_rfl) (by kernel_rfl)) _ (fun m n12 n1 n0 hm hi => ⟨m, hm, ⟨n12, n1, n0, rfl, rfl, hi⟩⟩))
    (fun hf => by rw [v123]; exact h (hf.sd 0 true [.c (.int .i64 a0), .c (.str a1), .c (.int .i64 a2), .c (.int .i64 a3), .c (.sl 32 a4), .c (.sl 88 a5)] 0 (.int .i64 a0) (by kernel_rfl) (by kernel_rfl)) (hf.sd 0 true [.c (.int .i64 a0), .c (.str a1), .c (.int .i64 a2), .c (.int .i64 a3), .c (.sl 32 a4), .c (.sl 88 a5)] 1 (.str a1) (by kernel_rfl) (by kernel_rfl)) (hf.sd 0 true [.c (.int .i64 a0), .c (.str a1), .c (.int .i64 a2), .c (.int .i64 a3), .c (.sl 32 a4), .c (.sl 88 a5)] 2 (.int .i64 a2) (by kernel_rfl) (by kernel_rfl)) (hf.sd 0 true [.c (.int .i64 a0), .c (.str a1), .c (.int .i64 a2), .c (.int .i64 a3), .c (.sl 32 a4), .c (.sl 88 a5)] 3 (.int .i64 a3) (by kernel_rfl) (by kernel_rfl)) (hf.sd 0 true [.c (.int .i64 a0), .c (.str a1), .c (.int .i64 a2), .c (.int .i64 a3), .c (.sl 32 a4), .c (.sl 88 a5)] 4 (.sl 32 a4) (by kernel_rfl) (by kernel_rfl)) (hf.sd 0 true [.c (.int .i64 a0), .c (.str a1), .c (.int .i64 a2), .c (.int .i64 a3), .c (.sl 32 a4), .c (.sl 88 a5)] 5 (.sl 88 a5) (by kernel_rfl) (by kernel_rfl)) (hf.bd 0 [.c (.int .i64 ba)] 0 (.int .i64 ba) (by kernel_rfl) (by kernel_rfl)) (hf.bd 1 [.c (.int .i64 bb)] 0 (.int .i64 bb) (by kernel_rfl) (by kernel_rfl)) _ (fun m n12 n1 n0 hi => ⟨m, ⟨n12, n1, n0, rfl, rfl, hi⟩⟩))

noncomputable def cx78 : Cx := { P := Try.prog, sg := fun i => (alook [(123, sg123), (78, sg78)] i).getD ⟨[], []⟩, mv := fun i => (alook [] i).getD [], head := fun i => (alook [] i).getD ⟨0, 0, []⟩, ord := fun i => (alook [] i).getD [] }
def q78 (a0 : Int) (a1 : List UInt8) (a2 : Int) (a3 : Int) (a4 : List (List D)) (a5 : List (List D)) (b : Int)   (R : Int → Prop) : Prop :=
  C Try.prog 123 [.val true [.c (.int .i64 a0), .c (.str a1), .c (.int .i64 a2), .c (.int .i64 a3), .c (.sl 32 a4), .c (.sl 88 a5)], .fn 124 [[.c (.int .i64 b)], [.c (.int .i64 (0 : Int))]]] sg123 (fun n => (fun n1 => R n1))
theorem v78 (a0 : Int) (a1 : List UInt8) (a2 : Int) (a3 : Int) (a4 : List (List D)) (a5 : List (List D)) (b : Int)  (J : List Item → St → Prop) (R : Int → Prop) : wpt cx78 J (fin Try.prog Try.f78.results.toList sg78 R) 100000 [.code (Try.f78.body.getD .skip)] (initSt [.val true [.c (.int .i64 a0), .c (.str a1), .c (.int .i64 a2), .c (.int .i64 a3), .c (.sl 32 a4), .c (.sl 88 a5)], .val false [.c (.int .i64 b)]] 10) = q78 a0 a1 a2 a3 a4 a5 b   R := by kernel_rfl
theorem r78 (a0 : Int) (a1 : List UInt8) (a2 : Int) (a3 : Int) (a4 : List (List D)) (a5 : List (List D)) (b : Int) (R : Int → Prop) 
    (h : DFact (.int .i64 a0) → DFact (.str a1) → DFact (.int .i64 a2) → DFact (.int .i64 a3) → DFact (.sl 32 a4) → DFact (.sl 88 a5) → DFact (.int .i64 b) → q78 a0 a1 a2 a3 a4 a5 b  R) :
    C Try.prog 78 [.val true [.c (.int .i64 a0), .c (.str a1), .c (.int .i64 a2), .c (.int .i64 a3), .c (.sl 32 a4), .c (.sl 88 a5)], .val false [.c (.int .i64 b)]] sg78 R :=
  C_rule (cx := cx78) (P := Try.prog) (f := 78) (fn := Try.f78) (c := (Try.f78.body.getD .skip)) (args := [.val true [.c (.int .i64 a0), .c (.str a1), .c (.int .i64 a2), .c (.int .i64 a3), .c (.sl 32 a4), .c (.sl 88 a5)], .val false [.c (.int .i64 b)]]) (sg := sg78) (rv := Try.f78.results.toList) (N := 10) (R := R) (μ := Nat) (lt := (· < ·)) Nat.lt_wfRel.wf (fun m td st => False) (by kernel_rfl) (by kernel_rfl) Try.func78 (by kernel_rfl) (by kernel_rfl) (by kernel_rfl) (by kernel_rfl) (by kernel_rfl)
    (fun _ _ _ h => h.elim)
    (fun hf => by rw [v78]; exact h (hf.sd 0 true [.c (.int .i64 a0), .c (.str a1), .c (.int .i64 a2), .c (.int .i64 a3), .c (.sl 32 a4), .c (.sl 88 a5)] 0 (.int .i64 a0) (by kernel_rfl) (by kernel_rfl)) (hf.sd 0 true [.c (.int .i64 a0), .c (.str a1), .c (.int .i64 a2), .c (.int .i64 a3), .c (.sl 32 a4), .c (.sl 88 a5)] 1 (.str a1) (by kernel_rfl) (by kernel_rfl)) (hf.sd 0 true [.c (.int .i64 a0), .c (.str a1), .c (.int .i64 a2), .c (.int .i64 a3), .c (.sl 32 a4), .c (.sl 88 a5)] 2 (.int .i64 a2) (by kernel_rfl) (by kernel_rfl)) (hf.sd 0 true [.c (.int .i64 a0), .c (.str a1), .c (.int .i64 a2), .c (.int .i64 a3), .c (.sl 32 a4), .c (.sl 88 a5)] 3 (.int .i64 a3) (by kernel_rfl) (by kernel_rfl)) (hf.sd 0 true [.c (.int .i64 a0), .c (.str a1), .c (.int .i64 a2), .c (.int .i64 a3), .c (.sl 32 a4), .c (.sl 88 a5)] 4 (.sl 32 a4) (by kernel_rfl) (by kernel_rfl)) (hf.sd 0 true [.c (.int .i64 a0), .c (.str a1), .c (.int .i64 a2), .c (.int .i64 a3), .c (.sl 32 a4), .c (.sl 88 a5)] 5 (.sl 88 a5) (by kernel_rfl) (by kernel_rfl)) (hf.sd 1 false [.c (.int .i64 b)] 0 (.int .i64 b) (by kernel_rfl) (by kernel_rfl)) )

noncomputable def cx29 : Cx := { P := Try.prog, sg := fun i => (alook [(78, sg78), (29, sg29)] i).getD ⟨[], []⟩, mv := fun i => (alook [] i).getD [], head := fun i => (alook [] i).getD ⟨0, 0, []⟩, ord := fun i => (alook [] i).getD [] }
def q29 (a0 : Int) (a1 : List UInt8) (a2 : Int) (a3 : Int) (a4 : List (List D)) (a5 : List (List D))   (R : Int → Prop) : Prop :=
  C Try.prog 78 [.val true [.c (.int .i64 a0), .c (.str a1), .c (.int .i64 a2), .c (.int .i64 a3), .c (.sl 32 a4), .c (.sl 88 a5)], .val false [.c (.int .i64 (1 : Int))]] sg78 (fun n => R n)
theorem v29 (a0 : Int) (a1 : List UInt8) (a2 : Int) (a3 : Int) (a4 : List (List D)) (a5 : List (List D))  (J : List Item → St → Prop) (R : Int → Prop) : wpt cx29 J (fin Try.prog Try.f29.results.toList sg29 R) 100000 [.code (Try.f29.body.getD .skip)] (initSt [.val true [.c (.int .i64 a0), .c (.str a1), .c (.int .i64 a2), .c (.int .i64 a3), .c (.sl 32 a4), .c (.sl 88 a5)]] 5) = q29 a0 a1 a2 a3 a4 a5   R := by kernel_rfl
theorem r29 (a0 : Int) (a1 : List UInt8) (a2 : Int) (a3 : Int) (a4 : List (List D)) (a5 : List (List D)) (R : Int → Prop) 
    (h : DFact (.int .i64 a0) → DFact (.str a1) → DFact (.int .i64 a2) → DFact (.int .i64 a3) → DFact (.sl 32 a4) → DFact (.sl 88 a5) → q29 a0 a1 a2 a3 a4 a5  R) :
    C Try.prog 29 [.val true [.c (.int .i64 a0), .c (.str a1), .c (.int .i64 a2), .c (.int .i64 a3), .c (.sl 32 a4), .c (.sl 88 a5)]] sg29 R :=
  C_rule (cx := cx29) (P := Try.prog) (f := 29) (fn := Try.f29) (c := (Try.f29.body.getD .skip)) (args := [.val true [.c (.int .i64 a0), .c (.str a1), .c (.int .i64 a2), .c (.int .i64 a3), .c (.sl 32 a4), .c (.sl 88 a5)]]) (sg := sg29) (rv := Try.f29.results.toList) (N := 5) (R := R) (μ := Nat) (lt := (· < ·)) Nat.lt_wfRel.wf (fun m td st => False) (by kernel_rfl) (by kernel_rfl) Try.func29 (by kernel_rfl) (by kernel_rfl) (by kernel_rfl) (by kernel_rfl) (by kernel_rfl)
    (fun _ _ _ h => h.elim)
    (fun hf => by rw [v29]; exact h (hf.sd 0 true [.c (.int .i64 a0), .c (.str a1), .c (.int .i64 a2), .c (.int .i64 a3), .c (.sl 32 a4), .c (.sl 88 a5)] 0 (.int .i64 a0) (by kernel_rfl) (by kernel_rfl)) (hf.sd 0 true [.c (.int .i64 a0), .c (.str a1), .c (.int .i64 a2), .c (.int .i64 a3), .c (.sl 32 a4), .c (.sl 88 a5)] 1 (.str a1) (by kernel_rfl) (by kernel_rfl)) (hf.sd 0 true [.c (.int .i64 a0), .c (.str a1), .c (.int .i64 a2), .c (.int .i64 a3), .c (.sl 32 a4), .c (.sl 88 a5)] 2 (.int .i64 a2) (by kernel_rfl) (by kernel_rfl)) (hf.sd 0 true [.c (.int .i64 a0), .c (.str a1), .c (.int .i64 a2), .c (.int .i64 a3), .c (.sl 32 a4), .c (.sl 88 a5)] 3 (.int .i64 a3) (by kernel_rfl) (by kernel_rfl)) (hf.sd 0 true [.c (.int .i64 a0), .c (.str a1), .c (.int .i64 a2), .c (.int .i64 a3), .c (.sl 32 a4), .c (.sl 88 a5)] 4 (.sl 32 a4) (by kernel_rfl) (by kernel_rfl)) (hf.sd 0 true [.c (.int .i64 a0), .c (.str a1), .c (.int .i64 a2), .c (.int .i64 a3), .c (.sl 32 a4), .c (.sl 88 a5)] 5 (.sl 88 a5) (by kernel_rfl) (by kernel_rfl)) )

noncomputable def cx6 : Cx := { P := Try.prog, sg := fun i => (alook [(26, sg26), (28, sg28), (27, sg27), (29, sg29), (30, sg30), (6, sg6)] i).getD ⟨[], []⟩, mv := fun i => (alook [] i).getD [], head := fun i => (alook [] i).getD ⟨0, 0, []⟩, ord := fun i => (alook [(10, [0, 1, 2, 3, 4])] i).getD [] }
def q6 (a0 : Int) (a1 : List UInt8) (a2 : Int) (a3 : Int) (a4 : List (List D)) (a5 : List (List D))   (R : Bool → Prop) : Prop :=
  C Try.prog 26 [.val true [.c (.int .i64 a0), .c (.str a1), .c (.int .i64 a2), .c (.int .i64 a3), .c (.sl 32 a4), .c (.sl 88 a5)], .val false [.c (.int .i64 (1048576 : Int))]] sg26 (fun n => ((decide (n < (0 : Int)) = true → R true) ∧
  (decide (n < (0 : Int)) = false → C Try.prog 28 [.val true [.c (.int .i64 a0), .c (.str a1), .c (.int .i64 a2), .c (.int .i64 a3), .c (.sl 32 a4), .c (.sl 88 a5)]] sg28 (fun n1 => (fun s => (fun n2 => (fun n3 => (fun xs => (fun xs1 => C Try.prog 27 [.val true [.c (.int .i64 n1), .c (.str s), .c (.int .i64 n2), .c (.int .i64 n3), .c (.sl 32 xs), .c (.sl 88 xs1)]] sg27 (fun n4 => C Try.prog 28 [.val true [.c (.int .i64 a0), .c (.str a1), .c (.int .i64 a2), .c (.int .i64 a3), .c (.sl 32 a4), .c (.sl 88 a5)]] sg28 (fun n5 => (fun s1 => (fun n6 => (fun n7 => (fun xs2 => (fun xs3 => C Try.prog 29 [.val true [.c (.int .i64 n5), .c (.str s1), .c (.int .i64 n6), .c (.int .i64 n7), .c (.sl 32 xs2), .c (.sl 88 xs3)]] sg29 (fun n8 => (((n8 != n4) = true → R false) ∧
  ((n8 != n4) = false → C Try.prog 28 [.val true [.c (.int .i64 a0), .c (.str a1), .c (.int .i64 a2), .c (.int .i64 a3), .c (.sl 32 a4), .c (.sl 88 a5)]] sg28 (fun n9 => (fun s2 => (fun n10 => (fun n11 => (fun xs4 => (fun xs5 => C Try.prog 30 [.val true [.c (.int .i64 n5), .c (.str s1), .c (.int .i64 n6), .c (.int .i64 n7), .c (.sl 32 xs2), .c (.sl 88 xs3)], .val true [.c (.int .i64 n9), .c (.str s2), .c (.int .i64 n10), .c (.int .i64 n11), .c (.sl 32 xs4), .c (.sl 88 xs5)]] sg30 (fun b => (((!b) = true → R false) ∧
  ((!b) = false → R true))))))))))))))))))))))))))))
theorem v6 (a0 : Int) (a1 : List UInt8) (a2 : Int) (a3 : Int) (a4 : List (List D)) (a5 : List (List D))  (J : List Item → St → Prop) (R : Bool → Prop) : wpt cx6 J (fin Try.prog Try.f6.results.toList sg6 R) 100000 [.code (Try.f6.body.getD .skip)] (initSt [.val true [.c (.int .i64 a0), .c (.str a1), .c (.int .i64 a2), .c (.int .i64 a3), .c (.sl 32 a4), .c (.sl 88 a5)]] 27) = q6 a0 a1 a2 a3 a4 a5   R := by kernel_rfl
theorem r6 (a0 : Int) (a1 : List UInt8) (a2 : Int) (a3 : Int) (a4 : List (List D)) (a5 : List (List D)) (R : Bool → Prop) 
    (h : DFact (.int .i64 a0) → DFact (.str a1) → DFact (.int .i64 a2) → DFact (.int .i64 a3) → DFact (.sl 32 a4) → DFact (.sl 88 a5) → q6 a0 a1 a2 a3 a4 a5  R) :
    C Try.prog 6 [.val true [.c (.int .i64 a0), .c (.str a1), .c (.int .i64 a2), .c (.int .i64 a3), .c (.sl 32 a4), .c (.sl 88 a5)]] sg6 R :=
  C_rule (cx := cx6) (P := Try.prog) (f := 6) (fn := Try.f6) (c := (Try.f6.body.getD .skip)) (args := [.val true [.c (.int .i64 a0), .c (.str a1), .c (.int .i64 a2), .c (.int .i64 a3), .c (.sl 32 a4), .c (.sl 88 a5)]]) (sg := sg6) (rv := Try.f6.results.toList) (N := 27) (R := R) (μ := Nat) (lt := (· < ·)) Nat.lt_wfRel.wf (fun m td st => False) (by kernel_rfl) (by kernel_rfl) Try.func6 (by kernel_rfl) (by kernel_rfl) (by kernel_rfl) (by kernel_rfl) (by kernel_rfl)
    (fun _ _ _ h => h.elim)
    (fun hf => by rw [v6]; exact h (hf.sd 0 true [.c (.int .i64 a0), .c (.str a1), .c (.int .i64 a2), .c (.int .i64 a3), .c (.sl 32 a4), .c (.sl 88 a5)] 0 (.int .i64 a0) (by kernel_rfl) (by kernel_rfl)) (hf.sd 0 true [.c (.int .i64 a0), .c (.str a1), .c (.int .i64 a2), .c (.int .i64 a3), .c (.sl 32 a4), .c (.sl 88 a5)] 1 (.str a1) (by kernel_rfl) (by kernel_rfl)) (hf.sd 0 true [.c (.int .i64 a0), .c (.str a1), .c (.int .i64 a2), .c (.int .i64 a3), .c (.sl 32 a4), .c (.sl 88 a5)] 2 (.int .i64 a2) (by kernel_rfl) (by kernel_rfl)) (hf.sd 0 true [.c (.int .i64 a0), .c (.str a1), .c (.int .i64 a2), .c (.int .i64 a3), .c (.sl 32 a4), .c (.sl 88 a5)] 3 (.int .i64 a3) (by kernel_rfl) (by kernel_rfl)) (hf.sd 0 true [.c (.int .i64 a0), .c (.str a1), .c (.int .i64 a2), .c (.int .i64 a3), .c (.sl 32 a4), .c (.sl 88 a5)] 4 (.sl 32 a4) (by kernel_rfl) (by kernel_rfl)) (hf.sd 0 true [.c (.int .i64 a0), .c (.str a1), .c (.int .i64 a2), .c (.int .i64 a3), .c (.sl 32 a4), .c (.sl 88 a5)] 5 (.sl 88 a5) (by kernel_rfl) (by kernel_rfl)) )

noncomputable def cx118 : Cx := { P := Try.prog, sg := fun i => (alook [(118, sg118)] i).getD ⟨[], []⟩, mv := fun i => (alook [] i).getD [], head := fun i => (alook [] i).getD ⟨0, 0, []⟩, ord := fun i => (alook [] i).getD [] }
def q118 (a : List (List D)) (b : Int)   (R : Int → Prop) : Prop :=
  ((decide (IntKind.wrap IntKind.i64 (b - (↑(List.length a) : Int)) < (0 : Int)) = true → R (-1 : Int)) ∧
  (decide (IntKind.wrap IntKind.i64 (b - (↑(List.length a) : Int)) < (0 : Int)) = false → R (IntKind.wrap IntKind.i64 (b - (↑(List.length a) : Int)))))
theorem v118 (a : List (List D)) (b : Int)  (J : List Item → St → Prop) (R : Int → Prop) : wpt cx118 J (fin Try.prog Try.f118.results.toList sg118 R) 100000 [.code (Try.f118.body.getD .skip)] (initSt [.val false [.c (.sl 8 a)], .val false [.c (.int .i64 b)]] 12) = q118 a b   R := by kernel_rfl
theorem r118 (a : List (List D)) (b : Int) (R : Int → Prop) 
    (h : DFact (.sl 8 a) → DFact (.int .i64 b) → q118 a b  R) :
    C Try.prog 118 [.val false [.c (.sl 8 a)], .val false [.c (.int .i64 b)]] sg118 R :=
  C_rule (cx := cx118) (P := Try.prog) (f := 118) (fn := Try.f118) (c := (Try.f118.body.getD .skip)) (args := [.val false [.c (.sl 8 a)], .val false [.c (.int .i64 b)]]) (sg := sg118) (rv := Try.f118.results.toList) (N := 12) (R := R) (μ := Nat) (lt := (· < ·)) Nat.lt_wfRel.wf (fun m td st => False) (by kernel_rfl) (by kernel_rfl) Try.func118 (by kernel_rfl) (by kernel_rfl) (by kernel_rfl) (by kernel_rfl) (by kernel_rfl)
    (fun _ _ _ h => h.elim)
    (fun hf => by rw [v118]; exact h (hf.sd 0 false [.c (.sl 8 a)] 0 (.sl 8 a) (by kernel_rfl) (by kernel_rfl)) (hf.sd 1 false [.c (.int .i64 b)] 0 (.int .i64 b) (by kernel_rfl) (by kernel_rfl)) )

noncomputable def cx67 : Cx := { P := Try.prog, sg := fun i => (alook [(118, sg118), (67, sg67)] i).getD ⟨[], []⟩, mv := fun i => (alook [] i).getD [], head := fun i => (alook [] i).getD ⟨0, 0, []⟩, ord := fun i => (alook [] i).getD [] }
def q67 (a0 : List (List D)) (a1 : List (List D)) (b : Int)   (R : Int → Prop) : Prop :=
  C Try.prog 118 [.val false [.c (.sl 8 a0)], .val false [.c (.int .i64 b)]] sg118 (fun n => ((decide (n < (0 : Int)) = true → R (-1 : Int)) ∧
  (decide (n < (0 : Int)) = false → C Try.prog 118 [.val false [.c (.sl 8 a1)], .val false [.c (.int .i64 n)]] sg118 (fun n1 => ((decide (n1 < (0 : Int)) = true → R (-1 : Int)) ∧
  (decide (n1 < (0 : Int)) = false → R n1))))))
theorem v67 (a0 : List (List D)) (a1 : List (List D)) (b : Int)  (J : List Item → St → Prop) (R : Int → Prop) : wpt cx67 J (fin Try.prog Try.f67.results.toList sg67 R) 100000 [.code (Try.f67.body.getD .skip)] (initSt [.val true [.c (.sl 8 a0), .c (.sl 8 a1)], .val false [.c (.int .i64 b)]] 18) = q67 a0 a1 b   R := by kernel_rfl
theorem r67 (a0 : List (List D)) (a1 : List (List D)) (b : Int) (R : Int → Prop) 
    (h : DFact (.sl 8 a0) → DFact (.sl 8 a1) → DFact (.int .i64 b) → q67 a0 a1 b  R) :
    C Try.prog 67 [.val true [.c (.sl 8 a0), .c (.sl 8 a1)], .val false [.c (.int .i64 b)]] sg67 R :=
  C_rule (cx := cx67) (P := Try.prog) (f := 67) (fn := Try.f67) (c := (Try.f67.body.getD .skip)) (args := [.val true [.c (.sl 8 a0), .c (.sl 8 a1)], .val false [.c (.int .i64 b)]]) (sg := sg67) (rv := Try.f67.results.toList) (N := 18) (R := R) (μ := Nat) (lt := (· < ·)) Nat.lt_wfRel.wf (fun m td st => False) (by kernel_rfl) (by kernel_rfl) Try.func67 (by kernel_rfl) (by kernel_rfl) (by kernel_rfl) (by kernel_rfl) (by kernel_rfl)
    (fun _ _ _ h => h.elim)
    (fun hf => by rw [v67]; exact h (hf.sd 0 true [.c (.sl 8 a0), .c (.sl 8 a1)] 0 (.sl 8 a0) (by kernel_rfl) (by kernel_rfl)) (hf.sd 0 true [.c (.sl 8 a0), .c (.sl 8 a1)] 1 (.sl 8 a1) (by kernel_rfl) (by kernel_rfl)) (hf.sd 1 false [.c (.int .i64 b)] 0 (.int .i64 b) (by kernel_rfl) (by kernel_rfl)) )

noncomputable def cx21 : Cx := { P := Try.prog, sg := fun i => (alook [(67, sg67), (21, sg21)] i).getD ⟨[], []⟩, mv := fun i => (alook [] i).getD [], head := fun i => (alook [(5, ⟨3000, 3, [⟨0, [some (86, 2, 48)]⟩, ⟨1, [none]⟩, ⟨5, [none]⟩]⟩)] i).getD ⟨0, 0, []⟩, ord := fun i => (alook [] i).getD [] }
noncomputable def st21_5 (a : List (List D)) (b : Int) (n5 : Int) (n1 : Int) : St := (St.of [(5, .v false [.c (.int .i64 n5)]), (1, .v false [.c (.int .i64 n1)]), (0, .v false [.c (.sl 48 a)])] [] [] 3064 27)
def q21 (a : List (List D)) (b : Int)  (J5 : Int → Int → Prop) (R : Int → Prop) : Prop :=
  ((decide (IntKind.wrap IntKind.i64 (b - (↑(List.length a) : Int)) < (0 : Int)) = true → R (-1 : Int)) ∧
  (decide (IntKind.wrap IntKind.i64 (b - (↑(List.length a) : Int)) < (0 : Int)) = false → J5 (0 : Int) (IntKind.wrap IntKind.i64 (b - (↑(List.length a) : Int)))))
theorem v21 (a : List (List D)) (b : Int)  (J : List Item → St → Prop) (R : Int → Prop) : wpt cx21 J (fin Try.prog Try.f21.results.toList sg21 R) 100000 [.code (Try.f21.body.getD .skip)] (initSt [.val false [.c (.sl 48 a)], .val false [.c (.int .i64 b)]] 27) = q21 a b  (fun n5 n1 => J (td (Try.f21.body.getD .skip) 5) (st21_5 a b n5 n1)) R := by kernel_rfl
def q21_5 (a : List (List D)) (b : Int) (n5 : Int) (n1 : Int) (J5 : Int → Int → Prop) (R : Int → Prop) : Prop :=
  ((decide (n5 < (↑(List.length a) : Int)) = true → (((0 : Int) ≤ n5 ∧ n5 < (↑(List.length a) : Int) ∧ List.length (List.getD a (Int.toNat n5) []) = (2 : Nat)) ∧
  (∃ xs, (∃ xs1, ((List.take (2 : Nat) (List.drop (0 : Nat) (List.getD a (Int.toNat n5) [])) = [D.sl (8 : Nat) xs, D.sl (8 : Nat) xs1]) ∧
  C Try.prog 67 [.val true [.c (.sl 8 xs), .c (.sl 8 xs1)], .val false [.c (.int .i64 n1)]] sg67 (fun n => ((decide (n < (0 : Int)) = true → R (-1 : Int)) ∧
  (decide (n < (0 : Int)) = false → J5 (IntKind.wrap IntKind.i64 (n5 + (1 : Int))) n)))))))) ∧
  (decide (n5 < (↑(List.length a) : Int)) = false → R n1))
theorem v21_5 (a : List (List D)) (b : Int) (n5 : Int) (n1 : Int) (J : List Item → St → Prop) (R : Int → Prop) : wpt cx21 J (fin Try.prog Try.f21.results.toList sg21 R) 100000 (td (Try.f21.body.getD .skip) 5) (st21_5 a b n5 n1) = q21_5 a b n5 n1 (fun n5 n1 => J (td (Try.f21.body.getD .skip) 5) (st21_5 a b n5 n1)) R := by kernel_rfl
theorem r21 (a : List (List D)) (b : Int) (R : Int → Prop) (I5 : Nat → Int → Int → Prop)
    (h : DFact (.sl 48 a) → DFact (.int .i64 b) → ∀ (J5 : Int → Int → Prop), (∀ m n5' n1', I5 m n5' n1' → J5 n5' n1') → q21 a b J5 R)
    (h5 : ∀ x (n5 : Int) (n1 : Int), I5 x n5 n1 → DFact (.sl 48 a) → ∀ (J5 : Int → Int → Prop), (∀ m n5' n1', m < x → I5 m n5' n1' → J5 n5' n1') → q21_5 a b n5 n1 J5 R) :
    C Try.prog 21 [.val false [.c (.sl 48 a)], .val false [.c (.int .i64 b)]] sg21 R :=
  C_rule (cx := cx21) (P := Try.prog) (f := 21) (fn := Try.f21) (c := (Try.f21.body.getD .skip)) (args := [.val false [.c (.sl 48 a)], .val false [.c (.int .i64 b)]]) (sg := sg21) (rv := Try.f21.results.toList) (N := 27) (R := R) (μ := Nat) (lt := (· < ·)) Nat.lt_wfRel.wf (fun m td st => (∃ (n5 : Int) (n1 : Int), td = _root_.Go.Gl.td (Try.f21.body.getD .skip) 5 ∧ st = st21_5 a b n5 n1 ∧ I5 m n5 n1)) (by kernel_rfl) (by kernel_rfl) Try.func21 (by kernel_rfl) (by kernel_rfl) (by kernel_rfl) (by kernel_rfl) (by kernel_rfl)
    (fun x td st h hf => by
      obtain ⟨n5, n1, rfl, rfl, hi⟩ := h
      rw [v21_5]
      exact h5 x n5 n1 hi (hf.sd 0 false [.c (.sl 48 a)] 0 (.sl 48 a) (by kernel_rfl) (by kernel_rfl)) _ (fun m n5 n1 hm hi => ⟨m, hm, ⟨n5, n1, rfl, rfl, hi⟩⟩))
    (fun hf => by rw [v21]; exact h (hf.sd 0 false [.c (.sl 48 a)] 0 (.sl 48 a) (by kernel_rfl) (by kernel_rfl)) (hf.sd 1 false [.c (.int .i64 b)] 0 (.int .i64 b) (by kernel_rfl) (by kernel_rfl)) _ (fun m n5 n1 hi => ⟨m, ⟨n5, n1, rfl, rfl, hi⟩⟩))

noncomputable def cx18 : Cx := { P := Try.prog, sg := fun i => (alook [(18, sg18)] i).getD ⟨[], []⟩, mv := fun i => (alook [] i).getD [], head := fun i => (alook [(3, ⟨3000, 3, [⟨0, [some (3, 1, 8)]⟩, ⟨3, [some (3, 1, 8)]⟩, ⟨4, [none]⟩]⟩)] i).getD ⟨0, 0, []⟩, ord := fun i => (alook [] i).getD [] }
noncomputable def st18_3 (a : List (List D)) (n4 : Int) (x3000 : List (List D)) : St := (St.of [(4, .v false [.c (.int .i64 n4)]), (3, .v false [.tk 3000]), (0, .v false [.c (.sl 8 a)])] [] [(3000, ⟨3, 3, 1, 8, x3000⟩)] 3064 22)
def q18 (a : List (List D))  (J3 : Int → (List (List D)) → Prop) (R : (List (List D)) → Prop) : Prop :=
  (((0 : Int) ≤ (↑(List.length a) : Int) ∧ (↑(List.length a) : Int) = (↑(List.length a) : Int) ∧ (↑(List.length a) : Int) * (↑(8 : Nat) : Int) ≤ (↑capB : Int)) ∧
  J3 (0 : Int) (List.replicate (Int.toNat (↑(List.length a) : Int)) (List.map CK.zeroD [CK.int IntKind.i64])))
theorem v18 (a : List (List D))  (J : List Item → St → Prop) (R : (List (List D)) → Prop) : wpt cx18 J (fin Try.prog Try.f18.results.toList sg18 R) 100000 [.code (Try.f18.body.getD .skip)] (initSt [.val false [.c (.sl 8 a)]] 22) = q18 a  (fun n4 x3000 => J (td (Try.f18.body.getD .skip) 3) (st18_3 a n4 x3000)) R := by kernel_rfl
def q18_3 (a : List (List D)) (n4 : Int) (x3000 : List (List D)) (J3 : Int → (List (List D)) → Prop) (R : (List (List D)) → Prop) : Prop :=
  ((decide (n4 < (↑(List.length a) : Int)) = true → (((0 : Int) ≤ n4 ∧ n4 < (↑(List.length a) : Int) ∧ List.length (List.getD a (Int.toNat n4) []) = (1 : Nat)) ∧
  (∃ n, ((List.take (1 : Nat) (List.drop (0 : Nat) (List.getD a (Int.toNat n4) [])) = [D.int IntKind.i64 n]) ∧
  (((0 : Int) ≤ n4 ∧ n4 < (↑(List.length x3000) : Int)) ∧
  (((1 : Nat) ≤ List.length (List.getD x3000 (Int.toNat n4) [])) ∧
  J3 (IntKind.wrap IntKind.i64 (n4 + (1 : Int))) (List.set x3000 (Int.toNat n4) (List.take (0 : Nat) (List.getD x3000 (Int.toNat n4) []) ++ [D.int IntKind.i64 n] ++ List.drop (1 : Nat) (List.getD x3000 (Int.toNat n4) []))))))))) ∧
  (decide (n4 < (↑(List.length a) : Int)) = false → R x3000))
theorem v18_3 (a : List (List D)) (n4 : Int) (x3000 : List (List D)) (J : List Item → St → Prop) (R : (List (List D)) → Prop) : wpt cx18 J (fin Try.prog Try.f18.results.toList sg18 R) 100000 (td (Try.f18.body.getD .skip) 3) (st18_3 a n4 x3000) = q18_3 a n4 x3000 (fun n4 x3000 => J (td (Try.f18.body.getD .skip) 3) (st18_3 a n4 x3000)) R := by kernel_rfl
theorem r18 (a : List (List D)) (R : (List (List D)) → Prop) (I3 : Nat → Int → (List (List D)) → Prop)
    (h : DFact (.sl 8 a) → ∀ (J3 : Int → (List (List D)) → Prop), (∀ m n4' x3000', I3 m n4' x3000' → J3 n4' x3000') → q18 a J3 R)
    (h3 : ∀ x (n4 : Int) (x3000 : List (List D)), I3 x n4 x3000 → DFact (.sl 8 a) → DFact (.sl 8 x3000) → ∀ (J3 : Int → (List (List D)) → Prop), (∀ m n4' x3000', m < x → I3 m n4' x3000' → J3 n4' x3000') → q18_3 a n4 x3000 J3 R) :
    C Try.prog 18 [.val false [.c (.sl 8 a)]] sg18 R :=
  C_rule (cx := cx18) (P := Try.prog) (f := 18) (fn := Try.f18) (c := (Try.f18.body.getD .skip)) (args := [.val false [.c (.sl 8 a)]]) (sg := sg18) (rv := Try.f18.results.toList) (N := 22) (R := R) (μ := Nat) (lt := (· < ·)) Nat.lt_wfRel.wf (fun m td st => (∃ (n4 : Int) (x3000 : List (List D)), td = _root_.Go.Gl.td (Try.f18.body.getD .skip) 3 ∧ st = st18_3 a n4 x3000 ∧ I3 m n4 x3000)) (by kernel_rfl) (by kernel_rfl) Try.func18 (by kernel_rfl) (by kernel_rfl) (by kernel_rfl) (by kernel_rfl) (by kernel_rfl)
    (fun x td st h hf => by
      obtain ⟨n4, x3000, rfl, rfl, hi⟩ := h
      rw [v18_3]
      exact h3 x n4 x3000 hi (hf.sd 0 false [.c (.sl 8 a)] 0 (.sl 8 a) (by kernel_rfl) (by kernel_rfl)) (hf.td 3000 3 3 1 8 x3000 (by kernel_rfl)) _ (fun m n4 x3000 hm hi => ⟨m, hm, ⟨n4, x3000, rfl, rfl, hi⟩⟩))
    (fun hf => by rw [v18]; exact h (hf.sd 0 false [.c (.sl 8 a)] 0 (.sl 8 a) (by kernel_rfl) (by kernel_rfl)) _ (fun m n4 x3000 hi => ⟨m, ⟨n4, x3000, rfl, rfl, hi⟩⟩))

noncomputable def cx69 : Cx := { P := Try.prog, sg := fun i => (alook [(18, sg18), (69, sg69)] i).getD ⟨[], []⟩, mv := fun i => (alook [] i).getD [], head := fun i => (alook [] i).getD ⟨0, 0, []⟩, ord := fun i => (alook [] i).getD [] }
def q69 (a0 : List (List D)) (a1 : List (List D))   (R : (List (List D)) → (List (List D)) → Prop) : Prop :=
  C Try.prog 18 [.val false [.c (.sl 8 a0)]] sg18 (fun xs => C Try.prog 18 [.val false [.c (.sl 8 a1)]] sg18 (fun xs1 => R xs xs1))
theorem v69 (a0 : List (List D)) (a1 : List (List D))  (J : List Item → St → Prop) (R : (List (List D)) → (List (List D)) → Prop) : wpt cx69 J (fin Try.prog Try.f69.results.toList sg69 R) 100000 [.code (Try.f69.body.getD .skip)] (initSt [.val true [.c (.sl 8 a0), .c (.sl 8 a1)]] 13) = q69 a0 a1   R := by kernel_rfl
theorem r69 (a0 : List (List D)) (a1 : List (List D)) (R : (List (List D)) → (List (List D)) → Prop) 
    (h : DFact (.sl 8 a0) → DFact (.sl 8 a1) → q69 a0 a1  R) :
    C Try.prog 69 [.val true [.c (.sl 8 a0), .c (.sl 8 a1)]] sg69 R :=
  C_rule (cx := cx69) (P := Try.prog) (f := 69) (fn := Try.f69) (c := (Try.f69.body.getD .skip)) (args := [.val true [.c (.sl 8 a0), .c (.sl 8 a1)]]) (sg := sg69) (rv := Try.f69.results.toList) (N := 13) (R := R) (μ := Nat) (lt := (· < ·)) Nat.lt_wfRel.wf (fun m td st => False) (by kernel_rfl) (by kernel_rfl) Try.func69 (by kernel_rfl) (by kernel_rfl) (by kernel_rfl) (by kernel_rfl) (by kernel_rfl)
    (fun _ _ _ h => h.elim)
    (fun hf => by rw [v69]; exact h (hf.sd 0 true [.c (.sl 8 a0), .c (.sl 8 a1)] 0 (.sl 8 a0) (by kernel_rfl) (by kernel_rfl)) (hf.sd 0 true [.c (.sl 8 a0), .c (.sl 8 a1)] 1 (.sl 8 a1) (by kernel_rfl) (by kernel_rfl)) )

noncomputable def cx23 : Cx := { P := Try.prog, sg := fun i => (alook [(69, sg69), (23, sg23)] i).getD ⟨[], []⟩, mv := fun i => (alook [] i).getD [], head := fun i => (alook [(3, ⟨3000, 3, [⟨0, [some (86, 2, 48)]⟩, ⟨3, [some (87, 2, 48)]⟩, ⟨4, [none]⟩]⟩)] i).getD ⟨0, 0, []⟩, ord := fun i => (alook [] i).getD [] }
noncomputable def st23_3 (a : List (List D)) (n4 : Int) (x3000 : List (List D)) : St := (St.of [(4, .v false [.c (.int .i64 n4)]), (3, .v false [.tk 3000]), (0, .v false [.c (.sl 48 a)])] [] [(3000, ⟨3, 87, 2, 48, x3000⟩)] 3064 23)
def q23 (a : List (List D))  (J3 : Int → (List (List D)) → Prop) (R : (List (List D)) → Prop) : Prop :=
  (((0 : Int) ≤ (↑(List.length a) : Int) ∧ (↑(List.length a) : Int) = (↑(List.length a) : Int) ∧ (↑(List.length a) : Int) * (↑(48 : Nat) : Int) ≤ (↑capB : Int)) ∧
  J3 (0 : Int) (List.replicate (Int.toNat (↑(List.length a) : Int)) (List.map CK.zeroD ([CK.sl (3 : Nat) (1 : Nat) (8 : Nat)] ++ ([CK.sl (3 : Nat) (1 : Nat) (8 : Nat)] ++ [])))))
theorem v23 (a : List (List D))  (J : List Item → St → Prop) (R : (List (List D)) → Prop) : wpt cx23 J (fin Try.prog Try.f23.results.toList sg23 R) 100000 [.code (Try.f23.body.getD .skip)] (initSt [.val false [.c (.sl 48 a)]] 23) = q23 a  (fun n4 x3000 => J (td (Try.f23.body.getD .skip) 3) (st23_3 a n4 x3000)) R := by kernel_rfl
def q23_3 (a : List (List D)) (n4 : Int) (x3000 : List (List D)) (J3 : Int → (List (List D)) → Prop) (R : (List (List D)) → Prop) : Prop :=
  ((decide (n4 < (↑(List.length a) : Int)) = true → (((0 : Int) ≤ n4 ∧ n4 < (↑(List.length a) : Int) ∧ List.length (List.getD a (Int.toNat n4) []) = (2 : Nat)) ∧
  (∃ xs, (∃ xs1, ((List.take (2 : Nat) (List.drop (0 : Nat) (List.getD a (Int.toNat n4) [])) = [D.sl (8 : Nat) xs, D.sl (8 : Nat) xs1]) ∧
  C Try.prog 69 [.val true [.c (.sl 8 xs), .c (.sl 8 xs1)]] sg69 (fun xs2 => (fun xs3 => (((0 : Int) ≤ n4 ∧ n4 < (↑(List.length x3000) : Int)) ∧
  (((2 : Nat) ≤ List.length (List.getD x3000 (Int.toNat n4) [])) ∧
  J3 (IntKind.wrap IntKind.i64 (n4 + (1 : Int))) (List.set x3000 (Int.toNat n4) (List.take (0 : Nat) (List.getD x3000 (Int.toNat n4) []) ++ [D.sl (8 : Nat) xs2, D.sl (8 : Nat) xs3] ++ List.drop (2 : Nat) (List.getD x3000 (Int.toNat n4) [])))))))))))) ∧
  (decide (n4 < (↑(List.length a) : Int)) = false → R x3000))
theorem v23_3 (a : List (List D)) (n4 : Int) (x3000 : List (List D)) (J : List Item → St → Prop) (R : (List (List D)) → Prop) : wpt cx23 J (fin Try.prog Try.f23.results.toList sg23 R) 100000 (td (Try.f23.body.getD .skip) 3) (st23_3 a n4 x3000) = q23_3 a n4 x3000 (fun n4 x3000 => J (td (Try.f23.body.getD .skip) 3) (st23_3 a n4 x3000)) R := by kernel_rfl
theorem r23 (a : List (List D)) (R : (List (List D)) → Prop) (I3 : Nat → Int → (List (List D)) → Prop)
    (h : DFact (.sl 48 a) → ∀ (J3 : Int → (List (List D)) → Prop), (∀ m n4' x3000', I3 m n4' x3000' → J3 n4' x3000') → q23 a J3 R)
    (h3 : ∀ x (n4 : Int) (x3000 : List (List D)), I3 x n4 x3000 → DFact (.sl 48 a) → DFact (.sl 48 x3000) → ∀ (J3 : Int → (List (List D)) → Prop), (∀ m n4' x3000', m < x → I3 m n4' x3000' → J3 n4' x3000') → q23_3 a n4 x3000 J3 R) :
    C Try.prog 23 [.val false [.c (.sl 48 a)]] sg23 R :=
  C_rule (cx := cx23) (P := Try.prog) (f := 23) (fn := Try.f23) (c := (Try.f23.body.getD .skip)) (args := [.val false [.c (.sl 48 a)]]) (sg := sg23) (rv := Try.f23.results.toList) (N := 23) (R := R) (μ := Nat) (lt := (· < ·)) Nat.lt_wfRel.wf (fun m td st => (∃ (n4 : Int) (x3000 : List (List D)), td = _root_.Go.Gl.td (Try.f23.body.getD .skip) 3 ∧ st = st23_3 a n4 x3000 ∧ I3 m n4 x3000)) (by kernel_rfl) (by kernel_rfl) Try.func23 (by kernel_rfl) (by kernel_rfl) (by kernel_rfl) (by kernel_rfl) (by kernel_rfl)
    (fun x td st h hf => by
      obtain ⟨n4, x3000, rfl, rfl, hi⟩ := h
      rw [v23_3]
      exact h3 x n4 x3000 hi (hf.sd 0 false [.c (.sl 48 a)] 0 (.sl 48 a) (by kernel_rfl) (by kernel_rfl)) (hf.td 3000 3 87 2 48 x3000 (by kernel_rfl)) _ (fun m n4 x3000 hm hi => ⟨m, hm, ⟨n4, x3000, rfl, rfl, hi⟩⟩))
    (fun hf => by rw [v23]; exact h (hf.sd 0 false [.c (.sl 48 a)] 0 (.sl 48 a) (by kernel_rfl) (by kernel_rfl)) _ (fun m n4 x3000 hi => ⟨m, ⟨n4, x3000, rfl, rfl, hi⟩⟩))

noncomputable def cx119 : Cx := { P := Try.prog, sg := fun i => (alook [(119, sg119)] i).getD ⟨[], []⟩, mv := fun i => (alook [] i).getD [], head := fun i => (alook [(4, ⟨3000, 3, [⟨0, [some (3, 1, 8)]⟩, ⟨1, [some (3, 1, 8)]⟩, ⟨5, [none]⟩]⟩)] i).getD ⟨0, 0, []⟩, ord := fun i => (alook [(6, [0, 1, 2, 3, 4, 5, 6, 7, 8])] i).getD [] }
noncomputable def st119_4 (a : List (List D)) (b : List (List D)) (n5 : Int) : St := (St.of [(5, .v false [.c (.int .i64 n5)]), (1, .v false [.c (.sl 8 b)]), (0, .v false [.c (.sl 8 a)])] [] [] 3064 26)
def q119 (a : List (List D)) (b : List (List D))  (J4 : Int → Prop) (R : Bool → Prop) : Prop :=
  ((decide ((↑(List.length a) : Int) < (↑(List.length b) : Int)) = true → R false) ∧
  (decide ((↑(List.length a) : Int) < (↑(List.length b) : Int)) = false → J4 (0 : Int)))
theorem v119 (a : List (List D)) (b : List (List D))  (J : List Item → St → Prop) (R : Bool → Prop) : wpt cx119 J (fin Try.prog Try.f119.results.toList sg119 R) 100000 [.code (Try.f119.body.getD .skip)] (initSt [.val false [.c (.sl 8 a)], .val false [.c (.sl 8 b)]] 26) = q119 a b  (fun n5 => J (td (Try.f119.body.getD .skip) 4) (st119_4 a b n5)) R := by kernel_rfl
def q119_4 (a : List (List D)) (b : List (List D)) (n5 : Int) (J4 : Int → Prop) (R : Bool → Prop) : Prop :=
  ((decide (n5 < (↑(List.length b) : Int)) = true → (((0 : Int) ≤ n5 ∧ n5 < (↑(List.length b) : Int) ∧ List.length (List.getD b (Int.toNat n5) []) = (1 : Nat)) ∧
  (∃ n, ((List.take (1 : Nat) (List.drop (0 : Nat) (List.getD b (Int.toNat n5) [])) = [D.int IntKind.i64 n]) ∧
  (((0 : Int) ≤ n5 ∧ n5 < (↑(List.length a) : Int) ∧ List.length (List.getD a (Int.toNat n5) []) = (1 : Nat)) ∧
  (∃ n1, ((List.take (1 : Nat) (List.drop (0 : Nat) (List.getD a (Int.toNat n5) [])) = [D.int IntKind.i64 n1]) ∧
  (((n != n1) = true → R false) ∧
  ((n != n1) = false → J4 (IntKind.wrap IntKind.i64 (n5 + (1 : Int)))))))))))) ∧
  (decide (n5 < (↑(List.length b) : Int)) = false → R true))
theorem v119_4 (a : List (List D)) (b : List (List D)) (n5 : Int) (J : List Item → St → Prop) (R : Bool → Prop) : wpt cx119 J (fin Try.prog Try.f119.results.toList sg119 R) 100000 (td (Try.f119.body.getD .skip) 4) (st119_4 a b n5) = q119_4 a b n5 (fun n5 => J (td (Try.f119.body.getD .skip) 4) (st119_4 a b n5)) R := by kernel_rfl
theorem r119 (a : List (List D)) (b : List (List D)) (R : Bool → Prop) (I4 : Nat → Int → Prop)
    (h : DFact (.sl 8 a) → DFact (.sl 8 b) → ∀ (J4 : Int → Prop), (∀ m n5', I4 m n5' → J4 n5') → q119 a b J4 R)
    (h4 : ∀ x (n5 : Int), I4 x n5 → DFact (.sl 8 b) → DFact (.sl 8 a) → ∀ (J4 : Int → Prop), (∀ m n5', m < x → I4 m n5' → J4 n5') → q119_4 a b n5 J4 R) :
    C Try.prog 119 [.val false [.c (.sl 8 a)], .val false [.c (.sl 8 b)]] sg119 R :=
  C_rule (cx := cx119) (P := Try.prog) (f := 119) (fn := Try.f119) (c := (Try.f119.body.getD .skip)) (args := [.val false [.c (.sl 8 a)], .val false [.c (.sl 8 b)]]) (sg := sg119) (rv := Try.f119.results.toList) (N := 26) (R := R) (μ := Nat) (lt := (· < ·)) Nat.lt_wfRel.wf (fun m td st => (∃ (n5 : Int), td = _root_.Go.Gl.td (Try.f119.body.getD .skip) 4 ∧ st = st119_4 a b n5 ∧ I4 m n5)) (by kernel_rfl) (by kernel_rfl) Try.func119 (by kernel_rfl) (by kernel_rfl) (by kernel_rfl) (by kernel_rfl) (by kernel_rfl)
    (fun x td st h hf => by
      obtain ⟨n5, rfl, rfl, hi⟩ := h
      rw [v119_4]
      exact h4 x n5 hi (hf.sd 1 false [.c (.sl 8 b)] 0 (.sl 8 b) (by kernel_rfl) (by kernel_rfl)) (hf.sd 0 false [.c (.sl 8 a)] 0 (.sl 8 a) (by kernel_rfl) (by kernel_rfl)) _ (fun m n5 hm hi => ⟨m, hm, ⟨n5, rfl, rfl, hi⟩⟩))
    (fun hf => by rw [v119]; exact h (hf.sd 0 false [.c (.sl 8 a)] 0 (.sl 8 a) (by kernel_rfl) (by kernel_rfl)) (hf.sd 1 false [.c (.sl 8 b)] 0 (.sl 8 b) (by kernel_rfl) (by kernel_rfl)) _ (fun m n5 hi => ⟨m, ⟨n5, rfl, rfl, hi⟩⟩))

noncomputable def cx68 : Cx := { P := Try.prog, sg := fun i => (alook [(119, sg119), (68, sg68)] i).getD ⟨[], []⟩, mv := fun i => (alook [] i).getD [], head := fun i => (alook [] i).getD ⟨0, 0, []⟩, ord := fun i => (alook [] i).getD [] }
def q68 (a : List (List D)) (b : List (List D))   (R : Bool → Prop) : Prop :=
  ((((↑(List.length a) : Int) == (↑(List.length b) : Int)) = true → C Try.prog 119 [.val false [.c (.sl 8 a)], .val false [.c (.sl 8 b)]] sg119 (fun b1 => R b1)) ∧
  (((↑(List.length a) : Int) == (↑(List.length b) : Int)) = false → R false))
theorem v68 (a : List (List D)) (b : List (List D))  (J : List Item → St → Prop) (R : Bool → Prop) : wpt cx68 J (fin Try.prog Try.f68.results.toList sg68 R) 100000 [.code (Try.f68.body.getD .skip)] (initSt [.val false [.c (.sl 8 a)], .val false [.c (.sl 8 b)]] 15) = q68 a b   R := by kernel_rfl
theorem r68 (a : List (List D)) (b : List (List D)) (R : Bool → Prop) 
    (h : DFact (.sl 8 a) → DFact (.sl 8 b) → q68 a b  R) :
    C Try.prog 68 [.val false [.c (.sl 8 a)], .val false [.c (.sl 8 b)]] sg68 R :=
  C_rule (cx := cx68) (P := Try.prog) (f := 68) (fn := Try.f68) (c := (Try.f68.body.getD .skip)) (args := [.val false [.c (.sl 8 a)], .val false [.c (.sl 8 b)]]) (sg := sg68) (rv := Try.f68.results.toList) (N := 15) (R := R) (μ := Nat) (lt := (· < ·)) Nat.lt_wfRel.wf (fun m td st => False) (by kernel_rfl) (by kernel_rfl) Try.func68 (by kernel_rfl) (by kernel_rfl) (by kernel_rfl) (by kernel_rfl) (by kernel_rfl)
    (fun _ _ _ h => h.elim)
    (fun hf => by rw [v68]; exact h (hf.sd 0 false [.c (.sl 8 a)] 0 (.sl 8 a) (by kernel_rfl) (by kernel_rfl)) (hf.sd 1 false [.c (.sl 8 b)] 0 (.sl 8 b) (by kernel_rfl) (by kernel_rfl)) )

noncomputable def cx22 : Cx := { P := Try.prog, sg := fun i => (alook [(68, sg68), (22, sg22)] i).getD ⟨[], []⟩, mv := fun i => (alook [] i).getD [], head := fun i => (alook [(4, ⟨3000, 3, [⟨0, [some (87, 2, 48)]⟩, ⟨1, [some (87, 2, 48)]⟩, ⟨5, [none]⟩]⟩)] i).getD ⟨0, 0, []⟩, ord := fun i => (alook [(6, [0, 1, 2, 3, 4, 5, 6, 7, 8, 9, 10, 11, 12, 13, 14, 15, 16, 17, 18, 19, 20, 21, 22, 23, 24, 25])] i).getD [] }
noncomputable def st22_4 (a : List (List D)) (b : List (List D)) (n5 : Int) : St := (St.of [(5, .v false [.c (.int .i64 n5)]), (1, .v false [.c (.sl 48 b)]), (0, .v false [.c (.sl 48 a)])] [] [] 3064 43)
def q22 (a : List (List D)) (b : List (List D))  (J4 : Int → Prop) (R : Bool → Prop) : Prop :=
  ((((↑(List.length a) : Int) != (↑(List.length b) : Int)) = true → R false) ∧
  (((↑(List.length a) : Int) != (↑(List.length b) : Int)) = false → J4 (0 : Int)))
theorem v22 (a : List (List D)) (b : List (List D))  (J : List Item → St → Prop) (R : Bool → Prop) : wpt cx22 J (fin Try.prog Try.f22.results.toList sg22 R) 100000 [.code (Try.f22.body.getD .skip)] (initSt [.val false [.c (.sl 48 a)], .val false [.c (.sl 48 b)]] 43) = q22 a b  (fun n5 => J (td (Try.f22.body.getD .skip) 4) (st22_4 a b n5)) R := by kernel_rfl
def q22_4 (a : List (List D)) (b : List (List D)) (n5 : Int) (J4 : Int → Prop) (R : Bool → Prop) : Prop :=
  ((decide (n5 < (↑(List.length a) : Int)) = true → (((0 : Int) ≤ n5 ∧ n5 < (↑(List.length a) : Int) ∧ List.length (List.getD a (Int.toNat n5) []) = (2 : Nat)) ∧
  (∃ xs, ((List.take (1 : Nat) (List.drop (0 : Nat) (List.getD a (Int.toNat n5) [])) = [D.sl (8 : Nat) xs]) ∧
  (((0 : Int) ≤ n5 ∧ n5 < (↑(List.length b) : Int) ∧ List.length (List.getD b (Int.toNat n5) []) = (2 : Nat)) ∧
  (∃ xs1, ((List.take (1 : Nat) (List.drop (0 : Nat) (List.getD b (Int.toNat n5) [])) = [D.sl (8 : Nat) xs1]) ∧
  C Try.prog 68 [.val false [.c (.sl 8 xs)], .val false [.c (.sl 8 xs1)]] sg68 (fun b1 => (((!b1) = true → ((true = true → R false) ∧
  (true = false → J4 (IntKind.wrap IntKind.i64 (n5 + (1 : Int)))))) ∧
  ((!b1) = false → (((0 : Int) ≤ n5 ∧ n5 < (↑(List.length a) : Int) ∧ List.length (List.getD a (Int.toNat n5) []) = (2 : Nat)) ∧
  (∃ xs2, ((List.take (1 : Nat) (List.drop (1 : Nat) (List.getD a (Int.toNat n5) [])) = [D.sl (8 : Nat) xs2]) ∧
  (((0 : Int) ≤ n5 ∧ n5 < (↑(List.length b) : Int) ∧ List.length (List.getD b (Int.toNat n5) []) = (2 : Nat)) ∧
  (∃ xs3, ((List.take (1 : Nat) (List.drop (1 : Nat) (List.getD b (Int.toNat n5) [])) = [D.sl (8 : Nat) xs3]) ∧
  C Try.prog 68 [.val false [.c (.sl 8 xs2)], .val false [.c (.sl 8 xs3)]] sg68 (fun b2 => (((!b2) = true → R false) ∧
  ((!b2) = false → J4 (IntKind.wrap IntKind.i64 (n5 + (1 : Int)))))))))))))))))))))) ∧
  (decide (n5 < (↑(List.length a) : Int)) = false → R true))
theorem v22_4 (a : List (List D)) (b : List (List D)) (n5 : Int) (J : List Item → St → Prop) (R : Bool → Prop) : wpt cx22 J (fin Try.prog Try.f22.results.toList sg22 R) 100000 (td (Try.f22.body.getD .skip) 4) (st22_4 a b n5) = q22_4 a b n5 (fun n5 => J (td (Try.f22.body.getD .skip) 4) (st22_4 a b n5)) R := by kernel_rfl
theorem r22 (a : List (List D)) (b : List (List D)) (R : Bool → Prop) (I4 : Nat → Int → Prop)
    (h : DFact (.sl 48 a) → DFact (.sl 48 b) → ∀ (J4 : Int → Prop), (∀ m n5', I4 m n5' → J4 n5') → q22 a b J4 R)
    (h4 : ∀ x (n5 : Int), I4 x n5 → DFact (.sl 48 b) → DFact (.sl 48 a) → ∀ (J4 : Int → Prop), (∀ m n5', m < x → I4 m n5' → J4 n5') → q22_4 a b n5 J4 R) :
    C Try.prog 22 [.val false [.c (.sl 48 a)], .val false [.c (.sl 48 b)]] sg22 R :=
  C_rule (cx := cx22) (P := Try.prog) (f := 22) (fn := Try.f22) (c := (Try.f22.body.getD .skip)) (args := [.val false [.c (.sl 48 a)], .val false [.c (.sl 48 b)]]) (sg := sg22) (rv := Try.f22.results.toList) (N := 43) (R := R) (μ := Nat) (lt := (· < ·)) Nat.lt_wfRel.wf (fun m td st => (∃ (n5 : Int), td = _root_.Go.Gl.td (Try.f22.body.getD .skip) 4 ∧ st = st22_4 a b n5 ∧ I4 m n5)) (by kernel_rfl) (by kernel_rfl) Try.func22 (by kernel_rfl) (by kernel_rfl) (by kernel_rfl) (by kernel_rfl) (by kernel_rfl)
    (fun x td st h hf => by
      obtain ⟨n5, rfl, rfl, hi⟩ := h
      rw [v22_4]
      exact h4 x n5 hi (hf.sd 1 false [.c (.sl 48 b)] 0 (.sl 48 b) (by kernel_rfl) (by kernel_rfl)) (hf.sd 0 false [.c (.sl 48 a)] 0 (.sl 48 a) (by kernel_rfl) (by kernel_rfl)) _ (fun m n5 hm hi => ⟨m, hm, ⟨n5, rfl, rfl, hi⟩⟩))
    (fun hf => by rw [v22]; exact h (hf.sd 0 false [.c (.sl 48 a)] 0 (.sl 48 a) (by kernel_rfl) (by kernel_rfl)) (hf.sd 1 false [.c (.sl 48 b)] 0 (.sl 48 b) (by kernel_rfl) (by kernel_rfl)) _ (fun m n5 hi => ⟨m, ⟨n5, rfl, rfl, hi⟩⟩))

noncomputable def cx120 : Cx := { P := Try.prog, sg := fun i => (alook [(120, sg120)] i).getD ⟨[], []⟩, mv := fun i => (alook [] i).getD [], head := fun i => (alook [(4, ⟨3000, 3, [⟨0, [some (3, 1, 8)]⟩, ⟨1, [some (3, 1, 8)]⟩, ⟨12, [none]⟩, ⟨13, [none]⟩]⟩)] i).getD ⟨0, 0, []⟩, ord := fun i => (alook [(6, [0, 1, 2, 3, 4, 5, 6, 7, 8])] i).getD [] }
noncomputable def st120_4 (a : List (List D)) (b : List (List D)) (n13 : Int) : St := (St.of [(13, .v false [.c (.int .i64 n13)]), (12, .v false [.c (.int .i64 (↑(List.length a) : Int))]), (1, .v false [.c (.sl 8 b)]), (0, .v false [.c (.sl 8 a)])] [] [] 3064 26)
def q120 (a : List (List D)) (b : List (List D))  (J4 : Int → Prop) (R : Bool → Prop) : Prop :=
  ((((↑(List.length a) : Int) != (↑(List.length b) : Int)) = true → R false) ∧
  (((↑(List.length a) : Int) != (↑(List.length b) : Int)) = false → J4 (0 : Int)))
theorem v120 (a : List (List D)) (b : List (List D))  (J : List Item → St → Prop) (R : Bool → Prop) : wpt cx120 J (fin Try.prog Try.f120.results.toList sg120 R) 100000 [.code (Try.f120.body.getD .skip)] (initSt [.val false [.c (.sl 8 a)], .val false [.c (.sl 8 b)]] 26) = q120 a b  (fun n13 => J (td (Try.f120.body.getD .skip) 4) (st120_4 a b n13)) R := by kernel_rfl
def q120_4 (a : List (List D)) (b : List (List D)) (n13 : Int) (J4 : Int → Prop) (R : Bool → Prop) : Prop :=
  ((decide (n13 < (↑(List.length a) : Int)) = true → (((0 : Int) ≤ n13 ∧ n13 < (↑(List.length a) : Int) ∧ List.length (List.getD a (Int.toNat n13) []) = (1 : Nat)) ∧
  (∃ n, ((List.take (1 : Nat) (List.drop (0 : Nat) (List.getD a (Int.toNat n13) [])) = [D.int IntKind.i64 n]) ∧
  (((0 : Int) ≤ n13 ∧ n13 < (↑(List.length b) : Int) ∧ List.length (List.getD b (Int.toNat n13) []) = (1 : Nat)) ∧
  (∃ n1, ((List.take (1 : Nat) (List.drop (0 : Nat) (List.getD b (Int.toNat n13) [])) = [D.int IntKind.i64 n1]) ∧
  (((n != n1) = true → R false) ∧
  ((n != n1) = false → J4 (IntKind.wrap IntKind.i64 (n13 + (1 : Int)))))))))))) ∧
  (decide (n13 < (↑(List.length a) : Int)) = false → R true))
theorem v120_4 (a : List (List D)) (b : List (List D)) (n13 : Int) (J : List Item → St → Prop) (R : Bool → Prop) : wpt cx120 J (fin Try.prog Try.f120.results.toList sg120 R) 100000 (td (Try.f120.body.getD .skip) 4) (st120_4 a b n13) = q120_4 a b n13 (fun n13 => J (td (Try.f120.body.getD .skip) 4) (st120_4 a b n13)) R := by kernel_rfl
theorem r120 (a : List (List D)) (b : List (List D)) (R : Bool → Prop) (I4 : Nat → Int → Prop)
    (h : DFact (.sl 8 a) → DFact (.sl 8 b) → ∀ (J4 : Int → Prop), (∀ m n13', I4 m n13' → J4 n13') → q120 a b J4 R)
    (h4 : ∀ x (n13 : Int), I4 x n13 → DFact (.sl 8 b) → DFact (.sl 8 a) → ∀ (J4 : Int → Prop), (∀ m n13', m < x → I4 m n13' → J4 n13') → q120_4 a b n13 J4 R) :
    C Try.prog 120 [.val false [.c (.sl 8 a)], .val false [.c (.sl 8 b)]] sg120 R :=
  C_rule (cx := cx120) (P := Try.prog) (f := 120) (fn := Try.f120) (c := (Try.f120.body.getD .skip)) (args := [.val false [.c (.sl 8 a)], .val false [.c (.sl 8 b)]]) (sg := sg120) (rv := Try.f120.results.toList) (N := 26) (R := R) (μ := Nat) (lt := (· < ·)) Nat.lt_wfRel.wf (fun m td st => (∃ (n13 : Int), td = _root_.Go.Gl.td (Try.f120.body.getD .skip) 4 ∧ st = st120_4 a b n13 ∧ I4 m n13)) (by kernel_rfl) (by kernel_rfl) Try.func120 (by kernel_rfl) (by kernel_rfl) (by kernel_rfl) (by kernel_rfl) (by kernel_rfl)
    (fun x td st h hf => by
      obtain ⟨n13, rfl, rfl, hi⟩ := h
      rw [v120_4]
      exact h4 x n13 hi (hf.sd 1 false [.c (.sl 8 b)] 0 (.sl 8 b) (by kernel_rfl) (by kernel_rfl)) (hf.sd 0 false [.c (.sl 8 a)] 0 (.sl 8 a) (by kernel_rfl) (by kernel_rfl)) _ (fun m n13 hm hi => ⟨m, hm, ⟨n13, rfl, rfl, hi⟩⟩))
    (fun hf => by rw [v120]; exact h (hf.sd 0 false [.c (.sl 8 a)] 0 (.sl 8 a) (by kernel_rfl) (by kernel_rfl)) (hf.sd 1 false [.c (.sl 8 b)] 0 (.sl 8 b) (by kernel_rfl) (by kernel_rfl)) _ (fun m n13 hi => ⟨m, ⟨n13, rfl, rfl, hi⟩⟩))

noncomputable def cx71 : Cx := { P := Try.prog, sg := fun i => (alook [(120, sg120), (71, sg71)] i).getD ⟨[], []⟩, mv := fun i => (alook [] i).getD [], head := fun i => (alook [] i).getD ⟨0, 0, []⟩, ord := fun i => (alook [] i).getD [] }
def q71 (a0 : List (List D)) (a1 : List (List D)) (b0 : List (List D)) (b1 : List (List D))   (R : Bool → Prop) : Prop :=
  C Try.prog 120 [.val false [.c (.sl 8 a0)], .val false [.c (.sl 8 b0)]] sg120 (fun b => ((b = true → C Try.prog 120 [.val false [.c (.sl 8 a1)], .val false [.c (.sl 8 b1)]] sg120 (fun b2 => R b2)) ∧
  (b = false → R false)))
theorem v71 (a0 : List (List D)) (a1 : List (List D)) (b0 : List (List D)) (b1 : List (List D))  (J : List Item → St → Prop) (R : Bool → Prop) : wpt cx71 J (fin Try.prog Try.f71.results.toList sg71 R) 100000 [.code (Try.f71.body.getD .skip)] (initSt [.val true [.c (.sl 8 a0), .c (.sl 8 a1)], .val true [.c (.sl 8 b0), .c (.sl 8 b1)]] 17) = q71 a0 a1 b0 b1   R := by kernel_rfl
theorem r71 (a0 : List (List D)) (a1 : List (List D)) (b0 : List (List D)) (b1 : List (List D)) (R : Bool → Prop) 
    (h : DFact (.sl 8 a0) → DFact (.sl 8 a1) → DFact (.sl 8 b0) → DFact (.sl 8 b1) → q71 a0 a1 b0 b1  R) :
    C Try.prog 71 [.val true [.c (.sl 8 a0), .c (.sl 8 a1)], .val true [.c (.sl 8 b0), .c (.sl 8 b1)]] sg71 R :=
  C_rule (cx := cx71) (P := Try.prog) (f := 71) (fn := Try.f71) (c := (Try.f71.body.getD .skip)) (args := [.val true [.c (.sl 8 a0), .c (.sl 8 a1)], .val true [.c (.sl 8 b0), .c (.sl 8 b1)]]) (sg := sg71) (rv := Try.f71.results.toList) (N := 17) (R := R) (μ := Nat) (lt := (· < ·)) Nat.lt_wfRel.wf (fun m td st => False) (by kernel_rfl) (by kernel_rfl) Try.func71 (by kernel_rfl) (by kernel_rfl) (by kernel_rfl) (by kernel_rfl) (by kernel_rfl)
    (fun _ _ _ h => h.elim)
    (fun hf => by rw [v71]; exact h (hf.sd 0 true [.c (.sl 8 a0), .c (.sl 8 a1)] 0 (.sl 8 a0) (by kernel_rfl) (by kernel_rfl)) (hf.sd 0 true [.c (.sl 8 a0), .c (.sl 8 a1)] 1 (.sl 8 a1) (by kernel_rfl) (by kernel_rfl)) (hf.sd 1 true [.c (.sl 8 b0), .c (.sl 8 b1)] 0 (.sl 8 b0) (by kernel_rfl) (by kernel_rfl)) (hf.sd 1 true [.c (.sl 8 b0), .c (.sl 8 b1)] 1 (.sl 8 b1) (by kernel_rfl) (by kernel_rfl)) )

noncomputable def cx70 : Cx := { P := Try.prog, sg := fun i => (alook [(71, sg71), (70, sg70)] i).getD ⟨[], []⟩, mv := fun i => (alook [] i).getD [], head := fun i => (alook [(4, ⟨3000, 3, [⟨1, [some (87, 2, 48)]⟩, ⟨2, []⟩, ⟨15, [some (87, 2, 48)]⟩, ⟨16, [none]⟩, ⟨17, [none]⟩]⟩)] i).getD ⟨0, 0, []⟩, ord := fun i => (alook [] i).getD [] }
noncomputable def st70_4 (a : List (List D)) (b : List (List D)) (n17 : Int) : St := (St.of [(17, .v false [.c (.int .i64 n17)]), (16, .v false [.c (.int .i64 (↑(List.length a) : Int))]), (15, .v false [.c (.sl 48 a)]), (2, .fn 71 []), (1, .v false [.c (.sl 48 b)])] [] [] 3064 32)
def q70 (a : List (List D)) (b : List (List D))  (J4 : Int → Prop) (R : Bool → Prop) : Prop :=
  ((((↑(List.length a) : Int) != (↑(List.length b) : Int)) = true → R false) ∧
  (((↑(List.length a) : Int) != (↑(List.length b) : Int)) = false → J4 (0 : Int)))
theorem v70 (a : List (List D)) (b : List (List D))  (J : List Item → St → Prop) (R : Bool → Prop) : wpt cx70 J (fin Try.prog Try.f70.results.toList sg70 R) 100000 [.code (Try.f70.body.getD .skip)] (initSt [.val false [.c (.sl 48 a)], .val false [.c (.sl 48 b)], .fn 71 []] 32) = q70 a b  (fun n17 => J (td (Try.f70.body.getD .skip) 4) (st70_4 a b n17)) R := by kernel_rfl
def q70_4 (a : List (List D)) (b : List (List D)) (n17 : Int) (J4 : Int → Prop) (R : Bool → Prop) : Prop :=
  ((decide (n17 < (↑(List.length a) : Int)) = true → (((0 : Int) ≤ n17 ∧ n17 < (↑(List.length a) : Int) ∧ List.length (List.getD a (Int.toNat n17) []) = (2 : Nat)) ∧
  (∃ xs, (∃ xs1, ((List.take (2 : Nat) (List.drop (0 : Nat) (List.getD a (Int.toNat n17) [])) = [D.sl (8 : Nat) xs, D.sl (8 : Nat) xs1]) ∧
  (((0 : Int) ≤ n17 ∧ n17 < (↑(List.length b) : Int) ∧ List.length (List.getD b (Int.toNat n17) []) = (2 : Nat)) ∧
  (∃ xs2, (∃ xs3, ((List.take (2 : Nat) (List.drop (0 : Nat) (List.getD b (Int.toNat n17) [])) = [D.sl (8 : Nat) xs2, D.sl (8 : Nat) xs3]) ∧
  C Try.prog 71 [.val true [.c (.sl 8 xs), .c (.sl 8 xs1)], .val true [.c (.sl 8 xs2), .c (.sl 8 xs3)]] sg71 (fun b1 => (((!b1) = true → R false) ∧
  ((!b1) = false → J4 (IntKind.wrap IntKind.i64 (n17 + (1 : Int))))))))))))))) ∧
  (decide (n17 < (↑(List.length a) : Int)) = false → R true))
theorem v70_4 (a : List (List D)) (b : List (List D)) (n17 : Int) (J : List Item → St → Prop) (R : Bool → Prop) : wpt cx70 J (fin Try.prog Try.f70.results.toList sg70 R) 100000 (td (Try.f70.body.getD .skip) 4) (st70_4 a b n17) = q70_4 a b n17 (fun n17 => J (td (Try.f70.body.getD .skip) 4) (st70_4 a b n17)) R := by kernel_rfl
theorem r70 (a : List (List D)) (b : List (List D)) (R : Bool → Prop) (I4 : Nat → Int → Prop)
    (h : DFact (.sl 48 a) → DFact (.sl 48 b) → ∀ (J4 : Int → Prop), (∀ m n17', I4 m n17' → J4 n17') → q70 a b J4 R)
    (h4 : ∀ x (n17 : Int), I4 x n17 → DFact (.sl 48 a) → DFact (.sl 48 b) → ∀ (J4 : Int → Prop), (∀ m n17', m < x → I4 m n17' → J4 n17') → q70_4 a b n17 J4 R) :
    C Try.prog 70 [.val false [.c (.sl 48 a)], .val false [.c (.sl 48 b)], .fn 71 []] sg70 R :=
  C_rule (cx := cx70) (P := Try.prog) (f := 70) (fn := Try.f70) (c := (Try.f70.body.getD .skip)) (args := [.val false [.c (.sl 48 a)], .val false [.c (.sl 48 b)], .fn 71 []]) (sg := sg70) (rv := Try.f70.results.toList) (N := 32) (R := R) (μ := Nat) (lt := (· < ·)) Nat.lt_wfRel.wf (fun m td st => (∃ (n17 : Int), td = _root_.Go.Gl.td (Try.f70.body.getD .skip) 4 ∧ st = st70_4 a b n17 ∧ I4 m n17)) (by kernel_rfl) (by kernel_rfl) Try.func70 (by kernel_rfl) (by kernel_rfl) (by kernel_rfl) (by kernel_rfl) (by kernel_rfl)
    (fun x td st h hf => by
      obtain ⟨n17, rfl, rfl, hi⟩ := h
      rw [v70_4]
      exact h4 x n17 hi (hf.sd 15 false [.c (.sl 48 a)] 0 (.sl 48 a) (by kernel_rfl) (by kernel_rfl)) (hf.sd 1 false [.c (.sl 48 b)] 0 (.sl 48 b) (by kernel_rfl) (by kernel_rfl)) _ (fun m n17 hm hi => ⟨m, hm, ⟨n17, rfl, rfl, hi⟩⟩))
    (fun hf => by rw [v70]; exact h (hf.sd 0 false [.c (.sl 48 a)] 0 (.sl 48 a) (by kernel_rfl) (by kernel_rfl)) (hf.sd 1 false [.c (.sl 48 b)] 0 (.sl 48 b) (by kernel_rfl) (by kernel_rfl)) _ (fun m n17 hi => ⟨m, ⟨n17, rfl, rfl, hi⟩⟩))

noncomputable def cx24 : Cx := { P := Try.prog, sg := fun i => (alook [(70, sg70), (71, sg71), (24, sg24)] i).getD ⟨[], []⟩, mv := fun i => (alook [] i).getD [], head := fun i => (alook [] i).getD ⟨0, 0, []⟩, ord := fun i => (alook [] i).getD [] }
def q24 (a : List (List D)) (b : List (List D))   (R : Bool → Prop) : Prop :=
  C Try.prog 70 [.val false [.c (.sl 48 a)], .val false [.c (.sl 48 b)], .fn 71 []] sg70 (fun b1 => R b1)
theorem v24 (a : List (List D)) (b : List (List D))  (J : List Item → St → Prop) (R : Bool → Prop) : wpt cx24 J (fin Try.prog Try.f24.results.toList sg24 R) 100000 [.code (Try.f24.body.getD .skip)] (initSt [.val false [.c (.sl 48 a)], .val false [.c (.sl 48 b)]] 8) = q24 a b   R := by kernel_rfl
theorem r24 (a : List (List D)) (b : List (List D)) (R : Bool → Prop) 
    (h : DFact (.sl 48 a) → DFact (.sl 48 b) → q24 a b  R) :
    C Try.prog 24 [.val false [.c (.sl 48 a)], .val false [.c (.sl 48 b)]] sg24 R :=
  C_rule (cx := cx24) (P := Try.prog) (f := 24) (fn := Try.f24) (c := (Try.f24.body.getD .skip)) (args := [.val false [.c (.sl 48 a)], .val false [.c (.sl 48 b)]]) (sg := sg24) (rv := Try.f24.results.toList) (N := 8) (R := R) (μ := Nat) (lt := (· < ·)) Nat.lt_wfRel.wf (fun m td st => False) (by kernel_rfl) (by kernel_rfl) Try.func24 (by kernel_rfl) (by kernel_rfl) (by kernel_rfl) (by kernel_rfl) (by kernel_rfl)
    (fun _ _ _ h => h.elim)
    (fun hf => by rw [v24]; exact h (hf.sd 0 false [.c (.sl 48 a)] 0 (.sl 48 a) (by kernel_rfl) (by kernel_rfl)) (hf.sd 1 false [.c (.sl 48 b)] 0 (.sl 48 b) (by kernel_rfl) (by kernel_rfl)) )

noncomputable def cx20 : Cx := { P := Try.prog, sg := fun i => (alook [(20, sg20)] i).getD ⟨[], []⟩, mv := fun i => (alook [] i).getD [], head := fun i => (alook [(4, ⟨3000, 3, [⟨0, [some (3, 1, 8)]⟩, ⟨1, [some (3, 1, 8)]⟩, ⟨5, [none]⟩]⟩)] i).getD ⟨0, 0, []⟩, ord := fun i => (alook [(6, [0, 1, 2, 3, 4, 5, 6, 7, 8])] i).getD [] }
noncomputable def st20_4 (a : List (List D)) (b : List (List D)) (n5 : Int) : St := (St.of [(5, .v false [.c (.int .i64 n5)]), (1, .v false [.c (.sl 8 b)]), (0, .v false [.c (.sl 8 a)])] [] [] 3064 26)
def q20 (a : List (List D)) (b : List (List D))  (J4 : Int → Prop) (R : Bool → Prop) : Prop :=
  ((((↑(List.length a) : Int) != (↑(List.length b) : Int)) = true → R false) ∧
  (((↑(List.length a) : Int) != (↑(List.length b) : Int)) = false → J4 (0 : Int)))
theorem v20 (a : List (List D)) (b : List (List D))  (J : List Item → St → Prop) (R : Bool → Prop) : wpt cx20 J (fin Try.prog Try.f20.results.toList sg20 R) 100000 [.code (Try.f20.body.getD .skip)] (initSt [.val false [.c (.sl 8 a)], .val false [.c (.sl 8 b)]] 26) = q20 a b  (fun n5 => J (td (Try.f20.body.getD .skip) 4) (st20_4 a b n5)) R := by kernel_rfl
def q20_4 (a : List (List D)) (b : List (List D)) (n5 : Int) (J4 : Int → Prop) (R : Bool → Prop) : Prop :=
  ((decide (n5 < (↑(List.length a) : Int)) = true → (((0 : Int) ≤ n5 ∧ n5 < (↑(List.length a) : Int) ∧ List.length (List.getD a (Int.toNat n5) []) = (1 : Nat)) ∧
  (∃ n, ((List.take (1 : Nat) (List.drop (0 : Nat) (List.getD a (Int.toNat n5) [])) = [D.int IntKind.i64 n]) ∧
  (((0 : Int) ≤ n5 ∧ n5 < (↑(List.length b) : Int) ∧ List.length (List.getD b (Int.toNat n5) []) = (1 : Nat)) ∧
  (∃ n1, ((List.take (1 : Nat) (List.drop (0 : Nat) (List.getD b (Int.toNat n5) [])) = [D.int IntKind.i64 n1]) ∧
  (((n != n1) = true → R false) ∧
  ((n != n1) = false → J4 (IntKind.wrap IntKind.i64 (n5 + (1 : Int)))))))))))) ∧
  (decide (n5 < (↑(List.length a) : Int)) = false → R true))
theorem v20_4 (a : List (List D)) (b : List (List D)) (n5 : Int) (J : List Item → St → Prop) (R : Bool → Prop) : wpt cx20 J (fin Try.prog Try.f20.results.toList sg20 R) 100000 (td (Try.f20.body.getD .skip) 4) (st20_4 a b n5) = q20_4 a b n5 (fun n5 => J (td (Try.f20.body.getD .skip) 4) (st20_4 a b n5)) R := by kernel_rfl
theorem r20 (a : List (List D)) (b : List (List D)) (R : Bool → Prop) (I4 : Nat → Int → Prop)
    (h : DFact (.sl 8 a) → DFact (.sl 8 b) → ∀ (J4 : Int → Prop), (∀ m n5', I4 m n5' → J4 n5') → q20 a b J4 R)
    (h4 : ∀ x (n5 : Int), I4 x n5 → DFact (.sl 8 b) → DFact (.sl 8 a) → ∀ (J4 : Int → Prop), (∀ m n5', m < x → I4 m n5' → J4 n5') → q20_4 a b n5 J4 R) :
    C Try.prog 20 [.val false [.c (.sl 8 a)], .val false [.c (.sl 8 b)]] sg20 R :=
  C_rule (cx := cx20) (P := Try.prog) (f := 20) (fn := Try.f20) (c := (Try.f20.body.getD .skip)) (args := [.val false [.c (.sl 8 a)], .val false [.c (.sl 8 b)]]) (sg := sg20) (rv := Try.f20.results.toList) (N := 26) (R := R) (μ := Nat) (lt := (· < ·)) Nat.lt_wfRel.wf (fun m td st => (∃ (n5 : Int), td = _root_.Go.Gl.td (Try.f20.body.getD .skip) 4 ∧ st = st20_4 a b n5 ∧ I4 m n5)) (by kernel_rfl) (by kernel_rfl) Try.func20 (by kernel_rfl) (by kernel_rfl) (by kernel_rfl) (by kernel_rfl) (by kernel_rfl)
    (fun x td st h hf => by
      obtain ⟨n5, rfl, rfl, hi⟩ := h
      rw [v20_4]
      exact h4 x n5 hi (hf.sd 1 false [.c (.sl 8 b)] 0 (.sl 8 b) (by kernel_rfl) (by kernel_rfl)) (hf.sd 0 false [.c (.sl 8 a)] 0 (.sl 8 a) (by kernel_rfl) (by kernel_rfl)) _ (fun m n5 hm hi => ⟨m, hm, ⟨n5, rfl, rfl, hi⟩⟩))
    (fun hf => by rw [v20]; exact h (hf.sd 0 false [.c (.sl 8 a)] 0 (.sl 8 a) (by kernel_rfl) (by kernel_rfl)) (hf.sd 1 false [.c (.sl 8 b)] 0 (.sl 8 b) (by kernel_rfl) (by kernel_rfl)) _ (fun m n5 hi => ⟨m, ⟨n5, rfl, rfl, hi⟩⟩))

noncomputable def cx72 : Cx := { P := Try.prog, sg := fun i => (alook [(20, sg20), (72, sg72)] i).getD ⟨[], []⟩, mv := fun i => (alook [] i).getD [], head := fun i => (alook [] i).getD ⟨0, 0, []⟩, ord := fun i => (alook [] i).getD [] }
def q72 (a0 : List (List D)) (a1 : List (List D)) (b0 : List (List D)) (b1 : List (List D))   (R : Bool → Prop) : Prop :=
  C Try.prog 20 [.val false [.c (.sl 8 a0)], .val false [.c (.sl 8 b0)]] sg20 (fun b => (((!b) = true → R false) ∧
  ((!b) = false → C Try.prog 20 [.val false [.c (.sl 8 a1)], .val false [.c (.sl 8 b1)]] sg20 (fun b2 => (((!b2) = true → R false) ∧
  ((!b2) = false → R true))))))
theorem v72 (a0 : List (List D)) (a1 : List (List D)) (b0 : List (List D)) (b1 : List (List D))  (J : List Item → St → Prop) (R : Bool → Prop) : wpt cx72 J (fin Try.prog Try.f72.results.toList sg72 R) 100000 [.code (Try.f72.body.getD .skip)] (initSt [.val true [.c (.sl 8 a0), .c (.sl 8 a1)], .val true [.c (.sl 8 b0), .c (.sl 8 b1)]] 17) = q72 a0 a1 b0 b1   R := by kernel_rfl
theorem r72 (a0 : List (List D)) (a1 : List (List D)) (b0 : List (List D)) (b1 : List (List D)) (R : Bool → Prop) 
    (h : DFact (.sl 8 a0) → DFact (.sl 8 a1) → DFact (.sl 8 b0) → DFact (.sl 8 b1) → q72 a0 a1 b0 b1  R) :
    C Try.prog 72 [.val true [.c (.sl 8 a0), .c (.sl 8 a1)], .val true [.c (.sl 8 b0), .c (.sl 8 b1)]] sg72 R :=
  C_rule (cx := cx72) (P := Try.prog) (f := 72) (fn := Try.f72) (c := (Try.f72.body.getD .skip)) (args := [.val true [.c (.sl 8 a0), .c (.sl 8 a1)], .val true [.c (.sl 8 b0), .c (.sl 8 b1)]]) (sg := sg72) (rv := Try.f72.results.toList) (N := 17) (R := R) (μ := Nat) (lt := (· < ·)) Nat.lt_wfRel.wf (fun m td st => False) (by kernel_rfl) (by kernel_rfl) Try.func72 (by kernel_rfl) (by kernel_rfl) (by kernel_rfl) (by kernel_rfl) (by kernel_rfl)
    (fun _ _ _ h => h.elim)
    (fun hf => by rw [v72]; exact h (hf.sd 0 true [.c (.sl 8 a0), .c (.sl 8 a1)] 0 (.sl 8 a0) (by kernel_rfl) (by kernel_rfl)) (hf.sd 0 true [.c (.sl 8 a0), .c (.sl 8 a1)] 1 (.sl 8 a1) (by kernel_rfl) (by kernel_rfl)) (hf.sd 1 true [.c (.sl 8 b0), .c (.sl 8 b1)] 0 (.sl 8 b0) (by kernel_rfl) (by kernel_rfl)) (hf.sd 1 true [.c (.sl 8 b0), .c (.sl 8 b1)] 1 (.sl 8 b1) (by kernel_rfl) (by kernel_rfl)) )

noncomputable def cx25 : Cx := { P := Try.prog, sg := fun i => (alook [(72, sg72), (25, sg25)] i).getD ⟨[], []⟩, mv := fun i => (alook [] i).getD [], head := fun i => (alook [(4, ⟨3000, 3, [⟨0, [some (87, 2, 48)]⟩, ⟨1, [some (87, 2, 48)]⟩, ⟨5, [none]⟩]⟩)] i).getD ⟨0, 0, []⟩, ord := fun i => (alook [(6, [0, 1, 2, 3, 4, 5, 6, 7, 8, 9])] i).getD [] }
noncomputable def st25_4 (a : List (List D)) (b : List (List D)) (n5 : Int) : St := (St.of [(5, .v false [.c (.int .i64 n5)]), (1, .v false [.c (.sl 48 b)]), (0, .v false [.c (.sl 48 a)])] [] [] 3064 27)
def q25 (a : List (List D)) (b : List (List D))  (J4 : Int → Prop) (R : Bool → Prop) : Prop :=
  ((((↑(List.length a) : Int) != (↑(List.length b) : Int)) = true → R false) ∧
  (((↑(List.length a) : Int) != (↑(List.length b) : Int)) = false → J4 (0 : Int)))
theorem v25 (a : List (List D)) (b : List (List D))  (J : List Item → St → Prop) (R : Bool → Prop) : wpt cx25 J (fin Try.prog Try.f25.results.toList sg25 R) 100000 [.code (Try.f25.body.getD .skip)] (initSt [.val false [.c (.sl 48 a)], .val false [.c (.sl 48 b)]] 27) = q25 a b  (fun n5 => J (td (Try.f25.body.getD .skip) 4) (st25_4 a b n5)) R := by kernel_rfl
def q25_4 (a : List (List D)) (b : List (List D)) (n5 : Int) (J4 : Int → Prop) (R : Bool → Prop) : Prop :=
  ((decide (n5 < (↑(List.length a) : Int)) = true → (((0 : Int) ≤ n5 ∧ n5 < (↑(List.length a) : Int) ∧ List.length (List.getD a (Int.toNat n5) []) = (2 : Nat)) ∧
  (∃ xs, (∃ xs1, ((List.take (2 : Nat) (List.drop (0 : Nat) (List.getD a (Int.toNat n5) [])) = [D.sl (8 : Nat) xs, D.sl (8 : Nat) xs1]) ∧
  (((0 : Int) ≤ n5 ∧ n5 < (↑(List.length b) : Int) ∧ List.length (List.getD b (Int.toNat n5) []) = (2 : Nat)) ∧
  (∃ xs2, (∃ xs3, ((List.take (2 : Nat) (List.drop (0 : Nat) (List.getD b (Int.toNat n5) [])) = [D.sl (8 : Nat) xs2, D.sl (8 : Nat) xs3]) ∧
  C Try.prog 72 [.val true [.c (.sl 8 xs), .c (.sl 8 xs1)], .val true [.c (.sl 8 xs2), .c (.sl 8 xs3)]] sg72 (fun b1 => (((!b1) = true → R false) ∧
  ((!b1) = false → J4 (IntKind.wrap IntKind.i64 (n5 + (1 : Int))))))))))))))) ∧
  (decide (n5 < (↑(List.length a) : Int)) = false → R true))
theorem v25_4 (a : List (List D)) (b : List (List D)) (n5 : Int) (J : List Item → St → Prop) (R : Bool → Prop) : wpt cx25 J (fin Try.prog Try.f25.results.toList sg25 R) 100000 (td (Try.f25.body.getD .skip) 4) (st25_4 a b n5) = q25_4 a b n5 (fun n5 => J (td (Try.f25.body.getD .skip) 4) (st25_4 a b n5)) R := by kernel_rfl
theorem r25 (a : List (List D)) (b : List (List D)) (R : Bool → Prop) (I4 : Nat → Int → Prop)
    (h : DFact (.sl 48 a) → DFact (.sl 48 b) → ∀ (J4 : Int → Prop), (∀ m n5', I4 m n5' → J4 n5') → q25 a b J4 R)
    (h4 : ∀ x (n5 : Int), I4 x n5 → DFact (.sl 48 b) → DFact (.sl 48 a) → ∀ (J4 : Int → Prop), (∀ m n5', m < x → I4 m n5' → J4 n5') → q25_4 a b n5 J4 R) :
    C Try.prog 25 [.val false [.c (.sl 48 a)], .val false [.c (.sl 48 b)]] sg25 R :=
  C_rule (cx := cx25) (P := Try.prog) (f := 25) (fn := Try.f25) (c := (Try.f25.body.getD .skip)) (args := [.val false [.c (.sl 48 a)], .val false [.c (.sl 48 b)]]) (sg := sg25) (rv := Try.f25.results.toList) (N := 27) (R := R) (μ := Nat) (lt := (· < ·)) Nat.lt_wfRel.wf (fun m td st => (∃ (n5 : Int), td = _root_.Go.Gl.td (Try.f25.body.getD .skip) 4 ∧ st = st25_4 a b n5 ∧ I4 m n5)) (by kernel_rfl) (by kernel_rfl) Try.func25 (by kernel_rfl) (by kernel_rfl) (by kernel_rfl) (by kernel_rfl) (by kernel_rfl)
    (fun x td st h hf => by
      obtain ⟨n5, rfl, rfl, hi⟩ := h
      rw [v25_4]
      exact h4 x n5 hi (hf.sd 1 false [.c (.sl 48 b)] 0 (.sl 48 b) (by kernel_rfl) (by kernel_rfl)) (hf.sd 0 false [.c (.sl 48 a)] 0 (.sl 48 a) (by kernel_rfl) (by kernel_rfl)) _ (fun m n5 hm hi => ⟨m, hm, ⟨n5, rfl, rfl, hi⟩⟩))
    (fun hf => by rw [v25]; exact h (hf.sd 0 false [.c (.sl 48 a)] 0 (.sl 48 a) (by kernel_rfl) (by kernel_rfl)) (hf.sd 1 false [.c (.sl 48 b)] 0 (.sl 48 b) (by kernel_rfl) (by kernel_rfl)) _ (fun m n5 hi => ⟨m, ⟨n5, rfl, rfl, hi⟩⟩))

noncomputable def cx5 : Cx := { P := Try.prog, sg := fun i => (alook [(21, sg21), (23, sg23), (22, sg22), (24, sg24), (25, sg25), (5, sg5)] i).getD ⟨[], []⟩, mv := fun i => (alook [] i).getD [], head := fun i => (alook [] i).getD ⟨0, 0, []⟩, ord := fun i => (alook [] i).getD [] }
def q5 (a : List (List D)) (b : List (List D))   (R : Bool → Prop) : Prop :=
  C Try.prog 21 [.val false [.c (.sl 48 a)], .val false [.c (.int .i64 (1048576 : Int))]] sg21 (fun n => ((decide (n < (0 : Int)) = true → R true) ∧
  (decide (n < (0 : Int)) = false → C Try.prog 21 [.val false [.c (.sl 48 b)], .val false [.c (.int .i64 n)]] sg21 (fun n1 => ((decide (n1 < (0 : Int)) = true → R true) ∧
  (decide (n1 < (0 : Int)) = false → C Try.prog 23 [.val false [.c (.sl 48 a)]] sg23 (fun xs => C Try.prog 23 [.val false [.c (.sl 48 b)]] sg23 (fun xs1 => C Try.prog 22 [.val false [.c (.sl 48 xs)], .val false [.c (.sl 48 xs1)]] sg22 (fun b1 => C Try.prog 23 [.val false [.c (.sl 48 a)]] sg23 (fun xs2 => C Try.prog 23 [.val false [.c (.sl 48 b)]] sg23 (fun xs3 => C Try.prog 24 [.val false [.c (.sl 48 xs2)], .val false [.c (.sl 48 xs3)]] sg24 (fun b2 => (((b2 != b1) = true → R false) ∧
  ((b2 != b1) = false → C Try.prog 23 [.val false [.c (.sl 48 a)]] sg23 (fun xs4 => C Try.prog 25 [.val false [.c (.sl 48 xs2)], .val false [.c (.sl 48 xs4)]] sg25 (fun b3 => (((!b3) = true → R false) ∧
  ((!b3) = false → C Try.prog 23 [.val false [.c (.sl 48 b)]] sg23 (fun xs5 => C Try.prog 25 [.val false [.c (.sl 48 xs3)], .val false [.c (.sl 48 xs5)]] sg25 (fun b4 => (((!b4) = true → R false) ∧
  ((!b4) = false → R true))))))))))))))))))))))
theorem v5 (a : List (List D)) (b : List (List D))  (J : List Item → St → Prop) (R : Bool → Prop) : wpt cx5 J (fin Try.prog Try.f5.results.toList sg5 R) 100000 [.code (Try.f5.body.getD .skip)] (initSt [.val false [.c (.sl 48 a)], .val false [.c (.sl 48 b)]] 45) = q5 a b   R := by kernel_rfl
theorem r5 (a : List (List D)) (b : List (List D)) (R : Bool → Prop) 
    (h : DFact (.sl 48 a) → DFact (.sl 48 b) → q5 a b  R) :
    C Try.prog 5 [.val false [.c (.sl 48 a)], .val false [.c (.sl 48 b)]] sg5 R :=
  C_rule (cx := cx5) (P := Try.prog) (f := 5) (fn := Try.f5) (c := (Try.f5.body.getD .skip)) (args := [.val false [.c (.sl 48 a)], .val false [.c (.sl 48 b)]]) (sg := sg5) (rv := Try.f5.results.toList) (N := 45) (R := R) (μ := Nat) (lt := (· < ·)) Nat.lt_wfRel.wf (fun m td st => False) (by kernel_rfl) (by kernel_rfl) Try.func5 (by kernel_rfl) (by kernel_rfl) (by kernel_rfl) (by kernel_rfl) (by kernel_rfl)
    (fun _ _ _ h => h.elim)
    (fun hf => by rw [v5]; exact h (hf.sd 0 false [.c (.sl 48 a)] 0 (.sl 48 a) (by kernel_rfl) (by kernel_rfl)) (hf.sd 1 false [.c (.sl 48 b)] 0 (.sl 48 b) (by kernel_rfl) (by kernel_rfl)) )

end Go.Gl
