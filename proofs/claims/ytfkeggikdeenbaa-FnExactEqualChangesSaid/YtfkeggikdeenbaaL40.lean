/- An argument that is read as data by the law's own words is data in the logic's words. -/
import Derived.Test.YtfkeggikdeenbaaL39
import Derived.ShutString
set_option linter.unusedVariables false
set_option linter.unusedSimpArgs false
namespace Go.Gl
open Go.RowKit Go.ChangeShapes

/-- The kinds of a struct's cells; each field lies behind the ones before it. -/
def layF2 (P : Program) (lay : TypeId → Option (List CK)) : Nat → List Field → Option (List CK)
  | _, [] => some []
  | o, f :: fs => bif Nat.beq f.offset o then match lay f.type with
    | some a => bif Nat.beq (P.cellsOf f.type) a.length then match layF2 P lay (o + a.length) fs with
      | some b => some (a ++ b)
      | none => none
      else none
    | none => none
    else none

def lay2 (P : Program) : Nat → TypeId → Option (List CK)
  | 0, _ => none
  | n + 1, T => match P.underlying T with
    | some (.int k) => some [.int k]
    | some .bool => some [.bool]
    | some .string => some [.str]
    | some (.slice E) => some [.sl E (P.cellsOf E) (P.bytesOf E)]
    | some (.struct fs) => layF2 P (lay2 P n) 0 fs.toList
    | _ => none

def elemOk (S : List TypeId) : CK → Bool
  | .sl E _ _ => S.elem E
  | _ => true

/-- Are these types whose slices' elements are among them? -/
def closedS (P : Program) (S : List TypeId) : Bool := S.all fun T => match lay2 P 8 T with
  | some ks => Nat.beq (P.cellsOf T) ks.length && (Nat.blt 0 ks.length && ks.all (elemOk S))
  | none => false

/-- A datum of a kind. -/
inductive TD (P : Program) : CK → D → Prop
  | int {k : IntKind} {n : Int} (h : (Lit.int k n).wf = true) : TD P (.int k) (.int k n)
  | bool {b : Bool} : TD P .bool (.bool b)
  | str {s : List UInt8} (h : s.length ≤ maxLen) : TD P .str (.str s)
  | sl {T e B : Nat} {xs : List (List D)} {ks : List CK} (hk : lay2 P 8 T = some ks) (hl : ∀ x ∈ xs, x.length = ks.length)
      (h : ∀ x ∈ xs, ∀ (j : Nat) (k : CK) (d : D), ks[j]? = some k → x[j]? = some d → TD P k d) : TD P (.sl T e B) (.sl B xs)

theorem list_of {α : Type} {Q : Nat → α → Prop} : ∀ (n : Nat), (∀ i, i < n → ∃ x, Q i x) → ∃ xs : List α, xs.length = n ∧ ∀ i x, xs[i]? = some x → Q i x
  | 0, _ => ⟨[], rfl, fun i x h => by simp at h⟩
  | n + 1, h => by
    obtain ⟨xs, h1, h2⟩ := list_of n fun i hi => h i (by omega)
    obtain ⟨y, hy⟩ := h n (by omega)
    refine ⟨xs ++ [y], by simp [h1], fun i x hi => ?_⟩
    by_cases e : i < xs.length
    · rw [List.getElem?_append_left e] at hi; exact h2 i x hi
    · rw [List.getElem?_append_right (by omega)] at hi
      have : i - xs.length = 0 := by
        have := (List.getElem?_eq_some_iff.1 hi).1
        simp at this; omega
      rw [this] at hi
      obtain rfl : y = x := by simpa using hi
      have : i = n := by omega
      rw [this]; exact hy

theorem cells?_get {w : World} {base : Nat} {a : Addr} {n : Nat} {vs : List Value} (h : w.cells? base a n = some vs) : vs.length = n ∧ ∀ i, i < n → w.cell? (a.add i) = vs[i]? := by
  unfold World.cells? at h
  split at h
  · exact ⟨by simpa using mapM_some_length h, fun i hi => mapM_some_get h i i (by simp [hi])⟩
  · cases h

theorem cell_block {w : World} {a : Addr} {v : Value} (h : w.cell? a = some v) : a.block < w.heap.size := by
  unfold World.cell? at h
  split at h
  · rename_i hh
    exact (Array.getElem?_eq_some_iff.1 hh).1
  · cases h

def inHeap (w : World) : CS := fun b _ => b < w.heap.size

section
variable {H : Type} {enc : TypeId × Value → H} {P : Program} {w : World} {base : Nat} {spare : Nat → Bool} {held : Bool} {S : List TypeId}

/-- What reading at a fuel gives. -/
def Reads (enc : TypeId × Value → H) (P : Program) (w : World) (base : Nat) (spare : Nat → Bool) (held : Bool) (S : List TypeId) (fuel : Nat) : Prop :=
  ∀ (n : Nat) (T : TypeId) (ks : List CK) (cs : List Value) (x : DataW H × List MemPlace), lay2 P n T = some ks → P.cellsOf T = ks.length → ks.all (elemOk S) = true → DataW.trod enc P w base spare held fuel T cs = some x →
    (x.1.weights P T).all (· ≤ reachBytes) = true → ∃ ds : List D, ds.length = ks.length ∧ cs.length = ks.length ∧ ∀ (j : Nat) (k : CK), ks[j]? = some k → ∃ d v, ds[j]? = some d ∧ cs[j]? = some v ∧ RepD w (inHeap w) d v ∧ TD P k d

theorem reads_fields {fuel n : Nat} (ih : Reads enc P w base spare held S fuel) {cs : List Value} : ∀ {fs : List Field} {o : Nat} {ks : List CK} {xs : List (DataW H × List MemPlace)}, layF2 P (lay2 P n) o fs = some ks → ks.all (elemOk S) = true → xs.length = fs.length →
    (∀ (i : Nat) (f : Field), fs[i]? = some f → DataW.trod enc P w base spare held fuel f.type (List.take (P.cellsOf f.type) (List.drop f.offset cs)) = xs[i]?) → (DataW.weightsEach P (fs.map (·.type)) (xs.map (·.1))).all (· ≤ reachBytes) = true →
    ∃ ds : List D, ds.length = ks.length ∧ ∀ (j : Nat) (k : CK), ks[j]? = some k → ∃ d v, ds[j]? = some d ∧ cs[o + j]? = some v ∧ RepD w (inHeap w) d v ∧ TD P k d
  | [], o, ks, xs, hl, _, _, _, _ => by
    obtain rfl : [] = ks := by simpa [layF2] using hl
    exact ⟨[], rfl, fun j k h => by simp at h⟩
  | f :: fs, o, ks, [], hl, _, hx, _, _ => by simp at hx
  | f :: fs, o, ks, x :: xs, hl, ho, hx, ht, hw => by
    unfold layF2 at hl
    obtain ⟨h1, hl⟩ := bif_some hl
    obtain rfl := Nat.eq_of_beq_eq_true h1
    split at hl
    case h_2 => cases hl
    rename_i a ha
    obtain ⟨h2, hl⟩ := bif_some hl
    have h2 := Nat.eq_of_beq_eq_true h2
    split at hl
    case h_2 => cases hl
    rename_i b hb
    obtain rfl := Option.some.inj hl
    rw [List.all_append, Bool.and_eq_true] at ho
    have hw1 : ((DataW.weights P f.type x.1) ++ DataW.weightsEach P (fs.map (·.type)) (xs.map (·.1))).all (· ≤ reachBytes) = true := by
      have := hw
      simp only [List.map_cons] at this
      unfold DataW.weightsEach at this
      exact this
    rw [List.all_append, Bool.and_eq_true] at hw1
    obtain ⟨d1, l1, c1, r1⟩ := ih n f.type a _ x ha h2 ho.1 (ht 0 f rfl) hw1.1
    obtain ⟨d2, l2, r2⟩ := reads_fields ih (fs := fs) hb ho.2 (by simpa using hx) (fun i g hg => ht (i + 1) g hg) hw1.2
    refine ⟨d1 ++ d2, by simp [l1, l2], fun j k hj => ?_⟩
    by_cases e : j < a.length
    · rw [List.getElem?_append_left e] at hj
      obtain ⟨d, v, q1, q2, q3, q4⟩ := r1 j k hj
      refine ⟨d, v, by rw [List.getElem?_append_left (by omega)]; exact q1, ?_, q3, q4⟩
      rw [List.getElem?_take] at q2
      split at q2
      · rw [List.getElem?_drop] at q2; exact q2
      · cases q2
    · rw [List.getElem?_append_right (by omega)] at hj
      obtain ⟨d, v, q1, q2, q3, q4⟩ := r2 (j - a.length) k hj
      refine ⟨d, v, by rw [List.getElem?_append_right (by omega), l1]; exact q1, ?_, q3, q4⟩
      rw [← q2]; congr 1; omega

theorem weightsAll_mem {E : TypeId} : ∀ {l : List (DataW H)} (h : (DataW.weightsAll P E l).all (· ≤ reachBytes) = true), ∀ d ∈ l, (d.weights P E).all (· ≤ reachBytes) = true
  | [], _, d, hd => by cases hd
  | y :: l, h, d, hd => by
    unfold DataW.weightsAll at h
    rw [List.all_append, Bool.and_eq_true] at h
    rcases List.mem_cons.1 hd with rfl | hd
    · exact h.1
    · exact weightsAll_mem h.2 d hd

theorem trod_reads (hS : closedS P S = true) : ∀ fuel, Reads enc P w base spare held S fuel
  | 0 => fun n T ks cs x _ _ _ h _ => by simp [DataW.trod] at h
  | fuel + 1 => by
    intro n T ks cs x hl hc ho ht hw
    cases n with
    | zero => simp [lay2] at hl
    | succ n =>
      unfold lay2 at hl
      split at hl
      · rename_i k hu
        obtain rfl := Option.some.inj hl
        obtain ⟨m, rfl, rfl, hwf⟩ := DataW.trod_int hu ht
        refine ⟨[.int k m], rfl, rfl, fun j k' hj => ?_⟩
        cases j with
        | zero => obtain rfl : CK.int k = k' := by simpa using hj
                  exact ⟨_, _, rfl, rfl, .int hwf, .int hwf⟩
        | succ j => simp at hj
      · rename_i hu
        obtain rfl := Option.some.inj hl
        obtain ⟨m, rfl, rfl⟩ := DataW.trod_bool hu ht
        refine ⟨[.bool m], rfl, rfl, fun j k' hj => ?_⟩
        cases j with
        | zero => obtain rfl : CK.bool = k' := by simpa using hj
                  exact ⟨_, _, rfl, rfl, .bool, .bool⟩
        | succ j => simp at hj
      · rename_i hu
        obtain rfl := Option.some.inj hl
        obtain ⟨s, rfl, rfl, hs⟩ := DataW.trod_string hu ht
        have hs' : s.data.toList.length ≤ maxLen := by rw [Array.length_toList]; exact hs
        refine ⟨[.str s.data.toList], rfl, rfl, fun j k' hj => ?_⟩
        cases j with
        | zero => obtain rfl : CK.str = k' := by simpa using hj
                  exact ⟨_, _, rfl, rfl, RepD.str (s := s.data.toList) hs', .str hs'⟩
        | succ j => simp at hj
      · rename_i E hu
        obtain rfl := Option.some.inj hl
        have hE : S.elem E = true := by simpa [elemOk] using ho
        have hE' : E ∈ S := elem_true hE
        have hS1 := List.all_eq_true.1 hS E hE'
        split at hS1
        case h_2 => cases hS1
        rename_i kE hkE
        simp only [Bool.and_eq_true] at hS1
        have e1 := Nat.eq_of_beq_eq_true hS1.1
        have e2 : 0 < kE.length := Nat.le_of_ble_eq_true hS1.2.1
        have e3 := hS1.2.2
        rcases DataW.trod_slice hu ht with ⟨rfl, rfl⟩ | ⟨a, len, cap, elems, rest, m, hm, rfl, rfl, hb, hlc, hcm, hel, hget, _, _⟩
        · refine ⟨[.sl (P.bytesOf E) []], rfl, rfl, fun j k' hj => ?_⟩
          cases j with
          | zero => obtain rfl : CK.sl E (P.cellsOf E) (P.bytesOf E) = k' := by simpa using hj
                    exact ⟨_, _, rfl, rfl, .nil, .sl hkE (fun _ h => nomatch h) (fun _ h => nomatch h)⟩
          | succ j => simp at hj
        · obtain rfl : fuel = m := by omega
          unfold DataW.weights at hw
          rw [hu] at hw
          simp only [List.all_cons, List.all_append, Bool.and_eq_true, decide_eq_true_eq, List.length_map] at hw
          obtain ⟨hw0, hw1, _⟩ := hw
          have hbytes : len * P.bytesOf E ≤ capB := by
            have : len * P.bytesOf E ≤ (elems.length + rest.length) * P.bytesOf E := Nat.mul_le_mul_right _ (by omega)
            unfold reachBytes at hw0; unfold capB; omega
          have hrow : ∀ i, i < len → ∃ r : List D × List Value, r.1.length = kE.length ∧ r.2.length = kE.length ∧ (∀ j, j < kE.length → w.cell? ((a.add (i * P.cellsOf E)).add j) = r.2[j]?) ∧
              ∀ (j : Nat) (k : CK), kE[j]? = some k → ∃ d v, r.1[j]? = some d ∧ r.2[j]? = some v ∧ RepD w (inHeap w) d v ∧ TD P k d := by
            intro i hi
            have h1 := hget i hi
            cases hcs : w.cells? base (a.add (i * P.cellsOf E)) (P.cellsOf E) with
            | none =>
              rw [hcs] at h1
              have : elems[i]? = none := h1.symm
              rw [List.getElem?_eq_none_iff] at this
              omega
            | some vs =>
              rw [hcs] at h1
              have h2 : elems[i]? = some elems[i] := List.getElem?_eq_getElem (by omega)
              rw [h2] at h1
              obtain ⟨c1, c2⟩ := cells?_get hcs
              obtain ⟨ds, q1, q2, q3⟩ := trod_reads hS fuel 8 E kE vs _ hkE e1 e3 h1 (weightsAll_mem hw1 _ (List.mem_map_of_mem (List.getElem_mem _)))
              exact ⟨(ds, vs), q1, q2, fun j hj => c2 j (by omega), q3⟩
          obtain ⟨rs, hrl, hrs⟩ := list_of len hrow
          refine ⟨[.sl (P.bytesOf E) (rs.map (·.1))], rfl, rfl, fun j k' hj => ?_⟩
          cases j with
          | succ j => simp at hj
          | zero =>
            obtain rfl : CK.sl E (P.cellsOf E) (P.bytesOf E) = k' := by simpa using hj
            refine ⟨_, _, rfl, rfl, ?_, ?_⟩
            · cases hlen : len with
              | zero =>
                obtain rfl : rs = [] := List.eq_nil_of_length_eq_zero (by omega)
                exact .nil
              | succ len' =>
                have hsp : a.spot = none := by
                  obtain ⟨r, r1, r2, r3, r4⟩ := hrow 0 (by omega)
                  have g := r3 0 e2
                  rw [List.getElem?_eq_getElem (by omega)] at g
                  have := World.cell?_spot g
                  rw [Nat.zero_mul] at this
                  exact this
                have hadd : ∀ i j, (a.add (i * P.cellsOf E)).add j = ⟨a.block, a.off + (i * kE.length + j), none⟩ := by
                  intro i j
                  obtain ⟨ab, ao, asp⟩ := a
                  simp only at hsp
                  subst hsp
                  rw [add_none, add_none, e1, Nat.add_assoc]
                have hcell : ∀ (i j : Nat) (x : List D) (d : D), (rs.map (·.1))[i]? = some x → x[j]? = some d → ∃ v, w.cell? ⟨a.block, a.off + (i * kE.length + j), none⟩ = some v ∧ RepD w (inHeap w) d v := by
                  intro i j x d hx hd
                  rw [List.getElem?_map] at hx
                  cases hr : rs[i]? with
                  | none => rw [hr] at hx; cases hx
                  | some r =>
                    rw [hr] at hx
                    obtain rfl : r.1 = x := by simpa using hx
                    obtain ⟨r1, r2, r3, r4⟩ := hrs i r hr
                    have hjl : j < kE.length := by have := (List.getElem?_eq_some_iff.1 hd).1; omega
                    obtain ⟨d', v, q1, q2, q3, q4⟩ := r4 j _ (List.getElem?_eq_getElem hjl)
                    rw [hd] at q1
                    obtain rfl := Option.some.inj q1
                    refine ⟨v, ?_, q3⟩
                    rw [← hadd, r3 j hjl]; exact q2
                have hx : ∀ (i : Nat) (x : List D), (rs.map (·.1))[i]? = some x → x.length = kE.length := by
                  intro i x hx
                  rw [List.getElem?_map] at hx
                  cases hr : rs[i]? with
                  | none => rw [hr] at hx; cases hx
                  | some r =>
                    rw [hr] at hx
                    obtain rfl : r.1 = x := by simpa using hx
                    exact (hrs i r hr).1
                have hll : (rs.map (·.1)).length = len' + 1 := by rw [List.length_map]; omega
                have goal := RepD.sl (w := w) (K := inHeap w) (B := P.bytesOf E) (xs := rs.map (·.1)) (ad := a) (cap := cap) kE.length (fun i j => (w.cell? ⟨a.block, a.off + (i * kE.length + j), none⟩).getD undef) hsp (by rw [hll]; rw [hlen] at hbytes; exact hbytes) (by rw [hll]; omega) (by rw [hll]; omega) hx
                  (fun i j x d h1 h2 => by
                    obtain ⟨v, q1, q2⟩ := hcell i j x d h1 h2
                    exact ⟨cell_block (a := ⟨a.block, a.off + (i * kE.length + j), none⟩) q1, by rw [q1]; rfl⟩) (fun i j x d h1 h2 => by
                    obtain ⟨v, q1, q2⟩ := hcell i j x d h1 h2
                    rw [q1]; exact q2)
                rw [hll] at goal
                exact goal
            · refine .sl hkE (fun x hx => ?_) (fun x hx j k d hk hd => ?_)
              · obtain ⟨r, hr, rfl⟩ := List.mem_map.1 hx
                obtain ⟨i, hi⟩ := List.mem_iff_getElem?.1 hr
                exact (hrs i r hi).1
              · obtain ⟨r, hr, rfl⟩ := List.mem_map.1 hx
                obtain ⟨i, hi⟩ := List.mem_iff_getElem?.1 hr
                obtain ⟨r1, r2, r3, r4⟩ := hrs i r hi
                obtain ⟨d', v, q1, q2, q3, q4⟩ := r4 j k hk
                rw [hd] at q1
                obtain rfl := Option.some.inj q1
                exact q4
      · rename_i fs hu
        obtain ⟨xs, m, hm, rfl, hcl, hxl, hget⟩ := DataW.trod_struct hu ht
        obtain rfl : fuel = m := by omega
        unfold DataW.weights at hw
        rw [hu] at hw
        obtain ⟨ds, q1, q2⟩ := reads_fields (trod_reads hS fuel) (fs := fs.toList) hl ho (by simpa using hxl) (fun i f hf => hget i f (by simpa using hf)) hw
        exact ⟨ds, q1, by omega, fun j k hj => by have := q2 j k hj; rwa [Nat.zero_add] at this⟩
      · cases hl

end
end Go.Gl
