/- What a call is handed. -/
import Derived.Test.YtfkeggikdeenbaaL25
set_option linter.unusedVariables false
set_option linter.unusedSimpArgs false
namespace Go.Gl
open Go.RowKit

/-- Things that are handed over. -/
inductive It where
  | no
  | tk (t : Nat)
  | bx (b : Nat)

def itF (en : En) : It → CS
  | .no => fun _ _ => False
  | .tk t => en.FT t
  | .bx b => blk (en.FB b)

def itT : It → Option Nat
  | .tk t => some t
  | _ => none

def itB : It → Option Nat
  | .bx b => some b
  | _ => none

theorem itT_tk (t : Nat) : itT (.tk t) = some t := rfl
theorem itT_bx (t : Nat) : itT (.bx t) = none := rfl
theorem itB_tk (t : Nat) : itB (.tk t) = none := rfl
theorem itB_bx (t : Nat) : itB (.bx t) = some t := rfl

section
variable {P : Program} {en : En} {st : St} {Fr : Nat → Prop} {a : Act} {w w' w0 : World} {W X : CS} {K0 : Kb} {o : Oper} {f : Nat}

theorem cellsRep_inv {c : Cell} {cs : List Cell} {us : List Value} (h : CellsRep w en (c :: cs) us.toArray) : ∃ u us', us = u :: us' ∧ CellRep w en c u ∧ CellsRep w en cs us'.toArray := by
  cases us with
  | nil => have := h.1; simp at this
  | cons u us =>
    refine ⟨u, us, rfl, ?_, by have := h.1; simpa using this, fun j d hj => ?_⟩
    · obtain ⟨v, h1, h2⟩ := h.2 0 c rfl
      obtain rfl : u = v := by simpa using h1
      exact h2
    · obtain ⟨v, h1, h2⟩ := h.2 (j + 1) d hj
      exact ⟨v, by simpa using h1, h2⟩

theorem cellsRep_nil_inv {us : List Value} (h : CellsRep w en [] us.toArray) : us = [] := by
  have := h.1
  simpa using this

theorem cellsToA_spec {tok : Nat → Option Tok} {mv : Bool} : ∀ {ks : List CK} {cs : List Cell} {us : List Value} {as : List ACell} {g l : List Nat}, cellsToA tok mv ks cs = some (as, g, l) → CellsRep w en cs us.toArray →
    (∀ t ∈ l, ∀ q, tok t = some q → RepD w en.K (.sl q.B q.xs) (en.VT t)) → (∀ t ∈ g, ∀ q, tok t = some q → TokRep w en.K q (en.VT t) (en.FT t)) →
    ∃ its : List It, ARepL w en.K as us (its.map (itF en)) ∧ its.filterMap itT = g ∧ its.filterMap itB = []
  | [], [], us, as, g, l, h, hc, hl, hg => by
    obtain ⟨rfl, rfl, rfl⟩ : [] = as ∧ [] = g ∧ [] = l := by simpa [cellsToA] using h
    rw [cellsRep_nil_inv hc]
    exact ⟨[], .nil, rfl, rfl⟩
  | k :: ks, c :: cs, us, as, g, l, h, hc, hl, hg => by
    obtain ⟨u, us, rfl, hcu, hcs⟩ := cellsRep_inv hc
    unfold cellsToA at h
    cases h1 : c.toA tok mv k with
    | none => rw [h1] at h; cases h
    | some x =>
      obtain ⟨a1, g1, l1⟩ := x
      cases h2 : cellsToA tok mv ks cs with
      | none => rw [h1, h2] at h; cases h
      | some y =>
        obtain ⟨as2, g2, l2⟩ := y
        rw [h1, h2] at h
        obtain ⟨rfl, rfl, rfl⟩ : a1 :: as2 = as ∧ g1 ++ g2 = g ∧ l1 ++ l2 = l := by simpa using h
        obtain ⟨its, q1, q2, q3⟩ := cellsToA_spec h2 hcs (fun t ht => hl t (List.mem_append_right _ ht)) fun t ht => hg t (List.mem_append_right _ ht)
        have done : ∀ it : It, ARep w en.K a1 u (itF en it) → [it].filterMap itT = g1 → itB it = none → ∃ its : List It, ARepL w en.K (a1 :: as2) (u :: us) (its.map (itF en)) ∧ its.filterMap itT = g1 ++ g2 ∧ its.filterMap itB = [] := by
          intro it h1 h2 h3
          refine ⟨it :: its, .cons h1 q1, ?_, ?_⟩
          · rw [show it :: its = [it] ++ its from rfl, List.filterMap_append, h2, q2]
          · simp only [List.filterMap_cons, h3, q3]
        cases c with
        | any => cases k <;> cases h1
        | c d =>
          obtain ⟨rfl, rfl, rfl⟩ : ACell.c d = a1 ∧ [] = g1 ∧ [] = l1 := by cases k <;> simpa [Cell.toA] using h1
          cases hcu with
          | c hcu => exact done .no (.c hcu) rfl rfl
        | nil =>
          cases hcu
          cases mv with
          | true =>
            obtain ⟨rfl, rfl, rfl⟩ : ACell.nil = a1 ∧ [] = g1 ∧ [] = l1 := by cases k <;> simpa [Cell.toA] using h1
            exact done .no .nil rfl rfl
          | false =>
            cases k with
            | sl T e B =>
              obtain ⟨rfl, rfl, rfl⟩ : ACell.c (.sl B []) = a1 ∧ [] = g1 ∧ [] = l1 := by simpa [Cell.toA] using h1
              exact done .no (.c .nil) rfl rfl
            | _ => cases h1
        | tk t =>
          cases hcu
          cases hq : tok t with
          | none => cases k <;> simp [Cell.toA, hq] at h1
          | some q =>
            cases mv with
            | true =>
              obtain ⟨rfl, rfl, rfl⟩ : ACell.own q = a1 ∧ [t] = g1 ∧ [] = l1 := by cases k <;> simpa [Cell.toA, hq] using h1
              exact done (.tk t) (.own (hg t (by simp) q hq)) rfl rfl
            | false =>
              obtain ⟨rfl, rfl, rfl⟩ : ACell.c (.sl q.B q.xs) = a1 ∧ [] = g1 ∧ [t] = l1 := by cases k <;> simpa [Cell.toA, hq] using h1
              exact done .no (.c (hl t (by simp) q hq)) rfl rfl
  | [], _ :: _, _, _, _, _, h, _, _, _ => by cases h
  | _ :: _, [], _, _, _, _, h, _, _, _ => by cases h

theorem boxToA_spec {tok : Nat → Option Tok} : ∀ {cs : List Cell} {us : List Value} {as : List ACell} {g : List Nat}, boxToA tok cs = some (as, g) → CellsRep w en cs us.toArray →
    (∀ t ∈ g, ∀ q, tok t = some q → TokRep w en.K q (en.VT t) (en.FT t)) → ∃ its : List It, ARepL w en.K as us (its.map (itF en)) ∧ its.filterMap itT = g ∧ its.filterMap itB = []
  | [], us, as, g, h, hc, hg => by
    obtain ⟨rfl, rfl⟩ : [] = as ∧ [] = g := by simpa [boxToA] using h
    rw [cellsRep_nil_inv hc]
    exact ⟨[], .nil, rfl, rfl⟩
  | c :: cs, us, as, g, h, hc, hg => by
    obtain ⟨u, us, rfl, hcu, hcs⟩ := cellsRep_inv hc
    have plain : ∀ {c' : ACell}, ((boxToA tok cs).map fun x => (c' :: x.1, x.2)) = some (as, g) → ARep w en.K c' u (fun _ _ => False) → ∃ its : List It, ARepL w en.K as (u :: us) (its.map (itF en)) ∧ its.filterMap itT = g ∧ its.filterMap itB = [] := by
      intro c' h h1
      cases h2 : boxToA tok cs with
      | none => rw [h2] at h; cases h
      | some y =>
        obtain ⟨as2, g2⟩ := y
        rw [h2] at h
        obtain ⟨rfl, rfl⟩ : c' :: as2 = as ∧ g2 = g := by simpa using h
        obtain ⟨its, q1, q2, q3⟩ := boxToA_spec h2 hcs hg
        exact ⟨.no :: its, .cons h1 q1, q2, q3⟩
    cases c with
    | any => cases hcu with | any hh => exact plain h (.any hh)
    | c d => cases hcu with | c hh => exact plain h (.c hh)
    | nil => cases hcu; exact plain h .nil
    | tk t =>
      cases hcu
      unfold boxToA at h
      cases hq : tok t with
      | none => rw [hq] at h; cases h
      | some q =>
        cases h2 : boxToA tok cs with
        | none => rw [hq, h2] at h; cases h
        | some y =>
          obtain ⟨as2, g2⟩ := y
          rw [hq, h2] at h
          obtain ⟨rfl, rfl⟩ : ACell.own q :: as2 = as ∧ t :: g2 = g := by simpa using h
          obtain ⟨its, q1, q2, q3⟩ := boxToA_spec h2 hcs fun t' ht => hg t' (List.mem_cons_of_mem _ ht)
          exact ⟨.tk t :: its, .cons (.own (hg t (by simp) q hq)) q1, by simp only [List.cons_append, List.filterMap_cons, List.filterMap_append, List.nil_append, itT_tk, itT_bx, q2], by simp only [List.cons_append, List.filterMap_cons, List.filterMap_append, List.nil_append, itB_tk, itB_bx, q3]⟩

theorem boxesToA_spec {tok : Nat → Option Tok} {box : Nat → Option (List Cell)} (hbox : ∀ b cs, box b = some cs → BoxRep w en (en.FB b) cs) : ∀ {bs : List Nat} {xs : List (List ACell)} {g : List Nat}, boxesToA box tok bs = some (xs, g) →
    (∀ t ∈ g, ∀ q, tok t = some q → TokRep w en.K q (en.VT t) (en.FT t)) → ∃ its : List It, BRepL w en.K xs (bs.map en.FB) (its.map (itF en)) ∧ its.filterMap itT = g ∧ its.filterMap itB = bs
  | [], xs, g, h, hg => by
    obtain ⟨rfl, rfl⟩ : [] = xs ∧ [] = g := by simpa [boxesToA] using h
    exact ⟨[], .nil, rfl, rfl⟩
  | b :: bs, xs, g, h, hg => by
    unfold boxesToA at h
    cases h1 : box b with
    | none => rw [h1] at h; cases h
    | some cs =>
      rw [h1] at h
      simp only at h
      cases h2 : boxToA tok cs with
      | none => rw [h2] at h; cases h
      | some y =>
        obtain ⟨as, g1⟩ := y
        cases h3 : boxesToA box tok bs with
        | none => rw [h2, h3] at h; cases h
        | some z =>
          obtain ⟨ys, g2⟩ := z
          rw [h2, h3] at h
          obtain ⟨rfl, rfl⟩ : as :: ys = xs ∧ g1 ++ g2 = g := by simpa using h
          obtain ⟨arr, T, hh, hc⟩ := hbox b cs h1
          obtain ⟨its1, p1, p2, p3⟩ := boxToA_spec h2 (us := arr.toList) (by simpa using hc) fun t ht => hg t (List.mem_append_left _ ht)
          obtain ⟨its2, q1, q2, q3⟩ := boxesToA_spec hbox h3 fun t ht => hg t (List.mem_append_right _ ht)
          refine ⟨.bx b :: its1 ++ its2, ?_, by simp only [List.cons_append, List.filterMap_cons, List.filterMap_append, List.nil_append, itT_tk, itT_bx, p2, q2], by simp only [List.cons_append, List.filterMap_cons, List.filterMap_append, List.nil_append, itB_tk, itB_bx, p3, q3]⟩
          have := BRepL.cons hh p1 q1
          simpa [itF] using this

theorem handArgs_spec {mv : List Nat} {tok0 tok : Nat → Option Tok} {box : Nat → Option (List Cell)} (hbox : ∀ b cs, box b = some cs → BoxRep w en (en.FB b) cs) : ∀ {xs : List (Slot × TypeId)} {vs : List Value} {i : Nat} {h : Handed}, handArgs P mv box tok i xs = some h →
    (xs.length = vs.length ∧ ∀ (j : Nat) (x : Slot × TypeId), xs[j]? = some x → ∃ v, vs[j]? = some v ∧ SlotRep w en tok0 x.1 v) →
    (∀ t ∈ h.lent, ∀ q, tok t = some q → RepD w en.K (.sl q.B q.xs) (en.VT t)) → (∀ t ∈ h.gone, ∀ q, tok t = some q → TokRep w en.K q (en.VT t) (en.FT t)) →
    ∃ its : List It, InRep w en.K h.args vs (h.boxes.map en.FB) (its.map (itF en)) ∧ its.filterMap itT = h.gone ∧ its.filterMap itB = h.boxes
  | [], vs, i, h, hh, hv, hl, hg => by
    obtain rfl : (⟨[], [], [], []⟩ : Handed) = h := by simpa [handArgs] using hh
    obtain rfl : vs = [] := by have := hv.1; simpa using this.symm
    exact ⟨[], .nil, rfl, rfl⟩
  | (s, T) :: xs, vs, i, h, hh, hv, hl, hg => by
    cases vs with
    | nil => have := hv.1; simp at this
    | cons v vs =>
      obtain ⟨v', e, hs⟩ := hv.2 0 (s, T) rfl
      obtain rfl : v = v' := by simpa using e
      have hv2 : xs.length = vs.length ∧ ∀ (j : Nat) (x : Slot × TypeId), xs[j]? = some x → ∃ v, vs[j]? = some v ∧ SlotRep w en tok0 x.1 v := ⟨by have := hv.1; simpa using this, fun j x hj => by
        obtain ⟨u, h1, h2⟩ := hv.2 (j + 1) x hj
        exact ⟨u, by simpa using h1, h2⟩⟩
      unfold handArgs at hh
      cases h1 : handArgs P mv box tok (i + 1) xs with
      | none => rw [h1] at hh; cases hh
      | some h2 =>
        rw [h1] at hh
        simp only at hh
        cases s with
        | v b cs =>
          simp only at hh
          cases hk : layD P T with
          | none => rw [hk] at hh; cases hh
          | some ks =>
            rw [hk] at hh
            simp only at hh
            cases hc : cellsToA tok (mv.elem i) ks cs with
            | none => rw [hc] at hh; cases hh
            | some y =>
              obtain ⟨as, g, l⟩ := y
              rw [hc] at hh
              obtain rfl := Option.some.inj hh
              obtain ⟨its2, q1, q2, q3⟩ := handArgs_spec hbox h1 hv2 (fun t ht => hl t (List.mem_append_right _ ht)) fun t ht => hg t (List.mem_append_right _ ht)
              cases hs with
              | v hs =>
                have key : ∃ its1 : List It, AVal w en.K b as v (its1.map (itF en)) ∧ its1.filterMap itT = g ∧ its1.filterMap itB = [] := by
                  cases hs with
                  | one hs =>
                    rename_i c
                    obtain ⟨its1, p1, p2, p3⟩ := cellsToA_spec (us := [v]) hc (cellsRep_cons hs cellsRep_nil) (fun t ht => hl t (List.mem_append_left _ ht)) fun t ht => hg t (List.mem_append_left _ ht)
                    generalize hfs : its1.map (itF en) = Fs at p1
                    cases p1 with
                    | cons p1 pt =>
                      cases pt
                      exact ⟨its1, by rw [hfs]; exact .one p1, p2, p3⟩
                  | agg hs =>
                    rename_i arr
                    obtain ⟨its1, p1, p2, p3⟩ := cellsToA_spec (us := arr.toList) hc (by simpa using hs) (fun t ht => hl t (List.mem_append_left _ ht)) fun t ht => hg t (List.mem_append_left _ ht)
                    exact ⟨its1, .agg p1, p2, p3⟩
                obtain ⟨its1, p1, p2, p3⟩ := key
                exact ⟨its1 ++ its2, by rw [List.map_append]; exact .val p1 q1, by simp only [List.filterMap_append, p2, q2], by simp only [List.filterMap_append, List.nil_append, p3, q3]⟩
        | lp b off =>
          cases off with
          | succ n => cases hh
          | zero =>
            simp only at hh
            cases hb : box b with
            | none => rw [hb] at hh; cases hh
            | some cs =>
              rw [hb] at hh
              simp only at hh
              cases hc : boxToA tok cs with
              | none => rw [hc] at hh; cases hh
              | some y =>
                obtain ⟨as, g⟩ := y
                rw [hc] at hh
                obtain rfl := Option.some.inj hh
                obtain ⟨its2, q1, q2, q3⟩ := handArgs_spec hbox h1 hv2 hl fun t ht => hg t (List.mem_append_right _ ht)
                obtain ⟨arr, T', hh', hcr⟩ := hbox b cs hb
                obtain ⟨its1, p1, p2, p3⟩ := boxToA_spec hc (us := arr.toList) (by simpa using hcr) fun t ht => hg t (List.mem_append_left _ ht)
                cases hs
                refine ⟨(.bx b :: its1) ++ its2, ?_, by simp only [List.cons_append, List.filterMap_cons, List.filterMap_append, List.nil_append, itT_tk, itT_bx, p2, q2], by simp only [List.cons_append, List.filterMap_cons, List.filterMap_append, List.nil_append, itB_tk, itB_bx, p3, q3]⟩
                have h5 := BRepL.cons hh' p1 .nil
                have := InRep.box h5 q1
                simpa [itF] using this
        | fn f caps =>
          simp only at hh
          cases hc : boxesToA box tok caps with
          | none => rw [hc] at hh; cases hh
          | some y =>
            obtain ⟨bs, g⟩ := y
            rw [hc] at hh
            obtain rfl := Option.some.inj hh
            obtain ⟨its2, q1, q2, q3⟩ := handArgs_spec hbox h1 hv2 hl fun t ht => hg t (List.mem_append_right _ ht)
            obtain ⟨its1, p1, p2, p3⟩ := boxesToA_spec hbox hc fun t ht => hg t (List.mem_append_left _ ht)
            cases hs
            refine ⟨its1 ++ its2, ?_, by simp only [List.filterMap_append, p2, q2], by simp only [List.filterMap_append, List.nil_append, p3, q3]⟩
            have := InRep.fn (f := f) p1 q1
            rw [List.map_append, List.map_append]
            have e : ptrs (caps.map en.FB) = (caps.map fun b => Value.pointer (some ⟨en.FB b, 0, none⟩)).toArray := by
              unfold ptrs; rw [List.map_map]; rfl
            rw [e] at this
            exact this
        | any => cases hh
        | tup _ => cases hh
        | cp _ _ _ => cases hh
        | un _ _ => cases hh
        | ep _ _ _ => cases hh

end
end Go.Gl
