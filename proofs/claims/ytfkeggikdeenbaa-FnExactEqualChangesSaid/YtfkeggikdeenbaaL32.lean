/- Calls elsewhere; two steps swapped. -/
import Derived.Test.YtfkeggikdeenbaaL31
set_option linter.unusedVariables false
set_option linter.unusedSimpArgs false
namespace Go.Gl
open Go.RowKit

theorem pay_abs_mono {ks : List CK} : ∀ {K K' : List D → Prop} {ds : List D}, (∀ ds, K ds → K' ds) → Pay.app ks (Pay.abs ks K) ds → Pay.app ks (Pay.abs ks K') ds := by
  induction ks with
  | nil =>
    intro K K' ds hm h
    cases ds with
    | nil => exact hm _ h
    | cons d ds => exact h.elim
  | cons k ks ih =>
    intro K K' ds hm h
    cases k with
    | int k =>
      cases ds with
      | nil => exact h.elim
      | cons d ds =>
        cases d with
        | int k' n =>
          have h' : (match Nat.beq k.ctorIdx k'.ctorIdx with | true => Pay.app ks (Pay.abs ks fun ds => K (.int k n :: ds)) ds | false => False) := h
          show (match Nat.beq k.ctorIdx k'.ctorIdx with | true => Pay.app ks (Pay.abs ks fun ds => K' (.int k n :: ds)) ds | false => False)
          cases hk : Nat.beq k.ctorIdx k'.ctorIdx with
          | false => rw [hk] at h'; exact h'.elim
          | true => rw [hk] at h'; exact ih (K := fun ds => K (.int k n :: ds)) (K' := fun ds => K' (.int k n :: ds)) (fun ds => hm _) h'
        | _ => exact h.elim
    | bool =>
      cases ds with
      | nil => exact h.elim
      | cons d ds =>
        cases d with
        | bool b => exact ih (K := fun ds => K (.bool b :: ds)) (K' := fun ds => K' (.bool b :: ds)) (fun ds => hm _) h
        | _ => exact h.elim
    | str =>
      cases ds with
      | nil => exact h.elim
      | cons d ds =>
        cases d with
        | str b => exact ih (K := fun ds => K (.str b :: ds)) (K' := fun ds => K' (.str b :: ds)) (fun ds => hm _) h
        | _ => exact h.elim
    | sl T e B =>
      cases ds with
      | nil => exact h.elim
      | cons d ds =>
        cases d with
        | sl B' xs =>
          have h' : (match Nat.beq B B' with | true => Pay.app ks (Pay.abs ks fun ds => K (.sl B xs :: ds)) ds | false => False) := h
          show (match Nat.beq B B' with | true => Pay.app ks (Pay.abs ks fun ds => K' (.sl B xs :: ds)) ds | false => False)
          cases hk : Nat.beq B B' with
          | false => rw [hk] at h'; exact h'.elim
          | true => rw [hk] at h'; exact ih (K := fun ds => K (.sl B xs :: ds)) (K' := fun ds => K' (.sl B xs :: ds)) (fun ds => hm _) h'
        | _ => exact h.elim

theorem C.mono {P : Program} {f : FuncId} {args : List Arg} {sg : Sig} {R R' : Pay sg.kinds} (h : C P f args sg R) (hr : ∀ ds, Pay.app sg.kinds R ds → Pay.app sg.kinds R' ds) : C P f args sg R' :=
  ⟨fun w K vs gs Ls h1 h2 => Calls.mono (h.run w K vs gs Ls h1 h2) fun e w' ⟨ds, rs, K', L1, L2, a1, a2⟩ => ⟨ds, rs, K', L1, L2, hr ds a1, a2⟩⟩

theorem cellsToA_lent {tok : Nat → Option Tok} {mv : Bool} : ∀ {ks : List CK} {cs : List Cell} {as : List ACell} {g l : List Nat}, cellsToA tok mv ks cs = some (as, g, l) → ∀ t ∈ l, t ∈ cellKeys cs
  | [], [], as, g, l, h, t, ht => by
    obtain ⟨rfl, rfl, rfl⟩ : [] = as ∧ [] = g ∧ [] = l := by simpa [cellsToA] using h
    cases ht
  | k :: ks, c :: cs, as, g, l, h, t, ht => by
    unfold cellsToA at h
    cases h1 : c.toA tok mv k with
    | none => rw [h1] at h; cases h
    | some x =>
      obtain ⟨a1, g1, l1⟩ := x
      cases h2 : cellsToA tok mv ks cs with
      | none => rw [h1, h2] at h; cases h
      | some y =>
        obtain ⟨as2, g2, l2⟩ := y
        rw [h1, h2] at h
        obtain ⟨rfl, rfl, rfl⟩ : a1 :: as2 = as ∧ g1 ++ g2 = g ∧ l1 ++ l2 = l := by simpa using h
        rcases List.mem_append.1 ht with ht | ht
        · cases c with
          | any => cases k <;> cases h1
          | c d =>
            obtain ⟨_, _, rfl⟩ : ACell.c d = a1 ∧ [] = g1 ∧ [] = l1 := by cases k <;> simpa [Cell.toA] using h1
            cases ht
          | nil =>
            have : l1 = [] := by cases mv <;> cases k <;> simp [Cell.toA] at h1 <;> simp [h1]
            rw [this] at ht; cases ht
          | tk t' =>
            cases hq : tok t' with
            | none => cases k <;> simp [Cell.toA, hq] at h1
            | some q =>
              cases mv with
              | true =>
                obtain ⟨_, _, rfl⟩ : ACell.own q = a1 ∧ [t'] = g1 ∧ [] = l1 := by cases k <;> simpa [Cell.toA, hq] using h1
                cases ht
              | false =>
                obtain ⟨_, _, rfl⟩ : ACell.c (.sl q.B q.xs) = a1 ∧ [] = g1 ∧ [t'] = l1 := by cases k <;> simpa [Cell.toA, hq] using h1
                rw [List.mem_singleton.1 ht]; simp [cellKeys]
        · have := cellsToA_lent h2 t ht
          cases c <;> simp [cellKeys, this]
  | [], _ :: _, _, _, _, h, _, _ => by cases h
  | _ :: _, [], _, _, _, h, _, _ => by cases h

theorem handArgs_lent {P : Program} {mv : List Nat} {tok : Nat → Option Tok} {box : Nat → Option (List Cell)} : ∀ {xs : List (Slot × TypeId)} {i : Nat} {h : Handed}, handArgs P mv box tok i xs = some h → ∀ t ∈ h.lent, ∃ x ∈ xs, t ∈ slotKeys x.1
  | [], i, h, hh, t, ht => by
    obtain rfl : (⟨[], [], [], []⟩ : Handed) = h := by simpa [handArgs] using hh
    cases ht
  | (s, T) :: xs, i, h, hh, t, ht => by
    unfold handArgs at hh
    cases h1 : handArgs P mv box tok (i + 1) xs with
    | none => rw [h1] at hh; cases hh
    | some h2 =>
      rw [h1] at hh
      simp only at hh
      have tail : t ∈ h2.lent → ∃ x ∈ (s, T) :: xs, t ∈ slotKeys x.1 := fun ht => by
        obtain ⟨x, hx, hk⟩ := handArgs_lent h1 t ht
        exact ⟨x, List.mem_cons_of_mem _ hx, hk⟩
      cases s with
      | v b cs =>
        simp only at hh
        cases hk : layD P T with
        | none => rw [hk] at hh; cases hh
        | some ks =>
          rw [hk] at hh
          simp only at hh
          cases hc : cellsToA tok (mv.elem i) ks cs with
          | none => rw [hc] at hh; cases hh
          | some y =>
            obtain ⟨as, g, l⟩ := y
            rw [hc] at hh
            obtain rfl := Option.some.inj hh
            rcases List.mem_append.1 ht with ht | ht
            · exact ⟨_, List.mem_cons_self, cellsToA_lent hc t ht⟩
            · exact tail ht
      | lp b off =>
        cases off with
        | succ n => cases hh
        | zero =>
          simp only at hh
          cases hb : box b with
          | none => rw [hb] at hh; cases hh
          | some cs =>
            rw [hb] at hh
            simp only at hh
            cases hc : boxToA tok cs with
            | none => rw [hc] at hh; cases hh
            | some y =>
              obtain ⟨as, g⟩ := y
              rw [hc] at hh
              obtain rfl := Option.some.inj hh
              exact tail ht
      | fn f caps =>
        simp only at hh
        cases hc : boxesToA box tok caps with
        | none => rw [hc] at hh; cases hh
        | some y =>
          obtain ⟨bs, g⟩ := y
          rw [hc] at hh
          obtain rfl := Option.some.inj hh
          exact tail ht
      | any => cases hh
      | tup _ => cases hh
      | cp _ _ _ => cases hh
      | un _ _ => cases hh
      | ep _ _ _ => cases hh

theorem toksDown_congr {tok tok' : Nat → Option Tok} {L : Nat} : ∀ {l : List Nat}, (∀ t ∈ l, tok t = tok' t) → toksDown tok L l = toksDown tok' L l
  | [], _ => rfl
  | t :: l, h => by
    unfold toksDown
    rw [h t List.mem_cons_self, toksDown_congr fun t' ht => h t' (List.mem_cons_of_mem _ ht)]

theorem boxKeys_mono {box : Nat → Option (List Cell)} {l l' : List Nat} (h : ∀ b ∈ l, b ∈ l') : ∀ t ∈ boxKeys box l, t ∈ boxKeys box l' := by
  intro t ht
  obtain ⟨b, hb, ht⟩ := List.mem_flatMap.1 ht
  exact List.mem_flatMap.2 ⟨b, h b hb, ht⟩

theorem capSlots_mem {caps : List Nat} {x : Slot × TypeId} (h : x ∈ capSlots caps) : ∃ b ∈ caps, x.1 = .lp b 0 := by
  obtain ⟨j, hj⟩ := List.mem_iff_getElem?.1 h
  obtain ⟨b, h1, h2⟩ := capSlots_get hj
  exact ⟨b, List.mem_of_getElem? h1, h2⟩

section
variable {ops : List Oper} {o : Oper} {s s' : St} {f : Nat} {ks : List Nat} {us : List Upd} {cx : Cx}

theorem isCallOp_val {c : Call} (h : isCallOp o = some c) : o.op = .call c ∧ ∃ x, c.callee = .value x := by
  unfold isCallOp at h
  split at h
  · rename_i c' ho
    split at h
    · rename_i x hx
      obtain rfl := Option.some.inj h; exact ⟨ho, x, hx⟩
    · cases h
  · cases h

theorem step_frame {i : Nat} {Ψ : St → Prop} (h : oneStep cx (okU o f ks) ops i o f s Ψ) (ha : Agr ops o s s') :
    oneStep cx (okU o f ks) ops i o f s' (fun t => ∃ us, okU o f ks us = true ∧ t = s'.apps us ∧ Ψ (s.apps us)) := by
  cases hc : isCallOp o with
  | none =>
    obtain ⟨us, h1, h2, h3⟩ := step_norm hc h
    exact h3 s' _ ha ⟨us, h1, rfl, h2⟩
  | some c =>
    obtain ⟨ho, x, hx⟩ := isCallOp_val hc
    have hop : opnds o = x :: c.args.toList := by unfold opnds; rw [ho]; simp only [hx]
    have hkey : ∀ k ∈ keysOf (opnds o) s, s.box k = s'.box k ∧ s.tok k = s'.tok k := by
      have := ha.key
      rw [opKeys_not (by unfold slotOnly; rw [ho])] at this
      exact this
    unfold oneStep at h ⊢
    rw [← ha.guard]
    split at h
    · rename_i hg
      unfold opStep at h ⊢
      rw [hc] at h ⊢
      simp only at h ⊢
      unfold callStep at h ⊢
      rw [hx] at h ⊢
      simp only at h ⊢
      have hevx := ha.ev x (by rw [hop]; exact List.mem_cons_self)
      rw [← hevx]
      split at h
      case h_2 => exact h.elim
      rename_i g caps hev
      have hargs : c.args.toList.map s'.ev = c.args.toList.map s.ev := (List.map_congr_left fun y hy => ha.ev y (by rw [hop]; exact List.mem_cons_of_mem _ hy)).symm
      have hmem : ∀ y ∈ (c.args.toList.map s.ev).zip c.argTypes.toList ++ capSlots caps, ∀ k ∈ slotKeys y.1, k ∈ (opnds o).flatMap fun x => slotKeys (s.ev x) := by
        intro y hy k hk
        rcases List.mem_append.1 hy with hy | hy
        · obtain ⟨sl, T⟩ := y
          have := (List.of_mem_zip hy).1
          obtain ⟨z, hz, rfl⟩ := List.mem_map.1 this
          exact List.mem_flatMap.2 ⟨z, by rw [hop]; exact List.mem_cons_of_mem _ hz, hk⟩
        · obtain ⟨b, hb, he⟩ := capSlots_mem hy
          rw [he] at hk
          have : k = b := by simpa [slotKeys] using hk
          subst this
          exact List.mem_flatMap.2 ⟨x, by rw [hop]; exact List.mem_cons_self, by rw [hev]; exact hb⟩
      have hha : handArgs cx.P (cx.mv g) s'.box s'.tok 0 ((c.args.toList.map s'.ev).zip c.argTypes.toList ++ capSlots caps) = handArgs cx.P (cx.mv g) s.box s.tok 0 ((c.args.toList.map s.ev).zip c.argTypes.toList ++ capSlots caps) := by
        rw [hargs]
        exact (handArgs_congr (fun y hy k hk => hkey k (List.mem_append_left _ (hmem y hy k hk))) fun y hy t ht => (hkey t (List.mem_append_right _ (boxKeys_mono (fun b hb => hmem y hy b hb) t ht))).2).symm
      rw [hha]
      split at h
      case h_2 => exact h.elim
      rename_i hnd hhd
      split at h
      case h_2 => exact h.elim
      rename_i hchk
      have hups : ∀ ds, callUpds o f s'.tok hnd (cx.sg g) ds = callUpds o f s.tok hnd (cx.sg g) ds := fun ds => by
        unfold callUpds
        simp only
        rw [toksDown_congr (tok := s'.tok) (tok' := s.tok) fun t ht => ?_]
        obtain ⟨y, hy, hk⟩ := handArgs_lent hhd t ht
        exact ((hkey t (List.mem_append_left _ (hmem y hy t hk))).2).symm
      refine C.mono h fun ds hds => pay_abs_mono (fun ds hk => ?_) hds
      rw [hups ds]
      split at hk
      · rename_i hck
        obtain ⟨vs, q1, q2, q3⟩ := split_norm hck hk
        exact q3 s' _ ha.dst ⟨_, q1, rfl, q2⟩
      · exact hk.elim
    · rename_i hg
      have hone : ∀ d, o.dst = some d → okU o f ks [.slot d .any] = true := fun d hd => by
        unfold okU
        simp only [List.all_cons, List.all_nil, Bool.and_true, hd]
        exact Nat.beq_refl d
      cases hd : o.dst with
      | some d => rw [hd] at h; exact ⟨[.slot d .any], hone d hd, rfl, h⟩
      | none => rw [hd] at h; exact ⟨[], rfl, rfl, h⟩
    · exact h.elim

end
end Go.Gl
