/- What an operation does hangs on what it reads alone. -/
import Derived.Test.YtfkeggikdeenbaaL29
set_option linter.unusedVariables false
set_option linter.unusedSimpArgs false
namespace Go.Gl
open Go.RowKit

theorem opDet_ev {P : Program} {o : Oper} {f : Nat} {ev ev' : Operand → Slot} {box : Nat → Option (List Cell)} {tok : Nat → Option Tok} (h : ∀ x ∈ opnds o, ev x = ev' x) : opDet P o f ev box tok = opDet P o f ev' box tok := by
  have parts : ∀ ps : List (Nat × Operand), (∀ x ∈ ps.map (·.2), ev x = ev' x) → ps.map (fun p => (p.1, ev p.2)) = ps.map (fun p => (p.1, ev' p.2)) := fun ps hp =>
    List.map_congr_left fun p hm => by rw [hp p.2 (List.mem_map.2 ⟨p, hm, rfl⟩)]
  unfold opDet
  unfold opnds at h
  cases ho : o.op <;> simp only [ho] at h ⊢
  case move x => rw [h x (by simp)]
  case assign x => rw [h x (by simp)]
  case pick c a b => rw [h c (by simp), h a (by simp), h b (by simp)]
  case box T x => rw [h x (by simp)]
  case build T ps => rw [parts _ h]
  case buildSlice T n ps => rw [parts _ h]
  case load T x => rw [h x (by simp)]
  case store T x y => rw [h x (by simp), h y (by simp)]
  case nilCheck x => rw [h x (by simp)]
  case binOp op T x y T' => rw [h x (by simp), h y (by simp)]
  case unOp op T x =>
    have e := h x (by simp)
    cases op <;> simp only [e]
  case convert s d x => rw [h x (by simp)]
  case makeFunc fn fs cs =>
    cases fn with
    | func g =>
      have : cs.toList.map ev = cs.toList.map ev' := List.map_congr_left fun x hx => h x (List.mem_append_right _ hx)
      simp only [this]
    | _ => rfl
  case makeSlice T l c => rw [h l (by simp), h c (by simp)]
  case slice T x lo hi mx =>
    rw [h x (by simp)]
    have h1 : lo.map ev = lo.map ev' := by cases lo <;> first | rfl | exact congrArg some (h _ (by simp))
    have h2 : hi.map ev = hi.map ev' := by cases hi <;> first | rfl | exact congrArg some (h _ (by simp))
    rw [h1, h2]
  case fieldAddr S x i => rw [h x (by simp)]
  case indexAddr T x i => rw [h x (by simp), h i (by simp)]
  case index T x i => rw [h x (by simp), h i (by simp)]
  case extract x i => rw [h x (by simp)]
  case call c =>
    cases hc : c.callee with
    | value g => rfl
    | invoke r m => rfl
    | builtin b =>
      rw [hc] at h
      simp only at h
      have hl : c.args.toList.map ev = c.args.toList.map ev' := List.map_congr_left fun x hx => h x hx
      cases b <;> simp only <;> try rfl
      case len =>
        split
        · rename_i x T r ha _
          rw [h x (by rw [ha]; simp)]
        · rfl
      case append =>
        split
        · rename_i x y Ts Tx ha _
          rw [h x (by rw [ha]; simp), h y (by rw [ha]; simp)]
        · rfl
      case max => rw [hl]
      case min => rw [hl]

theorem cellsToD_congr {tok tok' : Nat → Option Tok} : ∀ {ks : List CK} {cs : List Cell}, (∀ t ∈ cellKeys cs, tok t = tok' t) → cellsToD tok ks cs = cellsToD tok' ks cs
  | [], [], _ => rfl
  | [], _ :: _, _ => rfl
  | _ :: _, [], _ => rfl
  | k :: ks, c :: cs, h => by
    have h1 : c.toD tok k = c.toD tok' k := by
      cases c with
      | tk t =>
        have := h t (by simp [cellKeys])
        cases k <;> simp only [Cell.toD, this]
      | _ => cases k <;> rfl
    have h2 : cellsToD tok ks cs = cellsToD tok' ks cs := cellsToD_congr fun t ht => h t (by cases c <;> simp [cellKeys, ht])
    simp only [cellsToD, h1, h2]

theorem cellsToA_congr {tok tok' : Nat → Option Tok} {mv : Bool} : ∀ {ks : List CK} {cs : List Cell}, (∀ t ∈ cellKeys cs, tok t = tok' t) → cellsToA tok mv ks cs = cellsToA tok' mv ks cs
  | [], [], _ => rfl
  | [], _ :: _, _ => rfl
  | _ :: _, [], _ => rfl
  | k :: ks, c :: cs, h => by
    have h1 : c.toA tok mv k = c.toA tok' mv k := by
      cases c with
      | tk t =>
        have := h t (by simp [cellKeys])
        cases k <;> simp only [Cell.toA, this]
      | _ => cases mv <;> cases k <;> rfl
    have h2 : cellsToA tok mv ks cs = cellsToA tok' mv ks cs := cellsToA_congr fun t ht => h t (by cases c <;> simp [cellKeys, ht])
    simp only [cellsToA, h1, h2]

theorem boxToA_congr {tok tok' : Nat → Option Tok} : ∀ {cs : List Cell}, (∀ t ∈ cellKeys cs, tok t = tok' t) → boxToA tok cs = boxToA tok' cs
  | [], _ => rfl
  | c :: cs, h => by
    have h2 : boxToA tok cs = boxToA tok' cs := boxToA_congr fun t ht => h t (by cases c <;> simp [cellKeys, ht])
    cases c with
    | tk t => simp only [boxToA, h2, h t (by simp [cellKeys])]
    | _ => simp only [boxToA, h2]

theorem boxesToA_congr {tok tok' : Nat → Option Tok} {box box' : Nat → Option (List Cell)} : ∀ {bs : List Nat}, (∀ b ∈ bs, box b = box' b) → (∀ t ∈ boxKeys box bs, tok t = tok' t) → boxesToA box tok bs = boxesToA box' tok' bs
  | [], _, _ => rfl
  | b :: bs, h, ht => by
    have h2 : boxesToA box tok bs = boxesToA box' tok' bs := boxesToA_congr (fun b' hb => h b' (List.mem_cons_of_mem _ hb)) fun t hh => ht t (by
      unfold boxKeys at hh ⊢
      rw [List.flatMap_cons]
      exact List.mem_append_right _ hh)
    unfold boxesToA
    rw [← h b (by simp), h2]
    cases hb : box b with
    | none => rfl
    | some cs =>
      simp only
      rw [boxToA_congr (tok := tok) (tok' := tok') fun t hh => ht t (by
        unfold boxKeys
        rw [List.flatMap_cons, hb]
        exact List.mem_append_left _ hh)]

theorem handArgs_congr {P : Program} {mv : List Nat} {tok tok' : Nat → Option Tok} {box box' : Nat → Option (List Cell)} : ∀ {xs : List (Slot × TypeId)} {i : Nat}, (∀ x ∈ xs, ∀ k ∈ slotKeys x.1, box k = box' k ∧ tok k = tok' k) → (∀ x ∈ xs, ∀ t ∈ boxKeys box (slotKeys x.1), tok t = tok' t) →
    handArgs P mv box tok i xs = handArgs P mv box' tok' i xs
  | [], i, _, _ => rfl
  | (s, T) :: xs, i, h, hb => by
    have h2 : handArgs P mv box tok (i + 1) xs = handArgs P mv box' tok' (i + 1) xs := handArgs_congr (fun x hx => h x (List.mem_cons_of_mem _ hx)) fun x hx => hb x (List.mem_cons_of_mem _ hx)
    have h0 := h (s, T) (by simp)
    have hb0 := hb (s, T) (by simp)
    unfold handArgs
    rw [h2]
    cases s with
    | v b cs =>
      have : ∀ ks, cellsToA tok (mv.elem i) ks cs = cellsToA tok' (mv.elem i) ks cs := fun ks => cellsToA_congr fun t ht => (h0 t ht).2
      simp only [this]
    | lp b off =>
      cases off with
      | succ n => rfl
      | zero =>
        have e := (h0 b (by simp [slotKeys])).1
        simp only [← e]
        cases hbb : box b with
        | none => rfl
        | some cs =>
          simp only
          rw [boxToA_congr (tok := tok) (tok' := tok') fun t ht => hb0 t (by simp [boxKeys, slotKeys, hbb, ht])]
    | fn f caps =>
      simp only
      rw [boxesToA_congr (tok := tok) (tok' := tok') (box := box) (box' := box') (bs := caps) (fun b hbm => (h0 b hbm).1) hb0]
    | _ => rfl

theorem allDeep_congr {tok tok' : Nat → Option Tok} : ∀ {l : List Nat}, (∀ t ∈ l, tok t = tok' t) → allDeep tok l = allDeep tok' l
  | [], _ => rfl
  | t :: ts, h => by
    have h2 : allDeep tok ts = allDeep tok' ts := allDeep_congr fun t' ht => h t' (List.mem_cons_of_mem _ ht)
    simp only [allDeep, h2, h t (by simp)]

theorem rowsOf_congr {tok tok' : Nat → Option Tok} {ks : List CK} : ∀ {parts : List (Nat × Slot)} {n : Nat}, (∀ p ∈ parts, ∀ t ∈ slotKeys p.2, tok t = tok' t) → rowsOf tok ks n parts = rowsOf tok' ks n parts
  | [], n, _ => rfl
  | (i, s) :: rest, n, h => by
    have h2 : rowsOf tok ks (n + 1) rest = rowsOf tok' ks (n + 1) rest := rowsOf_congr fun p hp => h p (List.mem_cons_of_mem _ hp)
    unfold rowsOf
    rw [h2]
    cases hs : s.cells with
    | none => rfl
    | some cs =>
      have : cellsToD tok ks cs = cellsToD tok' ks cs := cellsToD_congr fun t ht => h (i, s) (by simp) t (by
        cases s <;> first | (obtain rfl := Option.some.inj hs; exact ht) | cases hs)
      simp only [this]

theorem tokOf_keys {cs : List Cell} : cs.flatMap tokOf = cellKeys cs := by
  induction cs with
  | nil => rfl
  | cons c cs ih =>
    rw [List.flatMap_cons, ih]
    cases c <;> rfl

theorem opDet_congr {P : Program} {o : Oper} {f : Nat} {ev ev' : Operand → Slot} {box box' : Nat → Option (List Cell)} {tok tok' : Nat → Option Tok} (h : ∀ x ∈ opnds o, ev x = ev' x) (hk : ∀ x ∈ opnds o, ∀ k ∈ slotKeys (ev x), box k = box' k ∧ tok k = tok' k) :
    opDet P o f ev box tok = opDet P o f ev' box' tok' := by
  rw [← opDet_ev (box := box') (tok := tok') h]
  unfold opDet
  unfold opnds at hk
  cases ho : o.op <;> simp only [ho] at hk ⊢
  case buildSlice T n ps =>
    have h1 : ∀ ks, rowsOf tok ks 0 (ps.toList.map fun p => (p.1, ev p.2)) = rowsOf tok' ks 0 (ps.toList.map fun p => (p.1, ev p.2)) := fun ks => rowsOf_congr fun p hp t ht => by
      obtain ⟨q, hq, rfl⟩ := List.mem_map.1 hp
      exact (hk q.2 (List.mem_map.2 ⟨q, hq, rfl⟩) t ht).2
    split
    · rename_i E e B hT
      split
      · rename_i ks hks
        rw [← h1 ks]
        cases hr : rowsOf tok ks 0 (ps.toList.map fun p => (p.1, ev p.2)) with
        | none => rfl
        | some y =>
          obtain ⟨rows, ts, b⟩ := y
          obtain ⟨css, a1, a2, a3, a4, a5, a6⟩ := rowsOf_spec hr
          have : allDeep tok ts = allDeep tok' ts := allDeep_congr fun t ht => by
            rw [a3] at ht
            obtain ⟨cs, hcs, ht⟩ := List.mem_flatMap.1 ht
            obtain ⟨i, hi⟩ := List.mem_iff_getElem?.1 hcs
            have hlt : i < (ps.toList.map fun p => (p.1, ev p.2)).length := by rw [← a1]; exact (List.getElem?_eq_some_iff.1 hi).1
            obtain ⟨_, cs', h2, h3⟩ := a5 i _ (List.getElem?_eq_getElem hlt)
            rw [hi] at h2
            obtain rfl := Option.some.inj h2
            rw [tokOf_keys] at ht
            have hlt' : i < ps.toList.length := by simpa using hlt
            have hp : ((ps.toList.map fun p => (p.1, ev p.2))[i]).2 = ev (ps.toList[i]).2 := by simp
            rw [hp] at h3
            refine (hk (ps.toList[i]).2 (List.mem_map.2 ⟨_, List.getElem_mem hlt', rfl⟩) t ?_).2
            generalize ev (ps.toList[i]).2 = s at h3
            cases s <;> first | (obtain rfl := Option.some.inj h3; exact ht) | cases h3
          simp only [this]
      · rfl
    · rfl
  case load T x =>
    have hx := hk x (by simp)
    unfold loadDet
    split
    · rfl
    · generalize ev x = s at hx
      cases s <;> simp only
      case lp b off => rw [(hx b (by simp [slotKeys])).1]
      case ep t i off => rw [(hx t (by simp [slotKeys])).2]
  case store T x y =>
    have hx := hk x (by simp)
    have hy := hk y (by simp)
    unfold storeDet
    cases layD P T with
    | none => rfl
    | some ks =>
      cases hc : (ev y).cells with
      | none => rfl
      | some new =>
        have hyk : ∀ t ∈ cellKeys new, tok t = tok' t := fun t ht => (hy t (by
          generalize ev y = s at hc
          cases s <;> first | (obtain rfl := Option.some.inj hc; exact ht) | cases hc)).2
        simp only
        generalize ev x = s at hx
        cases s <;> simp only
        case lp b off => rw [(hx b (by simp [slotKeys])).1]
        case ep t i off =>
          have ht := (hx t (by simp [slotKeys])).2
          rw [ht, cellsToD_congr hyk]
          cases tok' t with
          | none => rfl
          | some tk =>
            simp only
            cases hcd : cellsToD tok' ks new with
            | none => rfl
            | some z =>
              obtain ⟨ds, ts⟩ := z
              obtain ⟨_, _, h3, _⟩ := cellsToD_spec hcd
              have : allDeep tok (t :: ts) = allDeep tok' (t :: ts) := allDeep_congr fun t' ht' => by
                rcases List.mem_cons.1 ht' with rfl | ht'
                · exact ht
                · rw [h3, tokOf_keys] at ht'; exact hyk t' ht'
              simp only [this]
  case nilCheck x =>
    have hx := hk x (by simp)
    generalize ev x = s at hx
    cases s <;> simp only
    case ep t i off => rw [(hx t (by simp [slotKeys])).2]
  case convert s d x => rfl
  case unOp op T x => cases op <;> rfl
  case makeFunc fn fs cs => cases fn <;> rfl
  case fieldAddr S x i =>
    have hx := hk x (by simp)
    split
    · generalize ev x = s at hx
      cases s <;> simp only
      case ep t i off => rw [(hx t (by simp [slotKeys])).2]
    · rfl
  case indexAddr T x i =>
    have hx := hk x (by simp)
    split
    · rename_i E hE
      have : indexDet P o E (ev x) (ev i) tok = indexDet P o E (ev x) (ev i) tok' := by
        unfold indexDet
        split
        · split
          · rfl
          · rename_i t hs
            rw [hs] at hx
            rw [(hx t (by simp [slotKeys, cellKeys])).2]
          · rfl
        · rfl
      rw [this]
    · rfl
  case call c =>
    cases hc : c.callee with
    | value g => rfl
    | invoke r m => rfl
    | builtin b =>
      rw [hc] at hk
      simp only at hk
      cases b <;> simp only <;> try rfl
      case len =>
        split
        · rename_i x T r ha _
          have hx := hk x (by rw [ha]; simp)
          have : lenOfSlot P T tok (ev x) = lenOfSlot P T tok' (ev x) := by
            unfold lenOfSlot
            split
            · rfl
            · split
              · rfl
              · rfl
              · rename_i t hs
                rw [hs] at hx
                rw [(hx t (by simp [slotKeys, cellKeys])).2]
              · rfl
            · rfl
          rw [this]
        · rfl
      case append =>
        split
        · rename_i x y Ts Tx ha _
          have hx := hk x (by rw [ha]; simp)
          have hy := hk y (by rw [ha]; simp)
          unfold appendDet
          have h1 : ∀ E e B, appX E e B tok (ev x) = appX E e B tok' (ev x) := by
            intro E e B
            unfold appX
            split
            · rfl
            · rename_i t hs
              rw [hs] at hx
              rw [(hx t (by simp [slotKeys, cellKeys])).2]
            · rfl
          have h2 : ∀ ks e str, appY ks e str tok (ev y) = appY ks e str tok' (ev y) := by
            intro ks e str
            unfold appY
            split
            · rfl
            · rfl
            · rfl
            · rename_i t hs
              rw [hs] at hy
              rw [(hy t (by simp [slotKeys, cellKeys])).2]
            · rfl
          simp only [h1, h2]
        · rfl

end Go.Gl
