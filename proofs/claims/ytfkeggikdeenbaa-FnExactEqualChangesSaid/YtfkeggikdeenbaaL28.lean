/- Calls do what the logic's machine says. -/
import Derived.Test.YtfkeggikdeenbaaL27
set_option linter.unusedVariables false
set_option linter.unusedSimpArgs false
namespace Go.Gl
open Go.RowKit

theorem pay_app_abs {ks : List CK} : ∀ {K : List D → Prop} {ds : List D}, Pay.app ks (Pay.abs ks K) ds → K ds := by
  induction ks with
  | nil =>
    intro K ds h
    cases ds with
    | nil => exact h
    | cons d ds => exact h.elim
  | cons k ks ih =>
    intro K ds h
    cases k with
    | int k =>
      cases ds with
      | nil => exact h.elim
      | cons d ds =>
        cases d with
        | int k' n =>
          have h' : (match Nat.beq k.ctorIdx k'.ctorIdx with | true => Pay.app ks (Pay.abs ks fun ds => K (.int k n :: ds)) ds | false => False) := h
          cases hk : Nat.beq k.ctorIdx k'.ctorIdx with
          | false => rw [hk] at h'; exact h'.elim
          | true =>
            rw [hk] at h'
            obtain rfl := kind_inj hk
            exact ih (K := fun ds => K (.int k n :: ds)) h'
        | _ => exact h.elim
    | bool =>
      cases ds with
      | nil => exact h.elim
      | cons d ds =>
        cases d with
        | bool b =>
          have h' : Pay.app ks (Pay.abs ks fun ds => K (.bool b :: ds)) ds := h
          exact ih (K := fun ds => K (.bool b :: ds)) h'
        | _ => exact h.elim
    | str =>
      cases ds with
      | nil => exact h.elim
      | cons d ds =>
        cases d with
        | str b =>
          have h' : Pay.app ks (Pay.abs ks fun ds => K (.str b :: ds)) ds := h
          exact ih (K := fun ds => K (.str b :: ds)) h'
        | _ => exact h.elim
    | sl T e B =>
      cases ds with
      | nil => exact h.elim
      | cons d ds =>
        cases d with
        | sl B' xs =>
          have h' : (match Nat.beq B B' with | true => Pay.app ks (Pay.abs ks fun ds => K (.sl B xs :: ds)) ds | false => False) := h
          cases hk : Nat.beq B B' with
          | false => rw [hk] at h'; exact h'.elim
          | true =>
            rw [hk] at h'
            have hk' := Nat.eq_of_beq_eq_true hk
            subst hk'
            exact ih (K := fun ds => K (.sl B xs :: ds)) h'
        | _ => exact h.elim

theorem cnt_mk : ∀ (ks : List RK) (ds : List D), cntA (mkACells ks ds).1 ≤ sigOwn ks
  | [], ds => by simp [mkACells, cntA, sigOwn]
  | .c k :: r, [] => by have := cnt_mk r []; simpa [mkACells, cntA, sigOwn] using this
  | .c k :: r, d :: ds => by have := cnt_mk r ds; simpa [mkACells, cntA, sigOwn] using this
  | .own L T e B :: r, [] => by have := cnt_mk r []; simp only [mkACells, cntA, sigOwn]; omega
  | .own L T e B :: r, .sl _ xs :: ds => by have := cnt_mk r ds; simp only [mkACells, cntA, sigOwn]; omega
  | .own L T e B :: r, .int k n :: ds => by have := cnt_mk r (.int k n :: ds); simp only [mkACells, cntA, sigOwn]; omega
  | .own L T e B :: r, .bool b :: ds => by have := cnt_mk r (.bool b :: ds); simp only [mkACells, cntA, sigOwn]; omega
  | .own L T e B :: r, .str s :: ds => by have := cnt_mk r (.str s :: ds); simp only [mkACells, cntA, sigOwn]; omega

theorem cnt_vals : ∀ (xs : List (Bool × List RK)) (ds : List D), cntV (mkVals xs ds).1 ≤ (xs.map fun x => sigOwn x.2).sum
  | [], ds => by simp [mkVals, cntV]
  | x :: r, ds => by
    have h1 := cnt_mk x.2 ds
    have h2 := cnt_vals r (mkACells x.2 ds).2
    simp only [mkVals, cntV, List.map_cons, List.sum_cons]
    omega

theorem cnt_bxs : ∀ (xs : List (List RK)) (ds : List D), cntL (mkBxs xs ds) ≤ (xs.map sigOwn).sum
  | [], ds => by simp [mkBxs, cntL]
  | x :: r, ds => by
    have h1 := cnt_mk x ds
    have h2 := cnt_bxs r (mkACells x ds).2
    simp only [mkBxs, cntL, List.map_cons, List.sum_cons]
    omega

theorem capSlots_get : ∀ {caps : List Nat} {j : Nat} {x : Slot × TypeId}, (capSlots caps)[j]? = some x → ∃ b, caps[j]? = some b ∧ x.1 = .lp b 0
  | [], j, x, h => by simp [capSlots] at h
  | b :: caps, 0, x, h => by obtain rfl := Option.some.inj h; exact ⟨b, rfl, rfl⟩
  | b :: caps, j + 1, x, h => capSlots_get (caps := caps) (j := j) h

theorem capSlots_len : ∀ (caps : List Nat), (capSlots caps).length = caps.length
  | [] => rfl
  | b :: caps => by simp [capSlots, capSlots_len caps]

section
variable {P : Program} {en : En} {st : St} {Fr : Nat → Prop} {a : Act} {w w' w0 : World} {W X : CS} {K0 : Kb} {o : Oper} {f : Nat}

theorem ev_slot {s s' : St} (h : s'.slot = s.slot) (x : Operand) : s'.ev x = s.ev x := by
  cases x with
  | tmp t => show s'.slot t = s.slot t; rw [h]
  | _ => rfl

theorem cellsToA_gone {tok : Nat → Option Tok} {mv : Bool} : ∀ {ks : List CK} {cs : List Cell} {as : List ACell} {g l : List Nat}, cellsToA tok mv ks cs = some (as, g, l) → ∀ t ∈ g, ∃ q, tok t = some q
  | [], [], as, g, l, h, t, ht => by
    obtain ⟨rfl, rfl, rfl⟩ : [] = as ∧ [] = g ∧ [] = l := by simpa [cellsToA] using h
    cases ht
  | k :: ks, c :: cs, as, g, l, h, t, ht => by
    unfold cellsToA at h
    cases h1 : c.toA tok mv k with
    | none => rw [h1] at h; cases h
    | some x =>
      obtain ⟨a1, g1, l1⟩ := x
      cases h2 : cellsToA tok mv ks cs with
      | none => rw [h1, h2] at h; cases h
      | some y =>
        obtain ⟨as2, g2, l2⟩ := y
        rw [h1, h2] at h
        obtain ⟨rfl, rfl, rfl⟩ : a1 :: as2 = as ∧ g1 ++ g2 = g ∧ l1 ++ l2 = l := by simpa using h
        rcases List.mem_append.1 ht with ht | ht
        · cases c with
          | any => cases k <;> cases h1
          | c d =>
            obtain ⟨_, rfl, _⟩ : ACell.c d = a1 ∧ [] = g1 ∧ [] = l1 := by cases k <;> simpa [Cell.toA] using h1
            cases ht
          | nil =>
            have : g1 = [] := by cases mv <;> cases k <;> simp [Cell.toA] at h1 <;> simp [h1]
            rw [this] at ht; cases ht
          | tk t' =>
            cases hq : tok t' with
            | none => cases k <;> simp [Cell.toA, hq] at h1
            | some q =>
              cases mv with
              | true =>
                obtain ⟨_, rfl, _⟩ : ACell.own q = a1 ∧ [t'] = g1 ∧ [] = l1 := by cases k <;> simpa [Cell.toA, hq] using h1
                rw [List.mem_singleton.1 ht]; exact ⟨q, hq⟩
              | false =>
                obtain ⟨_, rfl, _⟩ : ACell.c (.sl q.B q.xs) = a1 ∧ [] = g1 ∧ [t'] = l1 := by cases k <;> simpa [Cell.toA, hq] using h1
                cases ht
        · exact cellsToA_gone h2 t ht
  | [], _ :: _, _, _, _, h, _, _ => by cases h
  | _ :: _, [], _, _, _, h, _, _ => by cases h

theorem boxToA_gone {tok : Nat → Option Tok} : ∀ {cs : List Cell} {as : List ACell} {g : List Nat}, boxToA tok cs = some (as, g) → ∀ t ∈ g, ∃ q, tok t = some q
  | [], as, g, h, t, ht => by
    obtain ⟨rfl, rfl⟩ : [] = as ∧ [] = g := by simpa [boxToA] using h
    cases ht
  | c :: cs, as, g, h, t, ht => by
    have plain : ∀ {c' : ACell}, ((boxToA tok cs).map fun x => (c' :: x.1, x.2)) = some (as, g) → ∃ q, tok t = some q := by
      intro c' h
      cases h2 : boxToA tok cs with
      | none => rw [h2] at h; cases h
      | some y =>
        obtain ⟨as2, g2⟩ := y
        rw [h2] at h
        obtain ⟨rfl, rfl⟩ : c' :: as2 = as ∧ g2 = g := by simpa using h
        exact boxToA_gone h2 t ht
    cases c with
    | any => exact plain h
    | c d => exact plain h
    | nil => exact plain h
    | tk t' =>
      unfold boxToA at h
      cases hq : tok t' with
      | none => rw [hq] at h; cases h
      | some q =>
        cases h2 : boxToA tok cs with
        | none => rw [hq, h2] at h; cases h
        | some y =>
          obtain ⟨as2, g2⟩ := y
          rw [hq, h2] at h
          obtain ⟨rfl, rfl⟩ : ACell.own q :: as2 = as ∧ t' :: g2 = g := by simpa using h
          rcases List.mem_cons.1 ht with rfl | ht
          · exact ⟨q, hq⟩
          · exact boxToA_gone h2 t ht

theorem boxesToA_gone {tok : Nat → Option Tok} {box : Nat → Option (List Cell)} : ∀ {bs : List Nat} {xs : List (List ACell)} {g : List Nat}, boxesToA box tok bs = some (xs, g) → (∀ t ∈ g, ∃ q, tok t = some q) ∧ ∀ b ∈ bs, ∃ cs, box b = some cs
  | [], xs, g, h => by
    obtain ⟨rfl, rfl⟩ : [] = xs ∧ [] = g := by simpa [boxesToA] using h
    exact ⟨fun _ h => (nomatch h), fun _ h => (nomatch h)⟩
  | b :: bs, xs, g, h => by
    unfold boxesToA at h
    cases h1 : box b with
    | none => rw [h1] at h; cases h
    | some cs =>
      rw [h1] at h
      simp only at h
      cases h2 : boxToA tok cs with
      | none => rw [h2] at h; cases h
      | some y =>
        obtain ⟨as, g1⟩ := y
        cases h3 : boxesToA box tok bs with
        | none => rw [h2, h3] at h; cases h
        | some z =>
          obtain ⟨ys, g2⟩ := z
          rw [h2, h3] at h
          obtain ⟨rfl, rfl⟩ : as :: ys = xs ∧ g1 ++ g2 = g := by simpa using h
          obtain ⟨p1, p2⟩ := boxesToA_gone h3
          refine ⟨fun t ht => ?_, fun b' hb' => ?_⟩
          · rcases List.mem_append.1 ht with ht | ht
            · exact boxToA_gone h2 t ht
            · exact p1 t ht
          · rcases List.mem_cons.1 hb' with rfl | hb'
            · exact ⟨cs, h1⟩
            · exact p2 b' hb'

theorem handArgs_both {mv : List Nat} {tok : Nat → Option Tok} {box : Nat → Option (List Cell)} : ∀ {xs : List (Slot × TypeId)} {i : Nat} {h : Handed}, handArgs P mv box tok i xs = some h → (∀ t ∈ h.gone, ∃ q, tok t = some q) ∧ ∀ b ∈ h.boxes, ∃ cs, box b = some cs
  | [], i, h, hh => by
    obtain rfl : (⟨[], [], [], []⟩ : Handed) = h := by simpa [handArgs] using hh
    exact ⟨fun _ h => (nomatch h), fun _ h => (nomatch h)⟩
  | (s, T) :: xs, i, h, hh => by
    unfold handArgs at hh
    cases h1 : handArgs P mv box tok (i + 1) xs with
    | none => rw [h1] at hh; cases hh
    | some h2 =>
      rw [h1] at hh
      simp only at hh
      obtain ⟨p1, p2⟩ := handArgs_both h1
      cases s with
      | v b cs =>
        simp only at hh
        cases hk : layD P T with
        | none => rw [hk] at hh; cases hh
        | some ks =>
          rw [hk] at hh
          simp only at hh
          cases hc : cellsToA tok (mv.elem i) ks cs with
          | none => rw [hc] at hh; cases hh
          | some y =>
            obtain ⟨as, g, l⟩ := y
            rw [hc] at hh
            obtain rfl := Option.some.inj hh
            exact ⟨fun t ht => (List.mem_append.1 ht).elim (cellsToA_gone hc t) (p1 t), p2⟩
      | lp b off =>
        cases off with
        | succ n => cases hh
        | zero =>
          simp only at hh
          cases hb : box b with
          | none => rw [hb] at hh; cases hh
          | some cs =>
            rw [hb] at hh
            simp only at hh
            cases hc : boxToA tok cs with
            | none => rw [hc] at hh; cases hh
            | some y =>
              obtain ⟨as, g⟩ := y
              rw [hc] at hh
              obtain rfl := Option.some.inj hh
              refine ⟨fun t ht => (List.mem_append.1 ht).elim (boxToA_gone hc t) (p1 t), fun b' hb' => ?_⟩
              rcases List.mem_cons.1 hb' with rfl | hb'
              · exact ⟨cs, hb⟩
              · exact p2 b' hb'
      | fn f caps =>
        simp only at hh
        cases hc : boxesToA box tok caps with
        | none => rw [hc] at hh; cases hh
        | some y =>
          obtain ⟨bs, g⟩ := y
          rw [hc] at hh
          obtain rfl := Option.some.inj hh
          obtain ⟨q1, q2⟩ := boxesToA_gone hc
          exact ⟨fun t ht => (List.mem_append.1 ht).elim (q1 t) (p1 t), fun b hb => (List.mem_append.1 hb).elim (q2 b) (p2 b)⟩
      | any => cases hh
      | tup _ => cases hh
      | cp _ _ _ => cases hh
      | un _ _ => cases hh
      | ep _ _ _ => cases hh

/-- The call is entered. -/
theorem run_enter {c : Call} {x : Operand} {g : Nat} {cap : Array Value} (ho : o.op = .call c) (hc : c.callee = .value x) (hx : a.eval x = .func (.func g) #[] cap) (he : enterB P g = true) :
    (execOp a.eval o).run P w = .ok (.enter g (c.args.map a.eval ++ cap)) w := by
  unfold enterB at he
  split at he
  · rename_i fn hf
    rw [Bool.and_eq_true] at he
    have h1 : (fn.name == "runtime.NumGoroutine") = false := by simpa using he.1
    have h1' : ¬ fn.name = "runtime.NumGoroutine" := by simpa using h1
    have h2 : ¬ fn.body = none := by cases hb : fn.body <;> simp_all
    simp only [execOp, ho, resolve, hc, hx, Deferred.ofValue, pure_bind, invoke, callFunc, Sem.run_bind]
    simp [hf, h1', h2, Sem.run, program, pure, Sem.pure]
  · cases he

theorem sound_call {cx : Cx} {chk : List Upd → Bool} {Kc : St → Prop} {Q : Exit → Act → World → Prop} (r : RelE en st Fr a w w0 W K0) (hd : ∀ d, o.dst = some d → d < st.n) (hfr : ∀ k, Rng f 16 k → Fr k) {c : Call} (ho : o.op = .call c) (h : callStep cx chk c o f st Kc) :
    o.wp cx.P a w (fun a' w' => ∃ us en', chk us = true ∧ RelE en' (st.apps us) (fun k => Fr k ∧ ¬ Rng f 16 k) a' w' w0 W K0 ∧ Kc (st.apps us)) Q := by
  unfold callStep at h
  split at h
  case h_2 => exact h.elim
  rename_i x hcal
  split at h
  case h_2 => exact h.elim
  rename_i g caps hev
  split at h
  case h_2 => exact h.elim
  rename_i hnd hha
  split at h
  case h_2 => exact h.elim
  rename_i hchk
  simp only [Bool.and_eq_true] at hchk
  obtain ⟨⟨⟨⟨⟨⟨k1, k2⟩, k3⟩, k4⟩, k5⟩, k6⟩, k7⟩ := hchk
  have hsz := Nat.eq_of_beq_eq_true k2
  have hcnt : sigCnt (cx.sg g) ≤ 16 := Nat.le_of_ble_eq_true k7
  have hbn := distinct_nodup k3
  have hgn := distinct_nodup k4
  have hgl : ∀ t ∈ hnd.gone, t ∉ hnd.lent := fun t ht => elem_false (by have := List.all_eq_true.1 k5 t ht; exact this)
  -- what is lent goes down
  obtain ⟨en1, r1, hk1, hfb1, hvt1, hlent⟩ := r.lowerAll (tok0 := st.tok) (l := hnd.lent) fun t q h _ => .inl h
  obtain ⟨ds1, db1, dt1⟩ := down_other st.tok 1 hnd.lent st
  -- what is handed over
  have hfun := r.ev x
  rw [hev] at hfun
  have hval : a.eval x = .func (.func g) #[] (ptrs (caps.map en1.FB)) := by
    generalize he : a.eval x = v at hfun
    cases hfun
    unfold ptrs
    rw [List.map_map, hfb1]
    rfl
  let vals : List Value := c.args.toList.map a.eval ++ (ptrs (caps.map en1.FB)).toList
  have hvals : ((c.args.toList.map st.ev).zip c.argTypes.toList ++ capSlots caps).length = vals.length ∧ ∀ (j : Nat) (y : Slot × TypeId), ((c.args.toList.map st.ev).zip c.argTypes.toList ++ capSlots caps)[j]? = some y → ∃ v, vals[j]? = some v ∧ SlotRep w en1 (st.apps (toksDown st.tok 1 hnd.lent)).tok y.1 v := by
    have hzl : ((c.args.toList.map st.ev).zip c.argTypes.toList).length = c.args.toList.length := by simp [hsz]
    refine ⟨by simp [vals, ptrs, capSlots_len, hsz], fun j y hj => ?_⟩
    by_cases hlt : j < c.args.toList.length
    · rw [List.getElem?_append_left (by omega)] at hj
      obtain ⟨s, T⟩ := y
      rw [List.getElem?_zip_eq_some] at hj
      have h1 := hj.1
      rw [List.getElem?_map, Option.map_eq_some_iff] at h1
      obtain ⟨z, hz, hz2⟩ := h1
      refine ⟨a.eval z, ?_, ?_⟩
      · rw [List.getElem?_append_left (by simpa using hlt), List.getElem?_map, hz]; rfl
      · have := r1.ev z
        rw [ev_slot ds1 z, hz2] at this
        exact this
    · rw [List.getElem?_append_right (by omega), hzl] at hj
      obtain ⟨b, h1, h2⟩ := capSlots_get hj
      refine ⟨.pointer (some ⟨en1.FB b, 0, none⟩), ?_, by rw [h2]; exact .lp⟩
      rw [List.getElem?_append_right (by simp; simpa using hlt)]
      simp only [List.length_map, ptrs, List.map_map]
      rw [List.getElem?_map, h1]
      rfl
  obtain ⟨its, hin, hit, hib⟩ := handArgs_spec (P := cx.P) (tok0 := (st.apps (toksDown st.tok 1 hnd.lent)).tok) (en := en1) (w := w) (fun b cs hb => r1.boxes b cs (by rw [db1]; exact hb)) hha hvals
    (fun t ht q hq => by rw [hvt1]; exact hlent t ht q hq) (fun t ht q hq => r1.toks t q (by rw [dt1 t (hgl t ht)]; exact hq))
  have hgone : ∀ t ∈ hnd.gone, ∃ q, st.tok t = some q := (handArgs_both hha).1
  have hboxes : ∀ b ∈ hnd.boxes, ∃ cs, st.box b = some cs := (handArgs_both hha).2
  obtain ⟨hgood, hfits⟩ := r1.handed (its := its) (by rw [hit]; exact hgn) (by rw [hib]; exact hbn) (by rw [hit]; intro t ht; rw [dt1 t (hgl t ht)]; exact hgone t ht) (by rw [hib]; intro b hb; rw [db1]; exact hboxes b hb)
  rw [hit, hib] at hfits
  -- the call
  unfold Oper.wp
  rw [run_enter (P := cx.P) (w := w) ho hcal hval k1, Oper.upon_enter]
  have hargs : c.args.map a.eval ++ ptrs (caps.map en1.FB) = vals.toArray := by
    apply Array.ext'
    simp [vals]
  rw [hargs]
  refine Calls.mono (h.run w en1.K vals _ _ hin hgood) fun e w' hpost => ?_
  obtain ⟨ds, rs, K', L1, L2, happ, rfl, hres, hbx, hgood', hun, hks, hal⟩ := hpost
  have hkc := pay_app_abs happ
  split at hkc
  case h_2 => exact hkc.elim
  rename_i hck
  -- what is left of the state while the call runs
  have r2 := (r1.dropAll hnd.gone).offAll hnd.boxes
  have ha0 : ∀ b o, Al w (uni (its.map (itF en1))) b o → Al w0 W b o := by
    rintro b o (h | ⟨F, hF, h⟩)
    · exact .inl (Nat.le_trans r.un.size h)
    · exact (hfits F hF).a b o h
  have r3 := r2.world hun (fun b o hk => fun ⟨F, hF, h⟩ => (hfits F hF).k b o h hk) (fun b cs hb o => fun ⟨F, hF, h⟩ => (hfits F hF).b b cs hb o h) (fun t q hq b o hf => fun ⟨F, hF, h⟩ => (hfits F hF).t t q hq b o h hf) (fun b o ⟨F, hF, h⟩ => (hfits F hF).a b o h)
  have hnew : ∀ b o, Al w (uni (its.map (itF en1))) b o → (¬ en1.K b o) ∧ (∀ b' cs, (((st.apps (toksDown st.tok 1 hnd.lent)).apps (kill hnd.gone)).apps (offs hnd.boxes)).box b' = some cs → b ≠ en1.FB b') ∧ ∀ t q, (((st.apps (toksDown st.tok 1 hnd.lent)).apps (kill hnd.gone)).apps (offs hnd.boxes)).tok t = some q → ¬ en1.FT t b o := by
    rintro b o (h | ⟨F, hF, h⟩)
    · refine ⟨fun hk => ?_, fun b' cs hb e => ?_, fun t q hq hf => ?_⟩
      · have := r2.kl b o hk; omega
      · have := r2.box_lt hb; omega
      · have := (r2.toks t q hq).lt b o hf; omega
    · refine ⟨(hfits F hF).k b o h, fun b' cs hb e => ?_, fun t q hq hf => (hfits F hF).t t q hq b o h hf⟩
      subst e
      exact (hfits F hF).b b' cs hb o h
  have r4 := r3.growK (K' := fun b o => K' b o ∧ ¬ en1.K b o) (fun b cs hb o hk => (hnew _ o ((hks _ o hk.1).resolve_left hk.2)).2.1 b cs hb rfl) (fun t q hq b o hf hk => (hnew b o ((hks b o hk.1).resolve_left hk.2)).2.2 t q hq hf)
    (fun b o hk => ha0 b o ((hks b o hk.1).resolve_left hk.2)) (fun b o hk => hgood'.lt b o hk.1)
  have hkk : ∀ b o, K' b o → en1.K b o ∨ (K' b o ∧ ¬ en1.K b o) := fun b o hk => by
    by_cases h : en1.K b o
    · exact .inl h
    · exact .inr ⟨hk, h⟩
  have hfit' : Fits { en1 with K := fun b o => en1.K b o ∨ (K' b o ∧ ¬ en1.K b o) } (((st.apps (toksDown st.tok 1 hnd.lent)).apps (kill hnd.gone)).apps (offs hnd.boxes)) w0 W (L1 ++ L2) := fun F hF => by
    refine ⟨fun b o h hk => ?_, fun b cs hb o h => ?_, fun t q hq b o h => (hnew b o (hal F hF b o h)).2.2 t q hq, fun b o h => ha0 b o (hal F hF b o h)⟩
    · rcases hk with hk | hk
      · exact (hnew b o (hal F hF b o h)).1 hk
      · exact hgood'.k F hF b o h hk.1
    · exact (hnew _ o (hal F hF _ o h)).2.1 b cs hb rfl
  obtain ⟨q1, q2, q3⟩ := pw_append hgood'.d
  -- the results
  have c1 := cnt_vals (cx.sg g).res ds
  have c2 := cnt_bxs (cx.sg g).bx (mkVals (cx.sg g).res ds).2
  unfold sigCnt at hcnt
  obtain ⟨en5, r5, ⟨vl, vv⟩, f5, e5, b5, s5⟩ := r4.addVals (f := f) (hres.mono hkk) hfit'.left q1 (fun k hk => hfr k ⟨hk.1, by have := hk.2; omega⟩)
  -- the boxes
  have hbx5 : BRepL w' en5.K (mkBxs (cx.sg g).bx (mkVals (cx.sg g).res ds).2) (hnd.boxes.map en5.FB) L2 := by
    rw [e5.K, f5]; exact hbx.mono hkk
  obtain ⟨en6, r6, f6, k6', v6, s6⟩ := r5.backB (f := f + cntV (mkVals (cx.sg g).res ds).1) hbx5 (e5.fit L2 hfit'.right q3) q2
    (fun k hk => ⟨hfr k ⟨by have := hk.1; omega, by have := hk.1; have := hk.2; omega⟩, fun h => by have := h.2; have := hk.1; omega⟩)
    (fun b hb => by
      refine ⟨by rw [b5, offs_box, if_pos hb], fun h => ?_⟩
      obtain ⟨cs, hcs⟩ := hboxes b hb
      rw [r.free.box b h.1] at hcs
      cases hcs) hbn
  -- the slot
  have hslot : SlotRep w' en6 ((((((st.apps (toksDown st.tok 1 hnd.lent)).apps (kill hnd.gone)).apps (offs hnd.boxes)).apps (valUpds f (mkVals (cx.sg g).res ds).1))).apps (bxUpds (f + cntV (mkVals (cx.sg g).res ds).1) hnd.boxes (mkBxs (cx.sg g).bx (mkVals (cx.sg g).res ds).2))).tok
      (match valSlots f (mkVals (cx.sg g).res ds).1 with | [z] => .v z.1 z.2 | l => .tup l) (packRes rs) ∧ ∀ k, Slot.men k (match valSlots f (mkVals (cx.sg g).res ds).1 with | [z] => .v z.1 z.2 | l => .tup l) → Rng f (cntV (mkVals (cx.sg g).res ds).1) k := by
    have hval6 : ∀ (j : Nat) (y : Bool × List Cell), (valSlots f (mkVals (cx.sg g).res ds).1)[j]? = some y → (∀ k, cellsMen k y.2 → Rng f (cntV (mkVals (cx.sg g).res ds).1) k) ∧ ∃ v, rs[j]? = some v ∧ ValRep w' en6 y.1 y.2 v := by
      intro j y hj
      obtain ⟨p1, v, p2, p3⟩ := vv j y hj
      exact ⟨p1, v, p2, p3.env k6' fun k hk => v6 k fun h => by have := (p1 k hk).2; have := h.1; omega⟩
    generalize valSlots f (mkVals (cx.sg g).res ds).1 = l at hval6 vl
    match l, rs, vl, hval6 with
    | [z], [v], _, hval6 =>
      obtain ⟨p1, v', p2, p3⟩ := hval6 0 z rfl
      obtain rfl : v = v' := by simpa using p2
      exact ⟨.v p3, p1⟩
    | [], [], _, hval6 => exact ⟨.tup rfl fun j y hj => by simp at hj, fun k hk => by obtain ⟨y, hy, _⟩ := hk; cases hy⟩
    | z1 :: z2 :: l, v1 :: v2 :: rs, vl, hval6 =>
      refine ⟨.tup (by simpa using vl.symm) fun j y hj => ?_, fun k hk => ?_⟩
      · obtain ⟨_, v', p2, p3⟩ := hval6 j y hj
        exact ⟨v', by simpa using p2, p3⟩
      · obtain ⟨y, hy, hm⟩ := hk
        obtain ⟨j, hj⟩ := List.mem_iff_getElem?.1 hy
        exact (hval6 j y hj).1 k hm
  have r7 := r6.ret o (fun d h => by rw [apps_n, apps_n, apps_n, apps_n, apps_n]; exact hd d h) hslot.1 (fun k hk hm => hk.1.2 (hslot.2 k hm))
  refine ⟨_, en6, hck, ?_, hkc⟩
  have hst : st.apps (callUpds o f st.tok hnd (cx.sg g) ds) = ((((((st.apps (toksDown st.tok 1 hnd.lent)).apps (kill hnd.gone)).apps (offs hnd.boxes)).apps (valUpds f (mkVals (cx.sg g).res ds).1))).apps (bxUpds (f + cntV (mkVals (cx.sg g).res ds).1) hnd.boxes (mkBxs (cx.sg g).bx (mkVals (cx.sg g).res ds).2))).apps (ret o (match valSlots f (mkVals (cx.sg g).res ds).1 with | [z] => .v z.1 z.2 | l => .tup l)) := by
    unfold callUpds
    simp only [apps_append]
    rfl
  rw [hst]
  exact r7.fewer fun k hk => ⟨⟨hk.1, fun h => hk.2 ⟨h.1, by have := h.2; omega⟩⟩, fun h => hk.2 ⟨by have := h.1; omega, by have := h.2; omega⟩⟩

end
end Go.Gl
