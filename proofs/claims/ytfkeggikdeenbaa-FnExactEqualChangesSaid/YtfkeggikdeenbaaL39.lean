/- A contract is proved: the run of the whole function, its loops by a measure. -/
import Derived.Test.YtfkeggikdeenbaaL38
set_option linter.unusedVariables false
set_option linter.unusedSimpArgs false
namespace Go.Gl
open Go.RowKit

section
variable {P : Program} {en : En} {st : St} {Fr : Nat → Prop} {a : Act} {w w0 : World} {W : CS} {K0 : Kb}

/-- The values that a function's end reads off. -/
def resVal (P : Program) (tmps : Array Value) (x : ResultVar) : Sem Value :=
  match x with
  | .tmp t => pure (tmps.getD t undef)
  | .cell a t => do loadVar t (← asAddr (tmps.getD a undef))

theorem resSlots_spec (r : RelE en st Fr a w w0 W K0) : ∀ {rv : List ResultVar} {ss : List Slot}, resSlots P st rv = some ss →
    ∃ vs : List Value, (vs.length = ss.length ∧ ∀ (j : Nat) (s : Slot), ss[j]? = some s → ∃ v, vs[j]? = some v ∧ SlotRep w en st.tok s v) ∧ (rv.mapM (resVal P a.tmps)).run P w = .ok vs w
  | [], ss, h => by
    obtain rfl : [] = ss := by simpa [resSlots] using h
    exact ⟨[], ⟨rfl, fun j s hj => by simp at hj⟩, by simp [Sem.run, pure, Sem.pure]⟩
  | .tmp t :: rv, ss, h => by
    unfold resSlots at h
    cases h1 : resSlots P st rv with
    | none => rw [h1] at h; cases h
    | some l =>
      rw [h1] at h
      obtain rfl : st.slot t :: l = ss := by simpa using h
      obtain ⟨vs, ⟨v1, v2⟩, v3⟩ := resSlots_spec r h1
      refine ⟨a.tmps.getD t undef :: vs, ⟨by simp [v1], fun j s hj => ?_⟩, ?_⟩
      · cases j with
        | zero => obtain rfl : st.slot t = s := by simpa using hj
                  exact ⟨_, rfl, r.slots t⟩
        | succ j => exact v2 j s (by simpa using hj)
      · rw [List.mapM_cons]
        have e : (resVal P a.tmps (.tmp t)).run P w = .ok (a.tmps.getD t undef) w := rfl
        simp only [Sem.run_bind, e, Result.andThen_ok, v3]
        rfl
  | .cell x T :: rv, ss, h => by
    unfold resSlots at h
    cases hx : st.slot x with
    | lp b off =>
      rw [hx] at h
      simp only at h
      cases hb : st.box b with
      | none => rw [hb] at h; cases h
      | some cs =>
        cases hk : layD P T with
        | none => rw [hb, hk] at h; cases h
        | some ks =>
          cases h1 : resSlots P st rv with
          | none => rw [hb, hk, h1] at h; cases h
          | some l =>
            rw [hb, hk, h1] at h
            obtain ⟨hle, h⟩ := bif_some h
            have hle := Nat.le_of_ble_eq_true hle
            obtain rfl := Option.some.inj h
            obtain ⟨vs, ⟨v1, v2⟩, v3⟩ := resSlots_spec r h1
            have hxr := r.slots x
            rw [hx] at hxr
            generalize he : a.tmps.getD x undef = v at hxr
            cases hxr
            obtain ⟨arr, T', hh, hrep⟩ := r.boxes b cs hb
            have hlen : ((arr.toList.drop off).take ks.length).length = ks.length := by
              simp only [List.length_take, List.length_drop, Array.length_toList (xs := arr), hrep.1]; omega
            have hrun := run_loadAt hk (w := w) (b := en.FB b) (o := off) hlen fun j v hj => by
              rw [List.getElem?_take] at hj
              split at hj
              · rw [List.getElem?_drop, Array.getElem?_toList] at hj
                rw [cell?_cells hh]; exact hj
              · cases hj
            have hv := valRep_of hk (cs := (cs.drop off).take ks.length) (by simp only [List.length_take, List.length_drop]; omega) (cells_mid hrep hle)
            refine ⟨(if isAggT P T then .agg ((arr.toList.drop off).take ks.length).toArray else ((arr.toList.drop off).take ks.length).headD undef) :: vs, ⟨by simp [v1], fun j s hj => ?_⟩, ?_⟩
            · cases j with
              | zero => obtain rfl : Slot.v (isAggT P T) ((cs.drop off).take ks.length) = s := by simpa using hj
                        exact ⟨_, rfl, .v hv⟩
              | succ j => exact v2 j s (by simpa using hj)
            · rw [List.mapM_cons]
              have e : (resVal P a.tmps (.cell x T)).run P w = .ok (if isAggT P T then .agg ((arr.toList.drop off).take ks.length).toArray else ((arr.toList.drop off).take ks.length).headD undef) w := by
                rw [← hrun]
                show (do loadVar T (← asAddr (a.tmps.getD x undef))).run P w = (do loadVar T (← Instr.sureAddr _)).run P w
                rw [he]
                rfl
              simp only [Sem.run_bind, e, Result.andThen_ok, v3]
              rfl
    | _ => rw [hx] at h; cases h

theorem run_results {fn : Func} {tmps : Array Value} {vs : List Value} (h : (fn.results.toList.mapM (resVal P tmps)).run P w = .ok vs w) : (results fn tmps).run P w = .ok (packRes vs) w := by
  have e : results fn tmps = (do let vs ← fn.results.mapM (resVal P tmps); pure (if h : vs.size = 1 then vs[0] else Value.tuple vs)) := by
    unfold results
    congr 1
  rw [e, Array.mapM_eq_mapM_toList]
  simp only [Sem.run_bind, map_eq_pure_bind]
  rw [h]
  simp only [Result.andThen_ok]
  match vs with
  | [] => rfl
  | [v] => rfl
  | v :: u :: vs =>
    simp [packRes, Sem.run, pure, Sem.pure]

theorem has_mono {en en' : En} {tok : Nat → Option Tok} {z : List Nat} (h : ∀ t ∈ z, ∀ q, tok t = some q → RepD w en.K (.sl q.B q.xs) (en.VT t)) (hk : ∀ b o, en.K b o → en'.K b o) (hv : en'.VT = en.VT) :
    ∀ t ∈ z, ∀ q, tok t = some q → RepD w en'.K (.sl q.B q.xs) (en'.VT t) := fun t ht q hq => by
  rw [hv]; exact (h t ht q hq).mono hk

theorem natsFrom_nodup : ∀ (i n : Nat), (natsFrom i n).Nodup
  | _, 0 => .nil
  | i, n + 1 => by
    unfold natsFrom
    rw [List.nodup_cons]
    refine ⟨fun h => ?_, natsFrom_nodup _ _⟩
    have := natsFrom_mem h
    simp only [Rng] at this
    omega

/-- What a function's end says. -/
theorem fin_sound {K : CS} {m : Nat} {G : Nat → Nat} {hm : m ≤ 1000} {Ls : List CS} {sg : Sig} {R : Pay sg.kinds} {fn : Func} (r : RelE en st Fr a w w0 (uni Ls) ⟨K, m, G, hm⟩) (hb : sg.bx.length = m) (h : fin P fn.results.toList sg R st) :
    ∃ ds rs K' L1 L2, (results fn a.tmps).run P w = .ok (packRes rs) w ∧ Pay.app sg.kinds R ds ∧ ResRep w K' (mkVals sg.res ds).1 rs L1 ∧ BRepL w K' (mkBxs sg.bx (mkVals sg.res ds).2) ((natsFrom 0 m).map G) L2 ∧ Good w K' (L1 ++ L2) ∧
      Unch w0 w (uni Ls) ∧ (∀ b o, K' b o → K b o ∨ Al w0 (uni Ls) b o) ∧ ∀ F ∈ L1 ++ L2, ∀ b o, F b o → Al w0 (uni Ls) b o := by
  unfold fin at h
  split at h
  case h_2 => exact h.elim
  rename_i ss hss
  split at h
  case h_2 => exact h.elim
  rename_i ds o z es os zs h1 h2
  split at h
  case h_2 => exact h.elim
  rename_i hd
  simp only [Bool.and_eq_true] at hd
  have hn := distinct_nodup hd.1
  have hz : ∀ t ∈ o ++ os, t ∉ z ++ zs := fun t ht => elem_false (by have := List.all_eq_true.1 hd.2 t ht; exact this)
  obtain ⟨rs, hrs, hrun⟩ := resSlots_spec r hss
  obtain ⟨O1, e1, l1, s1⟩ := retVals_spec (tok0 := st.tok) h1
  obtain ⟨O2, e2, l2, b2, s2⟩ := retBoxes_spec h2
  obtain ⟨en1, r1, k1, f1, v1, hl1⟩ := r.lowerAll (tok0 := st.tok) (l := z ++ zs) fun t q h _ => .inl h
  obtain ⟨ds1, db1, dt1⟩ := down_other st.tok 1 (z ++ zs) st
  have e12 : (O1 ++ O2).map (·.1) = o ++ os := by rw [List.map_append, e1, e2]
  have l12 : Lev st.tok (O1 ++ O2) := fun x hx => (List.mem_append.1 hx).elim (l1 x) (l2 x)
  have tok1 : ∀ x ∈ O1 ++ O2, (st.apps (toksDown st.tok 1 (z ++ zs))).tok x.1 = st.tok x.1 := fun x hx => dt1 x.1 (hz x.1 (by rw [← e12]; exact List.mem_map_of_mem hx))
  obtain ⟨en2, S2, r2, k2, f2, v2, bx2, _, t2⟩ := lower_list (OL := O1 ++ O2) r1 (by rw [e12]; exact hn) fun x hx => by
    rw [tok1 x hx]; exact l12 x hx
  have tok2 : ∀ x ∈ O1 ++ O2, ∀ q, st.tok x.1 = some q → S2.tok x.1 = some { q with L := x.2 } := fun x hx q hq => t2 x hx q (by rw [tok1 x hx]; exact hq)
  have box2 : S2.box = st.box := bx2.trans db1
  have hhas : Has w en2 st.tok (O1 ++ O2) (z ++ zs) := ⟨has_mono (by rw [v1]; exact hl1) k2 v2, fun x hx q hq => r2.toks _ _ (tok2 x hx q hq)⟩
  have hK : ∀ b o, en.K b o → en2.K b o := fun b o h => k2 b o (k1 b o h)
  have hslots : ∀ {s : Slot} {v : Value}, SlotRep w en st.tok s v → ∃ tok0, SlotRep w en2 tok0 s v := fun h => ⟨fun _ => none, h.env hK (fun i _ => by rw [v2, v1]) (fun i _ => by rw [f2, f1]) fun i q _ h => (nomatch h)⟩
  obtain ⟨its1, as1, p1, p2, p3, p4⟩ := s1 w en2 rs ⟨hrs.1, fun j s hj => by
    obtain ⟨v, q1, q2⟩ := hrs.2 j s hj
    refine ⟨v, q1, q2.env hK (fun i _ => by rw [v2, v1]) (fun i _ => by rw [f2, f1]) fun i q _ h => ⟨q, h, rfl, Nat.le_refl _⟩⟩⟩ hhas.left
  obtain ⟨its2, q2, q3, q4⟩ := s2 w en2 (fun b cs h => r2.boxes b cs (by rw [box2]; exact h)) hhas.right
  have htk : (its1 ++ its2).filterMap itT = o ++ os := by rw [List.filterMap_append, p3, q3]
  have hbk : (its1 ++ its2).filterMap itB = natsFrom 0 sg.bx.length := by rw [List.filterMap_append, p4, q4]; rfl
  obtain ⟨hg, hf⟩ := r2.handed (its := its1 ++ its2) (by rw [htk]; exact hn) (by rw [hbk]; exact natsFrom_nodup _ _) (fun t ht => by
    rw [htk, ← e12] at ht
    obtain ⟨x, hx, rfl⟩ := List.mem_map.1 ht
    obtain ⟨q, hq, _⟩ := l12 x hx
    exact ⟨_, tok2 x hx q hq⟩) (fun b hb' => by
    rw [hbk] at hb'
    rw [box2]; exact b2 b hb')
  rw [List.map_append] at hg hf
  refine ⟨ds ++ es, rs, en2.K, its1.map (itF en2), its2.map (itF en2), run_results hrun, h, by rw [p1]; exact p2, ?_, hg, r2.un, fun b o h => r2.ks b o h, fun F hF => (hf F hF).a⟩
  rw [p1]
  have : (natsFrom 0 sg.bx.length).map en2.FB = (natsFrom 0 m).map G := by
    rw [hb]
    refine List.map_congr_left fun b hb' => (r2.fb b ?_).1
    have := natsFrom_mem hb'
    simp only [Rng] at this
    show b < m
    omega
  rw [← this]
  exact q2

theorem inRep_len {w : World} {K : CS} {as : List Arg} {vs : List Value} {gs : List Nat} {Ls : List CS} (h : InRep w K as vs gs Ls) : vs.length = as.length := by
  induction h with
  | nil => rfl
  | val _ _ ih => simp [ih]
  | box _ _ ih => simp [ih]
  | fn _ _ ih => simp [ih]

end

/-- What is known of all data in memory. -/
def DFact : D → Prop
  | .int k n => (Lit.int k n).wf = true
  | .bool _ => True
  | .str s => s.length ≤ maxLen
  | .sl B xs => xs.length ≤ maxLen ∧ xs.length * B ≤ capB

def CFact : Cell → Prop
  | .c d => DFact d
  | _ => True

structure Facts (st : St) : Prop where
  slot : ∀ s b cs, st.slot s = .v b cs → ∀ c ∈ cs, CFact c
  box : ∀ b cs, st.box b = some cs → ∀ c ∈ cs, CFact c
  tok : ∀ t q, st.tok t = some q → q.xs.length ≤ maxLen ∧ q.xs.length * q.B ≤ capB

theorem RepD.fact {w : World} {K : CS} {d : D} {v : Value} (h : RepD w K d v) : DFact d := by
  cases h with
  | int h => exact h
  | bool => trivial
  | str h => exact h
  | nil => exact ⟨Nat.zero_le _, by simp⟩
  | sl _ _ _ hb hm => exact ⟨hm, hb⟩

theorem CellRep.fact {w : World} {en : En} {c : Cell} {v : Value} (h : CellRep w en c v) : CFact c := by
  cases h with
  | c h => exact h.fact
  | _ => trivial

theorem CellsRep.fact {w : World} {en : En} {cs : List Cell} {arr : Array Value} (h : CellsRep w en cs arr) : ∀ c ∈ cs, CFact c := by
  intro c hc
  obtain ⟨j, hj⟩ := List.mem_iff_getElem?.1 hc
  obtain ⟨u, _, h2⟩ := h.2 j c hj
  exact h2.fact

theorem RelE.facts {en : En} {st : St} {Fr : Nat → Prop} {a : Act} {w w0 : World} {W : CS} {K0 : Kb} (r : RelE en st Fr a w w0 W K0) : Facts st where
  slot s b cs h := by
    have := r.slots s
    rw [h] at this
    generalize a.tmps.getD s undef = v at this
    cases this with
    | v h =>
      cases h with
      | one h => intro c hc; obtain rfl := List.mem_singleton.1 hc; exact h.fact
      | agg h => exact h.fact
  box b cs h := by
    obtain ⟨arr, T, _, h2⟩ := r.boxes b cs h
    exact h2.fact
  tok t q h := by
    have := r.toks t q h
    generalize en.VT t = v at this
    generalize en.FT t = F at this
    cases this with
    | nil => exact ⟨Nat.zero_le _, by simp⟩
    | one _ _ _ h1 h2 h3 => exact ⟨Nat.le_trans h1 h2, h3⟩
    | two _ _ _ h1 h2 h3 => exact ⟨Nat.le_trans h1 h2, h3⟩
    | three _ _ _ _ h1 h2 h3 => exact ⟨Nat.le_trans h1 h2, h3⟩

theorem Facts.sd {st : St} (hf : Facts st) (s : Nat) (b : Bool) (cs : List Cell) (j : Nat) (d : D) (h : st.slot s = .v b cs) (hj : cs[j]? = some (.c d)) : DFact d :=
  hf.slot s b cs h _ (List.mem_of_getElem? hj)
theorem Facts.bd {st : St} (hf : Facts st) (s : Nat) (cs : List Cell) (j : Nat) (d : D) (h : st.box s = some cs) (hj : cs[j]? = some (.c d)) : DFact d :=
  hf.box s cs h _ (List.mem_of_getElem? hj)
theorem Facts.td {st : St} (hf : Facts st) (t L T e B : Nat) (xs : List (List D)) (h : st.tok t = some ⟨L, T, e, B, xs⟩) : DFact (.sl B xs) :=
  hf.tok t _ h

/-- Loops by a measure. -/
theorem loops_sound {cx : Cx} {w0 : World} {W : CS} {K0 : Kb} {R : St → Prop} {Q : Act → World → Prop} {m : Nat} {μ : Type} {lt : μ → μ → Prop} (wf : WellFounded lt) (Inv : μ → List Item → St → Prop)
    (hm : cx.P.follows .mixedOrders = true) (hR : ∀ st en a w, R st → st.n = m → RelE en st (fun k => st.base ≤ k) a w w0 W K0 → Q a w)
    (hI : ∀ x td st, Inv x td st → Facts st → ∃ n, wpt cx (fun td' st' => ∃ y, lt y x ∧ Inv y td' st') R n td st) :
    ∀ x td st, Inv x td st → st.n = m → SemT cx.P w0 W K0 Q td st := by
  intro x
  induction x using wf.induction with
  | _ x ih =>
    intro td st h hn en a w r b cs
    obtain ⟨n, h'⟩ := hI x td st h r.facts
    exact wpt_sound hm (fun td' st' ⟨y, hy, hi⟩ hn' => ih y hy td' st' hi hn') hR n td st h' hn en a w r b cs

/-- A contract is proved. -/
theorem C_loops {cx : Cx} {f : FuncId} {fn : Func} {c : Code} {args : List Arg} {R : Pay (cx.sg f).kinds} {μ : Type} {lt : μ → μ → Prop} (wf : WellFounded lt) (Inv : μ → List Item → St → Prop)
    (hf : cx.P.funcs[f]? = some fn) (hb : fn.body = some c) (hm : cx.P.follows .mixedOrders = true) (hc : (Nat.beq (cx.sg f).bx.length (argBoxes args) && (Nat.ble (argBoxes args) 500 && (Nat.ble (argToks args) 500 && Nat.ble args.length fn.ntmps))) = true)
    (hI : ∀ x td st, Inv x td st → Facts st → ∃ n, wpt cx (fun td' st' => ∃ y, lt y x ∧ Inv y td' st') (fin cx.P fn.results.toList (cx.sg f) R) n td st)
    (h : Facts (initSt args fn.ntmps) → ∃ n, wpt cx (fun td' st' => ∃ y, Inv y td' st') (fin cx.P fn.results.toList (cx.sg f) R) n [.code c] (initSt args fn.ntmps)) : C cx.P f args (cx.sg f) R := by
  refine ⟨fun w K vs gs Ls hin hgood cs => ?_⟩
  simp only [Bool.and_eq_true] at hc
  have c1 := Nat.eq_of_beq_eq_true hc.1
  have c2 := Nat.le_of_ble_eq_true hc.2.1
  have c3 := Nat.le_of_ble_eq_true hc.2.2.1
  have c4 := Nat.le_of_ble_eq_true hc.2.2.2
  have hlen := inRep_len hin
  have hsz : (vs.toArray ++ Array.replicate (fn.ntmps - vs.toArray.size) undef).size = fn.ntmps := by simp; omega
  obtain ⟨en, G, r, hG⟩ := init_rel hin hgood hsz (fun j v hj => by
    have hlt := (List.getElem?_eq_some_iff.1 hj).1
    rw [Array.getD_eq_getD_getElem?, Array.getElem?_append_left (by simpa using hlt)]
    simp [hj]) c2 c3
  let b : Frame := { (default : Frame) with fn := f, kind := .normal }
  have henter : Frame.enter cx.P f vs.toArray .normal =
      b.at { tmps := vs.toArray ++ Array.replicate (fn.ntmps - vs.toArray.size) undef, defers := [] } [.code c] := by
    simp [Frame.enter, Frame.at, hf, hb, b]
  have hend : ∀ st en a w', fin cx.P fn.results.toList (cx.sg f) R st → st.n = fn.ntmps → RelE en st (fun k => st.base ≤ k) a w' w (uni Ls) ⟨K, argBoxes args, G, by omega⟩ →
      (a.defers = [] ∧ ∃ ds rs K' L1 L2, (results fn a.tmps).run cx.P w' = .ok (packRes rs) w' ∧ Pay.app (cx.sg f).kinds R ds ∧ ResRep w' K' (mkVals (cx.sg f).res ds).1 rs L1 ∧ BRepL w' K' (mkBxs (cx.sg f).bx (mkVals (cx.sg f).res ds).2) gs L2 ∧ Good w' K' (L1 ++ L2) ∧
      Unch w w' (uni Ls) ∧ (∀ b o, K' b o → K b o ∨ Al w (uni Ls) b o) ∧ ∀ F ∈ L1 ++ L2, ∀ b o, F b o → Al w (uni Ls) b o) := by
    intro st en a w' hfin hn r'
    refine ⟨r'.defers, ?_⟩
    rw [← hG]
    exact fin_sound r' c1 hfin
  obtain ⟨n, h⟩ := h r.facts
  have hn0 : (initSt args fn.ntmps).n = fn.ntmps := apps_n _ _
  have hb0 : (initSt args fn.ntmps).base = 1000 := apps_base _ _
  obtain ⟨a', w', todo, ⟨hd, ds, rs, K', L1, L2, q0, q1, q2, q3, q4, q5, q6, q7⟩, hs⟩ := wpt_sound (cx := cx) hm (fun td' st' ⟨y, hi⟩ hn' => loops_sound wf Inv hm hend hI y td' st' hi hn') hend n [.code c] _ h hn0 en _ w (r.fewer fun k hk => by rw [hb0] at hk; exact hk) b cs
  refine ⟨.returned (packRes rs), w', { b.at a' todo with mode := .returning }, ⟨ds, rs, K', L1, L2, q1, rfl, q2, q3, q4, q5, q6, q7⟩, ?_, rfl, rfl, hd, rfl, fn, hf, q0⟩
  rw [henter]
  exact hs

/-- The same, in the words of a printed rule. -/
theorem C_rule {cx : Cx} {P : Program} {f : FuncId} {fn : Func} {c : Code} {args : List Arg} {sg : Sig} {rv : List ResultVar} {N : Nat} {R : Pay sg.kinds} {μ : Type} {lt : μ → μ → Prop} (wf : WellFounded lt) (Inv : μ → List Item → St → Prop)
    (hP : cx.P = P) (hs : cx.sg f = sg) (hf : P.funcs[f]? = some fn) (hb : fn.body = some c) (hrv : fn.results.toList = rv) (hN : fn.ntmps = N) (hm : P.follows .mixedOrders = true)
    (hc : (Nat.beq sg.bx.length (argBoxes args) && (Nat.ble (argBoxes args) 500 && (Nat.ble (argToks args) 500 && Nat.ble args.length N))) = true)
    (hI : ∀ x td st, Inv x td st → Facts st → wpt cx (fun td' st' => ∃ y, lt y x ∧ Inv y td' st') (fin P rv sg R) 100000 td st)
    (h : Facts (initSt args N) → wpt cx (fun td' st' => ∃ y, Inv y td' st') (fin P rv sg R) 100000 [.code c] (initSt args N)) : C P f args sg R := by
  subst hP hs hrv hN
  exact C_loops wf Inv hf hb hm hc (fun x td st h1 h2 => ⟨_, hI x td st h1 h2⟩) (fun h1 => ⟨_, h h1⟩)

end Go.Gl
