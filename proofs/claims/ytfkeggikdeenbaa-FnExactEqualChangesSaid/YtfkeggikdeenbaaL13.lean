/- What is given up, and what a new slice owns. -/
import Derived.Test.YtfkeggikdeenbaaL12
set_option linter.unusedVariables false
set_option linter.unusedSimpArgs false
namespace Go.Gl
open Go.RowKit

theorem kill_tok (ts : List Nat) (st : St) (t : Nat) : (st.apps (kill ts)).tok t = if t ∈ ts then none else st.tok t := by
  induction ts generalizing st with
  | nil => simp [kill, St.apps]
  | cons x ts ih =>
    show ((st.app (.tok x none)).apps (kill ts)).tok t = _
    rw [ih]
    show (if t ∈ ts then none else upd st.tok x none t) = _
    rw [upd_eq]
    by_cases h1 : t ∈ ts
    · simp [h1]
    · by_cases h2 : t = x <;> simp [h1, h2]

theorem kill_box (ts : List Nat) (st : St) : (st.apps (kill ts)).box = st.box := by
  induction ts generalizing st with
  | nil => rfl
  | cons x ts ih => exact ih _

theorem kill_slot (ts : List Nat) (st : St) : (st.apps (kill ts)).slot = st.slot := by
  induction ts generalizing st with
  | nil => rfl
  | cons x ts ih => exact ih _

theorem kill_append (ts us : List Nat) : kill (ts ++ us) = kill ts ++ kill us := by
  induction ts with
  | nil => rfl
  | cons x ts ih => simp [kill, ih]

def tokOf : Cell → List Nat
  | .tk t => [t]
  | _ => []

/-- A cell tells a datum. -/
def IsD (tok : Nat → Option Tok) (c : Cell) (d : D) : Prop :=
  c = .c d ∨ (c = .nil ∧ ∃ B, d = .sl B []) ∨ ∃ t q, c = .tk t ∧ tok t = some q ∧ d = .sl q.B q.xs

theorem toD_spec {tok : Nat → Option Tok} {k : CK} {c : Cell} {d : D} {l : List Nat} (h : c.toD tok k = some (d, l)) : IsD tok c d ∧ l = tokOf c := by
  cases c with
  | any => cases k <;> cases h
  | c d' =>
    have : some (d', ([] : List Nat)) = some (d, l) := by cases k <;> exact h
    obtain ⟨rfl, rfl⟩ := Prod.mk.inj (Option.some.inj this)
    exact ⟨.inl rfl, rfl⟩
  | nil =>
    cases k with
    | sl T e B =>
      obtain ⟨rfl, rfl⟩ := Prod.mk.inj (Option.some.inj h)
      exact ⟨.inr (.inl ⟨rfl, _, rfl⟩), rfl⟩
    | _ => cases h
  | tk t =>
    have h' : (match tok t with | some q => some (D.sl q.B q.xs, [t]) | none => none) = some (d, l) := by cases k <;> exact h
    cases ht : tok t with
    | none => rw [ht] at h'; cases h'
    | some q =>
      rw [ht] at h'
      obtain ⟨rfl, rfl⟩ := Prod.mk.inj (Option.some.inj h')
      exact ⟨.inr (.inr ⟨t, q, rfl, ht, rfl⟩), rfl⟩

theorem cellsToD_spec {tok : Nat → Option Tok} : ∀ {ks : List CK} {cs : List Cell} {ds : List D} {ts : List Nat}, cellsToD tok ks cs = some (ds, ts) →
    ds.length = cs.length ∧ ks.length = cs.length ∧ ts = cs.flatMap tokOf ∧ ∀ (j : Nat) (d : D), ds[j]? = some d → ∃ c, cs[j]? = some c ∧ IsD tok c d
  | [], [], ds, ts, h => by
    obtain ⟨rfl, rfl⟩ := Prod.mk.inj (Option.some.inj h)
    exact ⟨rfl, rfl, rfl, fun j d hj => by simp at hj⟩
  | k :: ks, c :: cs, ds, ts, h => by
    unfold cellsToD at h
    cases h1 : c.toD tok k with
    | none => rw [h1] at h; cases h
    | some x =>
      obtain ⟨d, l⟩ := x
      cases h2 : cellsToD tok ks cs with
      | none => rw [h1, h2] at h; cases h
      | some y =>
        obtain ⟨es, us⟩ := y
        rw [h1, h2] at h
        obtain ⟨rfl, rfl⟩ := Prod.mk.inj (Option.some.inj h)
        obtain ⟨a1, a2, a3, a4⟩ := cellsToD_spec h2
        obtain ⟨b1, b2⟩ := toD_spec h1
        refine ⟨by simp [a1], by simp [a2], by simp [a3, b2], fun j d' hj => ?_⟩
        cases j with
        | zero => obtain rfl := Option.some.inj hj; exact ⟨c, rfl, b1⟩
        | succ j => exact a4 j d' hj
  | [], _ :: _, _, _, h => by cases h
  | _ :: _, [], _, _, h => by cases h

theorem elem_false {t : Nat} {l : List Nat} (h : (!(l.elem t)) = true) : t ∉ l := by
  intro hm
  have : l.elem t = true := by rw [List.elem_eq_contains]; simpa using hm
  rw [this] at h; cases h

theorem distinct_nodup : ∀ {l : List Nat}, distinct l = true → l.Nodup
  | [], _ => .nil
  | x :: xs, h => by
    simp only [distinct, Bool.and_eq_true] at h
    exact List.nodup_cons.2 ⟨elem_false h.1, distinct_nodup h.2⟩

theorem allDeep_spec {tok : Nat → Option Tok} : ∀ {l : List Nat}, allDeep tok l = true → l.Nodup ∧ ∀ t ∈ l, ∃ q, tok t = some q ∧ q.L = 3
  | [], _ => ⟨.nil, fun _ h => by cases h⟩
  | x :: xs, h => by
    simp only [allDeep, Bool.and_eq_true] at h
    obtain ⟨⟨h1, h2⟩, h3⟩ := h
    obtain ⟨h4, h5⟩ := allDeep_spec h3
    refine ⟨List.nodup_cons.2 ⟨elem_false h2, h4⟩, fun t ht => ?_⟩
    rcases List.mem_cons.1 ht with rfl | ht
    · cases hq : tok t with
      | none => rw [hq] at h1; cases h1
      | some q => rw [hq] at h1; exact ⟨q, rfl, Nat.eq_of_beq_eq_true h1⟩
    · exact h5 t ht

theorem noneConst_spec : ∀ {cs : List Cell}, noneConst cs = true → ∀ c ∈ cs, ∀ d, c = .c d → d.scal = true
  | [], _, _, h, _, _ => by cases h
  | c :: cs, h, c', h', d, hd => by
    simp only [noneConst, Bool.and_eq_true] at h
    rcases List.mem_cons.1 h' with rfl | h'
    · subst hd; exact h.1
    · exact noneConst_spec h.2 c' h' d hd

theorem RepD.scalDeep {w : World} {K : CS} {d : D} {v : Value} (h : RepD w K d v) (hs : d.scal = true) : DeepD w d v (fun _ _ => False) := by
  cases h with
  | int h => exact .int h
  | bool => exact .bool
  | str h => exact .str h
  | nil => cases hs
  | sl => cases hs

theorem TokRep.deepD {w : World} {K : CS} {t : Tok} {v : Value} {F : CS} (h : TokRep w K t v F) (hl : t.L = 3) : DeepD w (.sl t.B t.xs) v F := by
  cases h with
  | nil => exact .nil
  | one => cases hl
  | two => cases hl
  | three f G hh hz hn hcm hb hx hc hr hg hd => exact .sl _ f G hh hz hn hcm hb hx hc hr hg hd

/-- What a cell owns. -/
def cellF (en : En) : Cell → CS
  | .tk t => en.FT t
  | _ => fun _ _ => False

theorem okRow_len : ∀ {ks : List CK} {y : List D}, okRow ks y = true → y.length = ks.length
  | [], [], _ => rfl
  | k :: ks, d :: ds, h => by
    simp only [okRow, Bool.and_eq_true] at h
    simp [okRow_len h.2]
  | [], _ :: _, h => by cases h
  | _ :: _, [], h => by cases h

theorem okRow_scal : ∀ {ks : List CK} {y : List D}, okRow ks y = true → flats ks = true → ∀ d ∈ y, d.scal = true
  | [], [], _, _, _, h => by cases h
  | k :: ks, d :: ds, h, hf, d', hd => by
    simp only [okRow, flats, Bool.and_eq_true] at h hf
    rcases List.mem_cons.1 hd with rfl | hd
    · have := h.1; rw [hf.1] at this; exact this
    · exact okRow_scal h.2 hf.2 d' hd
  | [], _ :: _, h, _, _, _ => by cases h
  | _ :: _, [], h, _, _, _ => by cases h

section
variable {P : Program} {en : En} {st : St} {Fr : Nat → Prop} {a : Act} {w w' w0 : World} {W X : CS} {K0 : Kb} {o : Oper} {f : Nat}

theorem RelE.dropAll (r : RelE en st Fr a w w0 W K0) (ts : List Nat) : RelE en (st.apps (kill ts)) Fr a w w0 W K0 := by
  induction ts generalizing st with
  | nil => exact r
  | cons t ts ih => exact ih (r.dropTok t)

theorem RelE.freezeAll (r : RelE en st Fr a w w0 W K0) (ts : List Nat) :
    ∃ K', RelE { en with K := K' } (st.apps (kill ts)) Fr a w w0 W K0 ∧ (∀ b o, en.K b o → K' b o) ∧ ∀ t ∈ ts, ∀ tk, st.tok t = some tk → RepD w K' (.sl tk.B tk.xs) (en.VT t) := by
  induction ts generalizing st en with
  | nil => exact ⟨en.K, r, fun _ _ h => h, fun _ h => by cases h⟩
  | cons t ts ih =>
    have step : ∃ K1, RelE { en with K := K1 } (st.app (.tok t none)) Fr a w w0 W K0 ∧ (∀ b o, en.K b o → K1 b o) ∧ ∀ tk, st.tok t = some tk → RepD w K1 (.sl tk.B tk.xs) (en.VT t) := by
      cases ht : st.tok t with
      | none => exact ⟨en.K, r.dropTok t, fun _ _ h => h, fun tk h => by cases h⟩
      | some tk =>
        obtain ⟨r1, h1⟩ := r.freeze ht
        exact ⟨_, r1, fun _ _ h => .inl h, fun tk' h => by obtain rfl := Option.some.inj h; exact h1⟩
    obtain ⟨K1, r1, hk1, h1⟩ := step
    obtain ⟨K2, r2, hk2, h2⟩ := ih r1
    refine ⟨K2, r2, fun b o h => hk2 b o (hk1 b o h), fun t' ht' tk htk => ?_⟩
    by_cases e : t' = t
    · subst e; exact (h1 tk htk).mono hk2
    · exact h2 t' ((List.mem_cons.1 ht').resolve_left e) tk (by show upd st.tok t none t' = _; rw [upd_ne _ _ _ e]; exact htk)

theorem IsD.repD {K' : CS} {c : Cell} {d : D} {v : Value} (hd : IsD st.tok c d) (hc : CellRep w en c v) (hk : ∀ b o, en.K b o → K' b o) (ht : ∀ t ∈ tokOf c, ∀ q, st.tok t = some q → RepD w K' (.sl q.B q.xs) (en.VT t)) : RepD w K' d v := by
  rcases hd with rfl | ⟨rfl, B, rfl⟩ | ⟨t, q, rfl, hq, rfl⟩
  · cases hc with | c h => exact h.mono hk
  · cases hc; exact .nil
  · cases hc; exact ht t (by simp [tokOf]) q hq

theorem IsD.deepD (r : RelE en st Fr a w w0 W K0) {c : Cell} {d : D} {v : Value} (hd : IsD st.tok c d) (hc : CellRep w en c v) (hs : ∀ d', c = .c d' → d'.scal = true) (ht : ∀ t ∈ tokOf c, ∃ q, st.tok t = some q ∧ q.L = 3) : DeepD w d v (cellF en c) := by
  rcases hd with rfl | ⟨rfl, B, rfl⟩ | ⟨t, q, rfl, hq, rfl⟩
  · cases hc with | c h => exact h.scalDeep (hs _ rfl)
  · cases hc; exact .nil
  · cases hc
    obtain ⟨q', h1, h2⟩ := ht t (by simp [tokOf])
    rw [hq] at h1
    obtain rfl := Option.some.inj h1
    exact (r.toks t q hq).deepD h2

/-- A part of what the tokens ts owned. -/
def within (en : En) (st : St) (ts : List Nat) (F : CS) : Prop := ∀ b o, F b o → ∃ t ∈ ts, (∃ q, st.tok t = some q) ∧ en.FT t b o

theorem kill_some {ts : List Nat} {t : Nat} {q : Tok} (h : (st.apps (kill ts)).tok t = some q) : t ∉ ts ∧ st.tok t = some q := by
  rw [kill_tok] at h
  split at h
  · cases h
  · exact ⟨by assumption, h⟩

/-- A new row of cells, with all that its elements own. -/
theorem RelE.newDeep (r : RelE en st Fr a w w0 W K0) (hf : Fr f) (ts : List Nat) {T e B : Nat} {xs : List (List D)} {cap : Nat} {arr : Array Value} (g : Nat → Nat → Value) (G : Nat → Nat → CS)
    (hz : arr.size = cap * e) (hn : xs.length ≤ cap) (hcm : cap ≤ maxLen) (hb : xs.length * B ≤ capB) (hx : ∀ (i : Nat) (x : List D), xs[i]? = some x → x.length = e)
    (hc : ∀ (i j : Nat) (x : List D) (d : D), xs[i]? = some x → x[j]? = some d → arr[i * e + j]? = some (g i j))
    (hr : ∀ (i j : Nat) (x : List D) (d : D), xs[i]? = some x → x[j]? = some d → DeepD w d (g i j) (G i j))
    (hw : ∀ (i j : Nat) (x : List D) (d : D), xs[i]? = some x → x[j]? = some d → within en st ts (G i j))
    (hd : ∀ (i j : Nat) (x : List D) (d : D) (i' j' : Nat) (x' : List D) (d' : D), xs[i]? = some x → x[j]? = some d → xs[i']? = some x' → x'[j']? = some d' → (i, j) ≠ (i', j') → ∀ b o, G i j b o → ¬ G i' j' b o) :
    ∃ FT', RelE { en with FT := FT', VT := upd en.VT f (.slice (some ⟨w.heap.size, 0, none⟩) xs.length cap) } (st.apps (kill ts ++ [.tok f (some ⟨3, T, e, B, xs⟩)])) (fun k => Fr k ∧ k ≠ f) a (w.alloc (.cells arr T)) w0 W K0 := by
  rw [apps_append]
  have r1 := (r.dropAll ts).alloc (.cells arr T)
  have hlt : ∀ i j x d, xs[i]? = some x → x[j]? = some d → ∀ b o, G i j b o → b < w.heap.size := fun i j x d h1 h2 => (hr i j x d h1 h2).lt
  have hT : TokRep (w.alloc (.cells arr T)) en.K ⟨3, T, e, B, xs⟩ (.slice (some ⟨w.heap.size, 0, none⟩) xs.length cap) _ :=
    .three g G (heap_new w _) hz hn hcm hb hx hc (fun i j x d h1 h2 => (Unch.alloc w (.cells arr T) (fun _ _ => False)).deepD (hr i j x d h1 h2) fun _ _ _ h => h)
      (fun i j x d h1 h2 o h => Nat.lt_irrefl _ (hlt i j x d h1 h2 _ _ h)) hd
  refine ⟨_, r1.newTok hf hT ?_ ?_ ?_ ?_⟩
  · rintro b o (⟨rfl, _⟩ | ⟨i, j, x, d, h1, h2, hG⟩) hk
    · exact Nat.lt_irrefl _ (r.kl _ _ hk)
    · obtain ⟨t, ht, ⟨q, hq⟩, hF⟩ := hw i j x d h1 h2 b o hG
      exact r.kt t q hq b o hF hk
  · rintro b cs hb' o (⟨e1, _⟩ | ⟨i, j, x, d, h1, h2, hG⟩)
    · rw [kill_box] at hb'
      have := r.box_lt hb'
      omega
    · rw [kill_box] at hb'
      obtain ⟨t, ht, ⟨q, hq⟩, hF⟩ := hw i j x d h1 h2 _ o hG
      exact r.bt b t cs q hb' hq o hF
  · rintro t q hq b o (⟨rfl, _⟩ | ⟨i, j, x, d, h1, h2, hG⟩) hF'
    · exact Nat.lt_irrefl _ ((r.toks t q (kill_some hq).2).lt _ _ hF')
    · obtain ⟨hnt, hq⟩ := kill_some hq
      obtain ⟨t', ht', ⟨q', hq'⟩, hF⟩ := hw i j x d h1 h2 b o hG
      exact r.tt t' t q' q hq' hq (fun e => hnt (e ▸ ht')) b o hF hF'
  · rintro b o (⟨rfl, _⟩ | ⟨i, j, x, d, h1, h2, hG⟩)
    · exact r.al_new (Nat.le_refl _)
    · obtain ⟨t, ht, ⟨q, hq⟩, hF⟩ := hw i j x d h1 h2 b o hG
      exact r.ta t q hq b o hF

/-- A new row of cells whose elements are read. -/
theorem RelE.newTwo (r : RelE en st Fr a w w0 W K0) (hf : Fr f) {T e B : Nat} {xs : List (List D)} {cap : Nat} {arr : Array Value} (g : Nat → Nat → Value)
    (hz : arr.size = cap * e) (hn : xs.length ≤ cap) (hcm : cap ≤ maxLen) (hb : xs.length * B ≤ capB) (hx : ∀ (i : Nat) (x : List D), xs[i]? = some x → x.length = e)
    (hc : ∀ (i j : Nat) (x : List D) (d : D), xs[i]? = some x → x[j]? = some d → arr[i * e + j]? = some (g i j))
    (hr : ∀ (i j : Nat) (x : List D) (d : D), xs[i]? = some x → x[j]? = some d → RepD w en.K d (g i j)) :
    ∃ FT', RelE { en with FT := FT', VT := upd en.VT f (.slice (some ⟨w.heap.size, 0, none⟩) xs.length cap) } (st.app (.tok f (some ⟨2, T, e, B, xs⟩))) (fun k => Fr k ∧ k ≠ f) a (w.alloc (.cells arr T)) w0 W K0 := by
  have r1 := r.alloc (.cells arr T)
  have hT : TokRep (w.alloc (.cells arr T)) en.K ⟨2, T, e, B, xs⟩ (.slice (some ⟨w.heap.size, 0, none⟩) xs.length cap) _ :=
    .two g (heap_new w _) hz hn hcm hb hx hc (fun i j x d h1 h2 => (Unch.alloc w (.cells arr T) (fun _ _ => False)).repD (fun _ _ _ h => h) (hr i j x d h1 h2))
  refine ⟨_, r1.newTok hf hT ?_ ?_ ?_ ?_⟩
  · rintro b o ⟨rfl, _⟩ hk
    exact Nat.lt_irrefl _ (r.kl _ _ hk)
  · rintro b cs hb' o ⟨e1, _⟩
    have := r.box_lt hb'
    omega
  · rintro t q hq b o ⟨rfl, _⟩ hF'
    exact Nat.lt_irrefl _ ((r.toks t q hq).lt _ _ hF')
  · rintro b o ⟨rfl, _⟩
    exact r.al_new (Nat.le_refl _)

end
end Go.Gl
