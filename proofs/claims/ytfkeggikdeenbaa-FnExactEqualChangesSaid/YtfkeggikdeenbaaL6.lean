/- New boxes and tokens; boxes and tokens that are written. -/
import Derived.Test.YtfkeggikdeenbaaL5
set_option linter.unusedVariables false
set_option linter.unusedSimpArgs false
namespace Go.Gl
open Go.RowKit

section
variable {en : En} {st : St} {Fr : Nat → Prop} {a : Act} {w w' w0 : World} {W X : CS} {K0 : Kb}

theorem RelE.al_new (r : RelE en st Fr a w w0 W K0) {b o : Nat} (h : w.heap.size ≤ b) : Al w0 W b o := .inl (Nat.le_trans r.un.size h)

theorem RelE.box_lt (r : RelE en st Fr a w w0 W K0) {b : Nat} {cs : List Cell} (h : st.box b = some cs) : en.FB b < w.heap.size :=
  let ⟨_, _, h1, _⟩ := r.boxes b cs h; heap_lt h1

theorem RelE.alloc (r : RelE en st Fr a w w0 W K0) (o : Obj) : RelE en st Fr a (w.alloc o) w0 W K0 :=
  r.world (X := fun _ _ => False) (Unch.alloc w o _) (fun _ _ _ h => h) (fun _ _ _ _ h => h) (fun _ _ _ _ _ _ h => h) fun _ _ h => h.elim

theorem RelE.drew (r : RelE en st Fr a w w0 W K0) : RelE en st Fr a w.drew w0 W K0 :=
  r.world (X := fun _ _ => False) (Unch.drew w _) (fun _ _ _ h => h) (fun _ _ _ _ h => h) (fun _ _ _ _ _ _ h => h) fun _ _ h => h.elim

theorem heap_new (w : World) (o : Obj) : (w.alloc o).heap[w.heap.size]? = some o := heap_alloc_new w o

theorem RelE.newBox (r : RelE en st Fr a w w0 W K0) {i : Nat} (hi : Fr i) {cs : List Cell} {arr : Array Value} (T : TypeId) (hc : CellsRep w en cs arr) (hm : ∀ k, Fr k → ¬ cellsMen k cs) :
    RelE { en with FB := upd en.FB i w.heap.size } (st.app (.box i cs)) (fun k => Fr k ∧ k ≠ i) a (w.alloc (.cells arr T)) w0 W K0 := by
  have r' := r.alloc (.cells arr T)
  have hn : ∀ b c, upd st.box i (some cs) b = some c → (b = i ∧ c = cs) ∨ (b ≠ i ∧ st.box b = some c) := fun b c h => by
    rw [upd_eq] at h; split at h
    · exact .inl ⟨by assumption, (Option.some.inj h).symm⟩
    · exact .inr ⟨by assumption, h⟩
  have hold : ∀ b, b ≠ i → upd en.FB i w.heap.size b = en.FB b := fun b h => upd_ne _ _ _ h
  have hnew : upd en.FB i w.heap.size i = w.heap.size := upd_self _ _ _
  exact { r' with
    free := ⟨fun k hk => r.free.slot k hk.1, fun k hk => (upd_ne _ _ _ hk.2).trans (r.free.box k hk.1), fun k hk => r.free.tok k hk.1, fun k hk b c h => by
      rcases hn b c h with ⟨rfl, rfl⟩ | ⟨_, h⟩
      · exact hm k hk.1
      · exact r.free.cell k hk.1 b c h⟩
    slots := fun s => (r'.slots s).env (fun _ _ h => h) (fun _ _ => rfl) (fun k hk => hold k fun e => r.free.slot i hi s (e ▸ hk)) fun k tk' _ h => ⟨tk', h, rfl, Nat.le_refl _⟩
    boxes := fun b c h => by
      rcases hn b c h with ⟨rfl, rfl⟩ | ⟨hne, h⟩
      · show BoxRep _ _ (upd en.FB b w.heap.size b) c
        rw [hnew]
        exact ⟨arr, T, heap_new w _, (Unch.alloc w (.cells arr T) (fun _ _ => False)).cellsRep (en := { en with FB := upd en.FB b w.heap.size }) (fun _ _ _ h => h) (hc.env (fun _ _ h => h) fun _ _ => rfl)⟩
      · show BoxRep _ _ (upd en.FB i w.heap.size b) c
        rw [hold b hne]
        exact (r'.boxes b c h).env (fun _ _ h => h) fun _ _ => rfl
    bb := fun b b' c c' h h' hne => by
      show upd en.FB i w.heap.size b ≠ upd en.FB i w.heap.size b'
      rcases hn b c h with ⟨rfl, rfl⟩ | ⟨hne1, g⟩
      · rcases hn b' c' h' with ⟨rfl, rfl⟩ | ⟨hne2, g'⟩
        · exact absurd rfl hne
        · rw [hnew, hold b' hne2]; have := r.box_lt g'; omega
      · rcases hn b' c' h' with ⟨rfl, rfl⟩ | ⟨hne2, g'⟩
        · rw [hnew, hold b hne1]; have := r.box_lt g; omega
        · rw [hold b hne1, hold b' hne2]; exact r.bb b b' c c' g g' hne
    bt := fun b t c tk h ht o hf => by
      have hf' : en.FT t (upd en.FB i w.heap.size b) o := hf
      rcases hn b c h with ⟨rfl, rfl⟩ | ⟨hne, h⟩
      · rw [hnew] at hf'; exact absurd ((r.toks t tk ht).lt _ _ hf') (Nat.lt_irrefl _)
      · rw [hold b hne] at hf'; exact r.bt b t c tk h ht o hf'
    kb := fun b c h o hk => by
      have hk' : en.K (upd en.FB i w.heap.size b) o := hk
      rcases hn b c h with ⟨rfl, rfl⟩ | ⟨hne, h⟩
      · rw [hnew] at hk'; exact absurd (r.kl _ _ hk') (Nat.lt_irrefl _)
      · rw [hold b hne] at hk'; exact r.kb b c h o hk'
    ba := fun b c h o => by
      show Al w0 W (upd en.FB i w.heap.size b) o
      rcases hn b c h with ⟨rfl, rfl⟩ | ⟨hne, h⟩
      · rw [hnew]; exact r.al_new (Nat.le_refl _)
      · rw [hold b hne]; exact r.ba b c h o
    fb := fun b hb => ⟨(hold b fun e => (r.fb b hb).2 (e ▸ hi)).trans (r.fb b hb).1, fun h => (r.fb b hb).2 h.1⟩ }

theorem RelE.newTok (r : RelE en st Fr a w w0 W K0) {i : Nat} (hi : Fr i) {tk : Tok} {v : Value} {F : CS} (hT : TokRep w en.K tk v F)
    (hk : ∀ b o, F b o → ¬ en.K b o) (hb : ∀ b cs, st.box b = some cs → ∀ o, ¬ F (en.FB b) o) (ht : ∀ t q, st.tok t = some q → ∀ b o, F b o → ¬ en.FT t b o) (ha : ∀ b o, F b o → Al w0 W b o) :
    RelE { en with FT := upd en.FT i F, VT := upd en.VT i v } (st.app (.tok i (some tk))) (fun k => Fr k ∧ k ≠ i) a w w0 W K0 := by
  have hn : ∀ t q, upd st.tok i (some tk) t = some q → (t = i ∧ q = tk) ∨ (t ≠ i ∧ st.tok t = some q) := fun t q h => by
    rw [upd_eq] at h; split at h
    · exact .inl ⟨by assumption, (Option.some.inj h).symm⟩
    · exact .inr ⟨by assumption, h⟩
  have oldF : ∀ t, t ≠ i → upd en.FT i F t = en.FT t := fun t h => upd_ne _ _ _ h
  have newF : upd en.FT i F i = F := upd_self _ _ _
  have oldV : ∀ t, t ≠ i → upd en.VT i v t = en.VT t := fun t h => upd_ne _ _ _ h
  have newV : upd en.VT i v i = v := upd_self _ _ _
  exact { r with
    free := ⟨fun k hk => r.free.slot k hk.1, fun k hk => r.free.box k hk.1, fun k hk => (upd_ne _ _ _ hk.2).trans (r.free.tok k hk.1), fun k hk => r.free.cell k hk.1⟩
    slots := fun s => (r.slots s).env (fun _ _ h => h) (fun k hk => oldV k fun e => r.free.slot i hi s (e ▸ hk)) (fun _ _ => rfl) fun k tk' hk h => by
      rcases hn k tk' h with ⟨rfl, _⟩ | ⟨_, h⟩
      · exact absurd hk (r.free.slot k hi s)
      · exact ⟨tk', h, rfl, Nat.le_refl _⟩
    boxes := fun b c h => (r.boxes b c h).env (fun _ _ h => h) fun k hk => oldV k fun e => r.free.cell i hi b c h (e ▸ hk)
    toks := fun t q h => by
      show TokRep w en.K q (upd en.VT i v t) (upd en.FT i F t)
      rcases hn t q h with ⟨rfl, rfl⟩ | ⟨hne, h⟩
      · rw [newV, newF]; exact hT
      · rw [oldV t hne, oldF t hne]; exact r.toks t q h
    bt := fun b t c q h h' o hf => by
      have hf' : upd en.FT i F t (en.FB b) o := hf
      rcases hn t q h' with ⟨rfl, rfl⟩ | ⟨hne, h'⟩
      · rw [newF] at hf'; exact hb b c h o hf'
      · rw [oldF t hne] at hf'; exact r.bt b t c q h h' o hf'
    tt := fun t t' q q' h h' hne b o h1 h2 => by
      have h1' : upd en.FT i F t b o := h1
      have h2' : upd en.FT i F t' b o := h2
      rcases hn t q h with ⟨rfl, rfl⟩ | ⟨hne1, g⟩
      · rcases hn t' q' h' with ⟨rfl, rfl⟩ | ⟨hne2, g'⟩
        · exact hne rfl
        · rw [newF] at h1'; rw [oldF t' hne2] at h2'; exact ht t' q' g' b o h1' h2'
      · rcases hn t' q' h' with ⟨rfl, rfl⟩ | ⟨hne2, g'⟩
        · rw [oldF t hne1] at h1'; rw [newF] at h2'; exact ht t q g b o h2' h1'
        · rw [oldF t hne1] at h1'; rw [oldF t' hne2] at h2'; exact r.tt t t' q q' g g' hne b o h1' h2'
    kt := fun t q h b o h1 h2 => by
      have h1' : upd en.FT i F t b o := h1
      rcases hn t q h with ⟨rfl, rfl⟩ | ⟨hne, h⟩
      · rw [newF] at h1'; exact hk b o h1' h2
      · rw [oldF t hne] at h1'; exact r.kt t q h b o h1' h2
    ta := fun t q h b o h1 => by
      have h1' : upd en.FT i F t b o := h1
      rcases hn t q h with ⟨rfl, rfl⟩ | ⟨hne, h⟩
      · rw [newF] at h1'; exact ha b o h1'
      · rw [oldF t hne] at h1'; exact r.ta t q h b o h1'
    fb := fun b hb => ⟨(r.fb b hb).1, fun h => (r.fb b hb).2 h.1⟩ }

/-- A box is written: no other block has changed. -/
theorem RelE.setBox (r : RelE en st Fr a w w0 W K0) {b : Nat} {cs cs' : List Cell} (hb : st.box b = some cs) (hu : Unch w w' fun g _ => g = en.FB b) (hc : BoxRep w' en (en.FB b) cs') (hm : ∀ k, Fr k → ¬ cellsMen k cs') :
    RelE en (st.app (.box b cs')) Fr a w' w0 W K0 := by
  have hn : ∀ b' c, upd st.box b (some cs') b' = some c → (b' = b ∧ c = cs') ∨ (b' ≠ b ∧ st.box b' = some c) := fun b' c h => by
    rw [upd_eq] at h; split at h
    · exact .inl ⟨by assumption, (Option.some.inj h).symm⟩
    · exact .inr ⟨by assumption, h⟩
  have hl : ∀ b' c, upd st.box b (some cs') b' = some c → ∃ c', st.box b' = some c' := fun b' c h => by
    rcases hn b' c h with ⟨rfl, _⟩ | ⟨_, h⟩
    · exact ⟨cs, hb⟩
    · exact ⟨c, h⟩
  have hK : ∀ g o, en.K g o → ¬ g = en.FB b := fun g o h e => r.kb b cs hb o (e ▸ h)
  exact {
    free := { r.free with
      box := fun k hk => (upd_ne _ _ _ (fun e => by rw [← e, r.free.box k hk] at hb; cases hb)).trans (r.free.box k hk)
      cell := fun k hk b' c h => by
        rcases hn b' c h with ⟨rfl, rfl⟩ | ⟨_, h⟩
        · exact hm k hk
        · exact r.free.cell k hk b' c h }
    size := r.size
    defers := r.defers
    slots := fun s => hu.slotRep hK (r.slots s)
    boxes := fun b' c h => by
      rcases hn b' c h with ⟨rfl, rfl⟩ | ⟨hne, h⟩
      · exact hc
      · exact hu.boxRep hK (fun o e => r.bb b' b c cs h hb hne e) (r.boxes b' c h)
    toks := fun t q h => hu.tokRep hK (r.toks t q h) fun g o hf e => r.bt b t cs q hb h o (e ▸ hf)
    bb := fun b1 b2 c1 c2 h1 h2 hne => by
      obtain ⟨c3, h3⟩ := hl b1 c1 h1
      obtain ⟨c4, h4⟩ := hl b2 c2 h2
      exact r.bb b1 b2 c3 c4 h3 h4 hne
    bt := fun b1 t c q h h' => by obtain ⟨c3, h3⟩ := hl b1 c h; exact r.bt b1 t c3 q h3 h'
    tt := r.tt
    kb := fun b1 c h => by obtain ⟨c3, h3⟩ := hl b1 c h; exact r.kb b1 c3 h3
    kt := r.kt
    ks := r.ks
    kl := fun g o h => Nat.lt_of_lt_of_le (r.kl g o h) hu.size
    ba := fun b1 c h => by obtain ⟨c3, h3⟩ := hl b1 c h; exact r.ba b1 c3 h3
    ta := r.ta
    un := r.un.trans2 hu fun g o hlt e => (r.ba b cs hb o).elim (fun h => by subst e; omega) (fun h => by subst e; exact h)
    fb := r.fb }

/-- A token's cells are written; what else was its own, or was given up, may now be its own. -/
theorem RelE.setTok (r : RelE en st Fr a w w0 W K0) {t : Nat} {tk tk' : Tok} {F' : CS} (ht : st.tok t = some tk) (hu : Unch w w' X) (hT : TokRep w' en.K tk' (en.VT t) F') (he : tk.e = tk'.e) (hlen : tk.xs.length ≤ tk'.xs.length)
    (hxk : ∀ b o, en.K b o → ¬ X b o) (hxb : ∀ b cs, st.box b = some cs → ∀ o, ¬ X (en.FB b) o) (hxt : ∀ t' q, st.tok t' = some q → t' ≠ t → ∀ b o, en.FT t' b o → ¬ X b o) (hxa : ∀ b o, X b o → Al w0 W b o)
    (hk : ∀ b o, F' b o → ¬ en.K b o) (hb : ∀ b cs, st.box b = some cs → ∀ o, ¬ F' (en.FB b) o) (htt : ∀ t' q, st.tok t' = some q → t' ≠ t → ∀ b o, F' b o → ¬ en.FT t' b o) (ha : ∀ b o, F' b o → Al w0 W b o) :
    RelE { en with FT := upd en.FT t F' } (st.app (.tok t (some tk'))) Fr a w' w0 W K0 := by
  have hn : ∀ t' q, upd st.tok t (some tk') t' = some q → (t' = t ∧ q = tk') ∨ (t' ≠ t ∧ st.tok t' = some q) := fun t' q h => by
    rw [upd_eq] at h; split at h
    · exact .inl ⟨by assumption, (Option.some.inj h).symm⟩
    · exact .inr ⟨by assumption, h⟩
  have oldF : ∀ t', t' ≠ t → upd en.FT t F' t' = en.FT t' := fun t' h => upd_ne _ _ _ h
  have newF : upd en.FT t F' t = F' := upd_self _ _ _
  exact {
    free := { r.free with tok := fun k hk => (upd_ne _ _ _ (fun e => by rw [← e, r.free.tok k hk] at ht; cases ht)).trans (r.free.tok k hk) }
    size := r.size
    defers := r.defers
    slots := fun s => (hu.slotRep hxk (r.slots s)).env (fun _ _ h => h) (fun _ _ => rfl) (fun _ _ => rfl) fun k q _ h => by
      rcases hn k q h with ⟨rfl, rfl⟩ | ⟨_, h⟩
      · exact ⟨tk, ht, he, hlen⟩
      · exact ⟨q, h, rfl, Nat.le_refl _⟩
    boxes := fun b c h => (hu.boxRep hxk (hxb b c h) (r.boxes b c h)).env (fun _ _ h => h) fun _ _ => rfl
    toks := fun t' q h => by
      show TokRep w' en.K q (en.VT t') (upd en.FT t F' t')
      rcases hn t' q h with ⟨rfl, rfl⟩ | ⟨hne, h⟩
      · rw [newF]; exact hT
      · rw [oldF t' hne]; exact hu.tokRep hxk (r.toks t' q h) (hxt t' q h hne)
    bb := r.bb
    bt := fun b t' c q h h' o hf => by
      have hf' : upd en.FT t F' t' (en.FB b) o := hf
      rcases hn t' q h' with ⟨rfl, rfl⟩ | ⟨hne, h'⟩
      · rw [newF] at hf'; exact hb b c h o hf'
      · rw [oldF t' hne] at hf'; exact r.bt b t' c q h h' o hf'
    tt := fun t1 t2 q1 q2 h1 h2 hne b o g1 g2 => by
      have g1' : upd en.FT t F' t1 b o := g1
      have g2' : upd en.FT t F' t2 b o := g2
      rcases hn t1 q1 h1 with ⟨rfl, rfl⟩ | ⟨hne1, i1⟩
      · rcases hn t2 q2 h2 with ⟨rfl, rfl⟩ | ⟨hne2, i2⟩
        · exact hne rfl
        · rw [newF] at g1'; rw [oldF t2 hne2] at g2'; exact htt t2 q2 i2 hne2 b o g1' g2'
      · rcases hn t2 q2 h2 with ⟨rfl, rfl⟩ | ⟨hne2, i2⟩
        · rw [oldF t1 hne1] at g1'; rw [newF] at g2'; exact htt t1 q1 i1 hne1 b o g2' g1'
        · rw [oldF t1 hne1] at g1'; rw [oldF t2 hne2] at g2'; exact r.tt t1 t2 q1 q2 i1 i2 hne b o g1' g2'
    kb := r.kb
    kt := fun t' q h b o h1 h2 => by
      have h1' : upd en.FT t F' t' b o := h1
      rcases hn t' q h with ⟨rfl, rfl⟩ | ⟨hne, h⟩
      · rw [newF] at h1'; exact hk b o h1' h2
      · rw [oldF t' hne] at h1'; exact r.kt t' q h b o h1' h2
    ks := r.ks
    kl := fun g o h => Nat.lt_of_lt_of_le (r.kl g o h) hu.size
    ba := r.ba
    ta := fun t' q h b o h1 => by
      have h1' : upd en.FT t F' t' b o := h1
      rcases hn t' q h with ⟨rfl, rfl⟩ | ⟨hne, h⟩
      · rw [newF] at h1'; exact ha b o h1'
      · rw [oldF t' hne] at h1'; exact r.ta t' q h b o h1'
    un := r.un.trans2 hu fun g o hlt hx => (hxa g o hx).elim (fun h => by omega) (fun h => h)
    fb := r.fb }

end
end Go.Gl
