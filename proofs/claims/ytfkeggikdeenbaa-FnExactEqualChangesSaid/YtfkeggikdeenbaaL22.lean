/- Each operation of the model does what the logic's machine says. -/
import Derived.Test.YtfkeggikdeenbaaL21
set_option linter.unusedVariables false
set_option linter.unusedSimpArgs false
namespace Go.Gl
open Go.RowKit

theorem exP_elim : ∀ {ks : List CK} {K : List D → Prop}, ExP ks K → ∃ ds, ds.length = ks.length ∧ (flats ks = true → ∀ d ∈ ds, d.scal = true) ∧ K ds
  | [], K, h => ⟨[], rfl, fun _ _ h => (nomatch h), h⟩
  | .int k :: ks, K, ⟨n, h⟩ => by
    obtain ⟨ds, h1, h2, h3⟩ := exP_elim h
    refine ⟨.int k n :: ds, by simp [h1], fun hf d hd => ?_, h3⟩
    rcases List.mem_cons.1 hd with rfl | hd
    · rfl
    · simp only [flats, Bool.and_eq_true] at hf; exact h2 hf.2 d hd
  | .bool :: ks, K, ⟨n, h⟩ => by
    obtain ⟨ds, h1, h2, h3⟩ := exP_elim h
    refine ⟨.bool n :: ds, by simp [h1], fun hf d hd => ?_, h3⟩
    rcases List.mem_cons.1 hd with rfl | hd
    · rfl
    · simp only [flats, Bool.and_eq_true] at hf; exact h2 hf.2 d hd
  | .str :: ks, K, ⟨n, h⟩ => by
    obtain ⟨ds, h1, h2, h3⟩ := exP_elim h
    refine ⟨.str n :: ds, by simp [h1], fun hf d hd => ?_, h3⟩
    rcases List.mem_cons.1 hd with rfl | hd
    · rfl
    · simp only [flats, Bool.and_eq_true] at hf; exact h2 hf.2 d hd
  | .sl T e B :: ks, K, ⟨n, h⟩ => by
    obtain ⟨ds, h1, h2, h3⟩ := exP_elim h
    exact ⟨.sl B n :: ds, by simp [h1], fun hf => by simp [flats, CK.flat] at hf, h3⟩

section
variable {P : Program} {en : En} {st : St} {Fr : Nat → Prop} {a : Act} {w w' w0 : World} {W K X : CS} {K0 : Kb} {o : Oper} {f : Nat}

/-- The operation does so. -/
def Sound (P : Program) (en : En) (st : St) (Fr : Nat → Prop) (a : Act) (w w0 : World) (W : CS) (K0 : Kb) (o : Oper) (f : Nat) (d : Det) : Prop :=
  ∀ ds : List D, ds.length = d.ks.length → (flats d.ks = true → ∀ x ∈ ds, x.scal = true) → holdsO (d.body ds).1 → Goes P o a w (After en Fr (st.apps (d.body ds).2) (fun k => Fr k ∧ k ≠ f) w0 W K0)

theorem sound_ok {us : List Upd} {d : Det} (h : okD o us = some d) (hg : Goes P o a w (After en Fr (st.apps us) (fun k => Fr k ∧ k ≠ f) w0 W K0)) : Sound P en st Fr a w w0 W K0 o f d := by
  obtain rfl := Option.some.inj h
  exact fun ds _ _ _ => hg

theorem bif_some {α : Type} {b : Bool} {x : Option α} {y : α} (h : (bif b then x else none) = some y) : b = true ∧ x = some y := by
  cases b with
  | true => exact ⟨rfl, h⟩
  | false => cases h

theorem load_sound (r : RelE en st Fr a w w0 W K0) (hd : ∀ d, o.dst = some d → d < st.n) {T : TypeId} {x : Operand} (ho : o.op = .load T x) {d : Det} (h : loadDet P o T (st.ev x) st.box st.tok = some d) : Sound P en st Fr a w w0 W K0 o f d := by
  unfold loadDet at h
  split at h
  · cases h
  · rename_i ks hk
    split at h
    · rename_i b off hx
      split at h
      · rename_i cs hb
        obtain ⟨hc, h⟩ := bif_some h
        exact sound_ok h (sound_load_lp r hd ho hk hx hb (Nat.le_of_ble_eq_true hc))
      · cases h
    · rename_i xs i off hx
      obtain rfl := Option.some.inj h
      exact fun ds hl _ hφ => sound_load_cp r hd ho hk hx hφ hl
    · rename_i t i off hx
      split at h
      · rename_i tk ht
        obtain ⟨hc, h⟩ := bif_some h
        obtain rfl := Option.some.inj h
        intro ds hl hs hφ
        refine sound_load_ep r hd ho hk hx ht hφ hl ?_
        rw [Bool.or_eq_true] at hc
        rcases hc with hc | hc
        · exact .inl (Nat.le_of_ble_eq_true hc)
        · by_cases h3 : tk.L < 3
          · exact .inl h3
          · refine .inr ⟨?_, hs hc⟩
            have hxr := r.ev x
            rw [hx] at hxr
            generalize he : a.eval x = v at hxr
            cases hxr with
            | ep hxr =>
              obtain ⟨hil, b, n0, cap0, hv, rfl⟩ := hxr tk ht
              rcases (r.toks t tk ht).row with ⟨hv0, _⟩ | ⟨_, _, _, _, _, _, _, _, hL, _⟩
              · rw [hv] at hv0; cases hv0
              · omega
      · cases h
    · cases h

theorem store_sound (r : RelE en st Fr a w w0 W K0) (hd : ∀ d, o.dst = some d → d < st.n) {T : TypeId} {x y : Operand} (ho : o.op = .store T x y) {d : Det} (h : storeDet P o T (st.ev x) (st.ev y) st.box st.tok = some d) : Sound P en st Fr a w w0 W K0 o f d := by
  unfold storeDet at h
  split at h
  · rename_i ks new hk hy
    obtain ⟨hl, h⟩ := bif_some h
    have hl := Nat.eq_of_beq_eq_true hl
    split at h
    · rename_i b off hx
      split at h
      · rename_i cs hb
        obtain ⟨hc, h⟩ := bif_some h
        exact sound_ok h (sound_store_lp r hd ho hk hx hb hy hl (Nat.le_of_ble_eq_true hc))
      · cases h
    · rename_i t i off hx
      split at h
      · rename_i tk ht
        split at h
        · rename_i ds ts hcd
          obtain ⟨hc, h⟩ := bif_some h
          obtain rfl := Option.some.inj h
          rw [Bool.and_eq_true] at hc
          intro _ _ _ hφ
          refine sound_store_ep r hd ho hk hx ht hy hl hcd (elem_false hc.1) ?_ hφ
          have h2 := hc.2
          rw [Bool.or_eq_true] at h2
          rcases h2 with h2 | h2
          · exact .inl (Nat.eq_of_beq_eq_true h2)
          · simp only [Bool.and_eq_true] at h2
            exact .inr ⟨Nat.eq_of_beq_eq_true h2.1.1, h2.1.2, h2.2⟩
        · cases h
      · cases h
    · cases h
  · cases h

theorem index_sound (r : RelE en st Fr a w w0 W K0) (hd : ∀ d, o.dst = some d → d < st.n) {T E : TypeId} {x i : Operand} (ho : o.op = .indexAddr T x i) (hT : P.underlying T = some (.slice E)) (hE : P.cellsOf E ≠ 0) {d : Det} (h : indexDet P o E (st.ev x) (st.ev i) st.tok = some d) : Sound P en st Fr a w w0 W K0 o f d := by
  unfold indexDet at h
  split at h
  · rename_i n hi
    split at h
    · rename_i B xs hx
      obtain rfl := Option.some.inj h
      exact fun _ _ _ hφ => sound_index_const r hd ho hT hE hx hi hφ.1 hφ.2.1 hφ.2.2
    · rename_i t hx
      split at h
      · rename_i tk ht
        obtain ⟨hc, h⟩ := bif_some h
        obtain rfl := Option.some.inj h
        exact fun _ _ _ hφ => sound_index_tok r hd ho hT hE hx ht (Nat.eq_of_beq_eq_true hc) hi hφ.1 hφ.2
      · cases h
    · cases h
  · cases h

theorem slice_sound (r : RelE en st Fr a w w0 W K0) (hd : ∀ d, o.dst = some d → d < st.n) {T : TypeId} {x : Operand} {lo hi : Option Operand} (ho : o.op = .slice T x lo hi none) {d : Det} (h : sliceDet P o T (st.ev x) (lo.map st.ev) (hi.map st.ev) = some d) : Sound P en st Fr a w w0 W K0 o f d := by
  unfold sliceDet at h
  split at h
  · rename_i hT
    split at h
    · rename_i s hx
      split at h
      · rename_i l hh hl1 hh1
        obtain rfl := Option.some.inj h
        exact fun _ _ _ hφ => sound_slice_str r hd ho hT hx hl1 hh1 hφ.1 hφ.2.1 hφ.2.2
      · cases h
    · cases h
  · rename_i E hT
    split at h
    · rename_i B xs hx
      split at h
      · rename_i i l hh hinf hl1 hh1
        obtain rfl := Option.some.inj h
        exact fun _ _ _ hφ => sound_slice_sl r hd ho hT hx hl1 hh1 hφ.1 hφ.2.1 hφ.2.2.1 hφ.2.2.2 ⟨i, hinf⟩
      · cases h
    · cases h
  · cases h

theorem conv_sound (r : RelE en st Fr a w w0 W K0) (hd : ∀ d, o.dst = some d → d < st.n) {src dst : TypeId} {x : Operand} (ho : o.op = .convert src dst x) {d : Det} (h : convDet P o src dst (st.ev x) st.tok = some d) : Sound P en st Fr a w w0 W K0 o f d := by
  unfold convDet at h
  split at h
  · cases h
  · rename_i d1 hs
    split at h
    · rename_i k k' n hT hx
      exact sound_ok h (sound_conv r hd ho hs hT hx)
    · cases h

theorem makeSlice_sound (r : RelE en st Fr a w w0 W K0) (hd : ∀ d, o.dst = some d → d < st.n) (hf : Fr f) {T : TypeId} {x y : Operand} (ho : o.op = .makeSlice T x y) {d : Det} (h : makeSliceDet P o f T (st.ev x) (st.ev y) = some d) : Sound P en st Fr a w w0 W K0 o f d := by
  unfold makeSliceDet at h
  split at h
  · rename_i n m hx hy
    split at h
    · rename_i E e B hT
      split at h
      · rename_i ks hk
        obtain ⟨hc, h⟩ := bif_some h
        obtain rfl := Option.some.inj h
        rw [Bool.and_eq_true] at hc
        intro _ _ _ hφ
        obtain ⟨h0, rfl, hb⟩ := hφ
        exact sound_makeSlice r hd hf ho hT hk (Nat.le_of_ble_eq_true hc.1) (Nat.eq_of_beq_eq_true hc.2) hx hy h0 hb
      · cases h
    · cases h
  · cases h

theorem append_sound (r : RelE en st Fr a w w0 W K0) (hd : ∀ d, o.dst = some d → d < st.n) (hf : Fr f) {c : Call} {x y : Operand} {Ts Tx : TypeId} (ho : o.op = .call c) (hc : c.callee = .builtin .append) (ha : c.args.toList = [x, y]) (hts : c.argTypes.toList = [Ts, Tx])
    {d : Det} (h : appendDet P o f Ts Tx (st.ev x) (st.ev y) st.tok = some d) : Sound P en st Fr a w w0 W K0 o f d := by
  unfold appendDet at h
  split at h
  · rename_i E e B hT
    split at h
    · rename_i ks str hk hstr
      split at h
      · rename_i lx xs tx ly φ ys ty hX hY
        obtain ⟨hcc, h⟩ := bif_some h
        obtain rfl := Option.some.inj h
        simp only [Bool.and_eq_true] at hcc
        intro _ _ _ hφ
        have hkind : kindOf P Tx str := by
          split at hstr
          · rename_i hu
            obtain rfl := Option.some.inj hstr
            exact ⟨fun _ => hu, fun h => by cases h⟩
          · rename_i e' hu
            obtain rfl := Option.some.inj hstr
            exact ⟨fun h => (by cases h), fun _ => ⟨e', hu⟩⟩
          · cases hstr
        exact sound_append r hd hf ho hc ha hts hT hk (Nat.eq_of_beq_eq_true hcc.1.2) (Nat.le_of_ble_eq_true hcc.1.1) hkind hX hY (distinct_nodup hcc.2) hφ.1 hφ.2
      · cases h
    · cases h
  · cases h

theorem opDet_sound (r : RelE en st Fr a w w0 W K0) (hd : ∀ d, o.dst = some d → d < st.n) (hf : Fr f) {d : Det} (h : opDet P o f st.ev st.box st.tok = some d) : Sound P en st Fr a w w0 W K0 o f d := by
  unfold opDet at h
  split at h
  case h_1 x ho => exact sound_ok h (sound_move r hd (.inl ho))
  case h_2 x ho => exact sound_ok h (sound_move r hd (.inr ho))
  case h_3 c x y ho =>
    split at h
    · rename_i t hc; exact sound_ok h (sound_pick r hd ho hc)
    · cases h
  case h_4 T ho =>
    split at h
    · rename_i cs hc; exact sound_ok h (sound_alloc r hd hf ho hc)
    · cases h
  case h_5 T x ho =>
    split at h
    · rename_i ks cs hk hc
      obtain ⟨_, h⟩ := bif_some h
      exact sound_ok h (sound_box r hd hf ho hc)
    · cases h
  case h_6 T parts ho =>
    split at h
    · rename_i fs hu
      split at h
      · rename_i z hz
        split at h
        · rename_i cs hc; exact sound_ok h (sound_build r hd ho hu hz hc)
        · cases h
      · cases h
    · cases h
  case h_7 T n parts ho =>
    split at h
    · rename_i E e B hT
      split at h
      · rename_i ks hk
        split at h
        · rename_i rows ts b hr
          obtain ⟨hc, h⟩ := bif_some h
          simp only [Bool.and_eq_true] at hc
          exact sound_ok h (sound_buildSlice r hd hf ho hT hk (Nat.eq_of_beq_eq_true hc.1.1.2) hr (Nat.eq_of_beq_eq_true hc.1.1.1) (Nat.le_of_ble_eq_true hc.1.2) (Nat.le_of_ble_eq_true hc.2))
        · cases h
      · cases h
    · cases h
  case h_8 T x ho => exact load_sound r hd ho h
  case h_9 T x y ho => exact store_sound r hd ho h
  case h_10 x ho =>
    have hxr := r.ev x
    split at h
    · rename_i b off hx
      rw [hx] at hxr
      generalize he : a.eval x = v at hxr
      cases hxr
      exact sound_ok h (sound_nilCheck r hd ho hx he (.inl ⟨_, rfl⟩))
    · rename_i xs i off hx
      rw [hx] at hxr
      generalize he : a.eval x = v at hxr
      cases hxr
      exact sound_ok h (sound_nilCheck r hd ho hx he (.inl ⟨_, rfl⟩))
    · rename_i t i off hx
      rw [hx] at hxr
      split at h
      · rename_i tk ht
        generalize he : a.eval x = v at hxr
        cases hxr with
        | ep hxr =>
          obtain ⟨hil, b, n0, cap0, hv, rfl⟩ := hxr tk ht
          exact sound_ok h (sound_nilCheck r hd ho hx he (.inl ⟨_, rfl⟩))
      · cases h
    · rename_i g cs hx
      rw [hx] at hxr
      generalize he : a.eval x = v at hxr
      cases hxr
      exact sound_ok h (sound_nilCheck r hd ho hx he (.inr ⟨_, _, rfl⟩))
    · cases h
  case h_11 op T x y T' ho =>
    split at h
    · rename_i φ s hb
      obtain rfl := Option.some.inj h
      exact fun _ _ _ hφ => sound_binOp r hd ho hb hφ
    · cases h
  case h_12 T x ho =>
    split at h
    · rename_i b hx; exact sound_ok h (sound_not r hd ho hx)
    · cases h
  case h_13 src dst x ho => exact conv_sound r hd ho h
  case h_14 g first captured ho =>
    obtain ⟨hc, h⟩ := bif_some h
    split at h
    · rename_i cs hcs; exact sound_ok h (sound_makeFunc r hd ho (Nat.eq_of_beq_eq_true hc) hcs)
    · cases h
  case h_15 T l c ho => exact makeSlice_sound r hd hf ho h
  case h_16 T x lo hi mx ho =>
    split at h
    · cases h
    · exact slice_sound r hd ho h
  case h_17 S x i ho =>
    split at h
    · rename_i fo hfo
      split at h
      · rename_i b off hx; exact sound_ok h (sound_fieldAddr r hd ho hfo hx (.inl ⟨_, _, rfl, rfl⟩))
      · rename_i xs i off hx; exact sound_ok h (sound_fieldAddr r hd ho hfo hx (.inr (.inl ⟨_, _, _, rfl, rfl⟩)))
      · rename_i t i off hx
        split at h
        · rename_i tk ht; exact sound_ok h (sound_fieldAddr r hd ho hfo hx (.inr (.inr ⟨_, _, _, rfl, rfl, _, ht⟩)))
        · cases h
      · cases h
    · cases h
  case h_18 T x i ho =>
    split at h
    · rename_i E hT
      cases hE : Nat.beq (P.cellsOf E) 0 with
      | true => rw [hE] at h; cases h
      | false =>
        rw [hE] at h
        exact index_sound r hd ho hT (fun e => by rw [e] at hE; cases hE) h
    · cases h
  case h_19 T x i ho =>
    split at h
    · rename_i hT
      split at h
      · rename_i s n hx hi
        obtain rfl := Option.some.inj h
        exact fun _ _ _ hφ => sound_index_str r hd ho hT hx hi hφ.1 hφ.2
      · cases h
    · cases h
  case h_20 x i ho =>
    split at h
    · rename_i s hs; exact sound_ok h (sound_extract r hd ho hs)
    · cases h
  case h_21 c ho =>
    split at h
    · rename_i hc
      split at h
      · rename_i x T r1 ha hts
        split at h
        · rename_i n hn; exact sound_ok h (sound_len r hd ho hc ha hts hn)
        · cases h
      · cases h
    · rename_i hc
      split at h
      · rename_i x y Ts Tx ha hts; exact append_sound r hd hf ho hc ha hts h
      · cases h
    · rename_i hc
      split at h
      · rename_i s hs; exact sound_ok h (sound_max r hd ho (mx := true) hc hs)
      · cases h
    · rename_i hc
      split at h
      · rename_i s hs; exact sound_ok h (sound_max r hd ho (mx := false) hc hs)
      · cases h
    · cases h
  case h_22 => cases h

end
end Go.Gl
