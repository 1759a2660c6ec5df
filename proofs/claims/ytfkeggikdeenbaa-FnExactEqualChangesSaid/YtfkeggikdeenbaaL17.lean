/- Slices are appended to: the operation. -/
import Derived.Test.YtfkeggikdeenbaaL16
set_option linter.unusedVariables false
set_option linter.unusedSimpArgs false
namespace Go.Gl
open Go.RowKit

section
variable {P : Program} {en : En} {st : St} {Fr : Nat → Prop} {a : Act} {w w' w0 : World} {W K X : CS} {K0 : Kb} {o : Oper} {f : Nat}

theorem run_grow {Ts Tx ty E e B : Nat} (hT : sliceT P Ts = some (E, e, B)) {ks : List CK} (hk : layZ P E = some ks) (he : ks.length = e) (hB : 0 < B) {vy : Value} {n m cap : Nat} {news olds : List Value} {A : Option Addr} (hs : Src P e Tx vy n news w)
    (hold : (Builtin.firstCells e m (.slice A m cap)).run P w.drew = .ok olds.toArray w.drew) (hol : olds.length = m * e) (hg : cap < m + n) (hb : (m + n) * B ≤ capB) :
    ∃ N arr, m + n ≤ N ∧ N ≤ maxLen ∧ (Builtin.append_ #[Ts, Tx] ty #[.slice A m cap, vy]).run P w = .ok (.slice (some ⟨w.heap.size, 0, none⟩) (m + n) N) (w.drew.alloc (.cells arr E)) ∧ arr.size = N * e ∧
      ∀ (k : Nat) (v : Value), (olds ++ news)[k]? = some v → arr[k]? = some v := by
  obtain ⟨hu, i, hi, hsz, hby⟩ := sliceT_spec hT
  obtain ⟨hl, i', z, hi', hz, hkk⟩ := layZ_spec hk
  rw [hi] at hi'
  obtain rfl := Option.some.inj hi'
  have hlen : z.cells.size = e := by have := zKinds_length hkk; rw [Array.length_toList] at this; omega
  have hn47 : m + n ≤ 140737488355328 := by
    have : (m + n) * 1 ≤ (m + n) * B := Nat.mul_le_mul_left _ hB
    unfold capB at hb; omega
  have hml : m + n ≤ maxLen := by unfold maxLen; omega
  have hfit := growslice_fits (need := m + n) (old := cap) (bytes := i.bytes) hg (by rw [hby]; exact hb)
  have hrun := run_append_grow_src (P := P) w Ts Tx ty E i z hu hi hz A m cap olds (by rw [hsz]; exact hold) vy n news (by rw [hsz]; exact hs) hg (by omega) hfit
  have hge := grownCap_ge w (m + n) cap E
  refine ⟨_, _, hge, grownCap_le_maxLen w (m + n) cap E hml, hrun, ?_, fun k v hk => ?_⟩
  · simp only [Array.size_append, List.size_toArray, List.length_append, hol, hs.newsLen, size_zeroCells, hlen]
    rw [← Nat.add_mul, ← Nat.add_mul]
    congr 1
    omega
  · have hlt := (List.getElem?_eq_some_iff.1 hk).1
    rw [Array.getElem?_append_left (by simpa using hlt)]
    simpa using hk

/-- What the operation does, from what the built-in does. -/
theorem append_run {c : Call} {x y : Operand} {Ts Tx : TypeId} (ho : o.op = .call c) (hc : c.callee = .builtin .append) (ha : c.args.toList = [x, y]) (hts : c.argTypes.toList = [Ts, Tx]) {v : Value}
    (h : (Builtin.append_ #[Ts, Tx] o.type #[a.eval x, a.eval y]).run P w = .ok v w') : (execOp a.eval o).run P w = .ok (.value v) w' := by
  have h1 : c.args = #[x, y] := by rw [← Array.toArray_toList (xs := c.args), ha]
  have h2 : c.argTypes = #[Ts, Tx] := by rw [← Array.toArray_toList (xs := c.argTypes), hts]
  have hargs : c.args.map a.eval = #[a.eval x, a.eval y] := by rw [h1]; simp
  simp only [execOp, ho, resolve, hc, hargs, h2, pure_bind, invoke, Go.builtin, Sem.run_bind, h, Result.andThen_ok]
  rfl

theorem nodup_split {tx ty : List Nat} (h : (tx ++ ty).Nodup) : ∀ t ∈ tx, t ∉ ty := by
  intro t h1 h2
  exact (List.nodup_append.1 h).2.2 t h1 t h2 rfl

/-- No room: all that is owned goes to a new row. -/
theorem grow_deep (r : RelE en st Fr a w w0 W K0) (hd : ∀ d, o.dst = some d → d < st.n) (hf : Fr f) {E e B N : Nat} {xs ys : List (List D)} {tx ty : List Nat} {arr : Array Value} {us vs : List Value} {g g' : Nat → Nat → Value} {G G' : Nat → Nat → CS}
    (hdj : ∀ t ∈ tx, t ∉ ty) (hul : us.length = xs.length * e) (hxr : ∀ (i : Nat) (x : List D), xs[i]? = some x → x.length = e) (hyr : ∀ (i : Nat) (x : List D), ys[i]? = some x → x.length = e)
    (hxg : ∀ (i j : Nat) (x : List D) (d : D), xs[i]? = some x → x[j]? = some d → us[i * e + j]? = some (g i j)) (hyg : ∀ (i j : Nat) (x : List D) (d : D), ys[i]? = some x → x[j]? = some d → vs[i * e + j]? = some (g' i j))
    (hxd : ∀ (i j : Nat) (x : List D) (d : D), xs[i]? = some x → x[j]? = some d → DeepD w d (g i j) (G i j)) (hyd : ∀ (i j : Nat) (x : List D) (d : D), ys[i]? = some x → x[j]? = some d → DeepD w d (g' i j) (G' i j))
    (hxw : ∀ (i j : Nat) (x : List D) (d : D), xs[i]? = some x → x[j]? = some d → within en st tx (G i j)) (hyw : ∀ (i j : Nat) (x : List D) (d : D), ys[i]? = some x → x[j]? = some d → within en st ty (G' i j))
    (hxx : ∀ (i j : Nat) (x : List D) (d : D) (i' j' : Nat) (x' : List D) (d' : D), xs[i]? = some x → x[j]? = some d → xs[i']? = some x' → x'[j']? = some d' → (i, j) ≠ (i', j') → ∀ b o, G i j b o → ¬ G i' j' b o)
    (hyy : ∀ (i j : Nat) (x : List D) (d : D) (i' j' : Nat) (x' : List D) (d' : D), ys[i]? = some x → x[j]? = some d → ys[i']? = some x' → x'[j']? = some d' → (i, j) ≠ (i', j') → ∀ b o, G' i j b o → ¬ G' i' j' b o)
    (hN : xs.length + ys.length ≤ N) (hNm : N ≤ maxLen) (hb : (xs.length + ys.length) * B ≤ capB) (hz : arr.size = N * e) (harr : ∀ (k : Nat) (v : Value), (us ++ vs)[k]? = some v → arr[k]? = some v)
    (hrun : (execOp a.eval o).run P w = .ok (.value (.slice (some ⟨w.heap.size, 0, none⟩) (xs.length + ys.length) N)) (w.drew.alloc (.cells arr E))) :
    Goes P o a w (After en Fr (st.apps (kill (tx ++ ty) ++ .tok f (some ⟨3, E, e, B, xs ++ ys⟩) :: ret o (.v false [.tk f]))) (fun k => Fr k ∧ k ≠ f) w0 W K0) := by
  have cross : ∀ {F F' : CS}, within en st tx F → within en st ty F' → ∀ b o, F b o → ¬ F' b o := by
    intro F F' h1 h2 b o hF hF'
    obtain ⟨t, ht, ⟨q, hq⟩, h3⟩ := h1 b o hF
    obtain ⟨t', ht', ⟨q', hq'⟩, h4⟩ := h2 b o hF'
    exact r.tt t t' q q' hq hq' (fun e => hdj t ht (e ▸ ht')) b o h3 h4
  have hdr : ∀ {d : D} {v : Value} {F : CS}, DeepD w d v F → DeepD w.drew d v F := fun h => (Unch.drew w (fun _ _ => False)).deepD h fun _ _ _ h => h
  obtain ⟨FT', r1⟩ := r.drew.newDeep hf (tx ++ ty) (T := E) (e := e) (B := B) (xs := xs ++ ys) (cap := N) (arr := arr) (join xs.length g g') (join xs.length G G') hz (by simpa using hN) hNm (by simpa using hb) (join_rows hxr hyr)
    (fun i j x d h1 h2 => harr _ _ (join_vs hul hxg hyg i j x d h1 h2))
    (fun i j x d h1 h2 => by
      rcases join_get h1 with ⟨h, h1⟩ | ⟨h, h1⟩
      · rw [join_lt h, join_lt h]; exact hdr (hxd i j x d h1 h2)
      · rw [join_ge h, join_ge h]; exact hdr (hyd _ j x d h1 h2))
    (fun i j x d h1 h2 => by
      rcases join_get h1 with ⟨h, h1⟩ | ⟨h, h1⟩
      · rw [join_lt h]; intro b o hG; obtain ⟨t, ht, hh⟩ := hxw i j x d h1 h2 b o hG; exact ⟨t, List.mem_append_left _ ht, hh⟩
      · rw [join_ge h]; intro b o hG; obtain ⟨t, ht, hh⟩ := hyw _ j x d h1 h2 b o hG; exact ⟨t, List.mem_append_right _ ht, hh⟩)
    (fun i j x d i' j' x' d' h1 h2 h3 h4 hne b o => by
      rcases join_get h1 with ⟨h, h1⟩ | ⟨h, h1⟩ <;> rcases join_get h3 with ⟨h', h3⟩ | ⟨h', h3⟩
      · rw [join_lt h, join_lt h']; exact hxx i j x d i' j' x' d' h1 h2 h3 h4 hne b o
      · rw [join_lt h, join_ge h']; exact cross (hxw i j x d h1 h2) (hyw _ j' x' d' h3 h4) b o
      · rw [join_ge h, join_lt h']; exact fun q1 q2 => cross (hxw i' j' x' d' h3 h4) (hyw _ j x d h1 h2) b o q2 q1
      · rw [join_ge h, join_ge h']; exact hyy _ j x d _ j' x' d' h1 h2 h3 h4 (fun e => hne (by injection e with e1 e2; rw [e2, show i = i' by omega])) b o)
  rw [apps_append] at r1 ⊢
  exact finish (st' := st.apps (kill (tx ++ ty))) r1 (apps_n _ _) hd hf (upd_self _ _ _) rfl (fun _ _ => rfl) (by simpa using hrun)

/-- No room: a new row of what is read. -/
theorem grow_two (r : RelE en st Fr a w w0 W K0) (hd : ∀ d, o.dst = some d → d < st.n) (hf : Fr f) {E e B N : Nat} {xs ys : List (List D)} {ts : List Nat} {arr : Array Value} {us vs : List Value} {g g' : Nat → Nat → Value} {K' : CS}
    (r1 : RelE { en with K := K' } (st.apps (kill ts)) Fr a w w0 W K0)
    (hul : us.length = xs.length * e) (hxr : ∀ (i : Nat) (x : List D), xs[i]? = some x → x.length = e) (hyr : ∀ (i : Nat) (x : List D), ys[i]? = some x → x.length = e)
    (hxg : ∀ (i j : Nat) (x : List D) (d : D), xs[i]? = some x → x[j]? = some d → us[i * e + j]? = some (g i j)) (hyg : ∀ (i j : Nat) (x : List D) (d : D), ys[i]? = some x → x[j]? = some d → vs[i * e + j]? = some (g' i j))
    (hxd : ∀ (i j : Nat) (x : List D) (d : D), xs[i]? = some x → x[j]? = some d → RepD w K' d (g i j)) (hyd : ∀ (i j : Nat) (x : List D) (d : D), ys[i]? = some x → x[j]? = some d → RepD w K' d (g' i j))
    (hN : xs.length + ys.length ≤ N) (hNm : N ≤ maxLen) (hb : (xs.length + ys.length) * B ≤ capB) (hz : arr.size = N * e) (harr : ∀ (k : Nat) (v : Value), (us ++ vs)[k]? = some v → arr[k]? = some v)
    (hrun : (execOp a.eval o).run P w = .ok (.value (.slice (some ⟨w.heap.size, 0, none⟩) (xs.length + ys.length) N)) (w.drew.alloc (.cells arr E))) (low : Bool) :
    Goes P o a w (After en Fr (st.apps (kill ts ++ .tok f (some ⟨bif low then 1 else 2, E, e, B, xs ++ ys⟩) :: ret o (.v false [.tk f]))) (fun k => Fr k ∧ k ≠ f) w0 W K0) := by
  have hdr : ∀ {d : D} {v : Value}, RepD w K' d v → RepD w.drew K' d v := fun h => (Unch.drew w (fun _ _ => False)).repD (fun _ _ _ h => h) h
  obtain ⟨FT', r2⟩ := r1.drew.newTwo hf (T := E) (e := e) (B := B) (xs := xs ++ ys) (cap := N) (arr := arr) (join xs.length g g') hz (by simpa using hN) hNm (by simpa using hb) (join_rows hxr hyr)
    (fun i j x d h1 h2 => harr _ _ (join_vs hul hxg hyg i j x d h1 h2))
    (fun i j x d h1 h2 => by
      rcases join_get h1 with ⟨h, h1⟩ | ⟨h, h1⟩
      · rw [join_lt h]; exact hdr (hxd i j x d h1 h2)
      · rw [join_ge h]; exact hdr (hyd _ j x d h1 h2))
  rw [apps_append]
  cases low with
  | false => exact finish (st' := st.apps (kill ts)) r2 (apps_n _ _) hd hf (upd_self _ _ _) rfl (fun _ _ => rfl) (by simpa using hrun)
  | true =>
    obtain ⟨en3, r3, _, h2, h3, _⟩ := r2.lower (t := f) (tk := ⟨2, E, e, B, xs ++ ys⟩) (upd_self _ _ _)
    have e1 : ((st.apps (kill ts)).app (.tok f (some ⟨2, E, e, B, xs ++ ys⟩))).app (.tok f (some ⟨1, E, e, B, xs ++ ys⟩)) = (st.apps (kill ts)).app (.tok f (some ⟨1, E, e, B, xs ++ ys⟩)) := by
      show St.mk _ _ (upd (upd (st.apps (kill ts)).tok f _) f _) _ _ = St.mk _ _ (upd (st.apps (kill ts)).tok f _) _ _
      congr 1
      funext k
      simp only [upd_eq]
      split <;> rfl
    have r3' : RelE en3 (((st.apps (kill ts)).app (.tok f (some ⟨2, E, e, B, xs ++ ys⟩))).app (.tok f (some ⟨1, E, e, B, xs ++ ys⟩))) (fun k => Fr k ∧ k ≠ f) a (w.drew.alloc (.cells arr E)) w0 W K0 := r3
    rw [e1] at r3'
    exact finish (st' := st.apps (kill ts)) r3' (apps_n _ _) hd hf (v := .slice (some ⟨w.heap.size, 0, none⟩) (xs.length + ys.length) N) ((congrFun h3 f).trans ((upd_self _ _ _).trans (by simp))) rfl (fun k _ => by rw [h2]) hrun

end
end Go.Gl
