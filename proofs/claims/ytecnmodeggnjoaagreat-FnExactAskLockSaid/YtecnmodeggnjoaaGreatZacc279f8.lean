/- Several of our texts, one behind the other, without what this claim does not need: AcL. -/
import Derived.Test.YtecnmodeggnjoaaGreatZc539bded
set_option linter.unusedVariables false
set_option linter.unusedSimpArgs false
namespace Go.Proofs.YtecnmodeggnjoaaGreat.Ac
open Go.RowKit
section
variable {P : Program} {tb : Tab} {g : Hp} {φ : Phi} {w : World} {h : Array Obj} {H : Hp}
theorem tab_zero (hT : TabOK P tb) {i : Nat} {l : Lay} (hl : tb i = some l) (h : Array Obj) (H : Hp) (φ : Phi) : ∃ inf zv, P.info? i = some inf ∧ inf.size = l.size ∧ inf.bytes = l.bt ∧ inf.zero = some zv ∧ zv.cells.size = l.size ∧ RepC h H φ l.zero zv.cells.toList := by
  cases l with
  | w d z bt =>
    obtain ⟨_, _, inf, zv, h1, h2, h3, h4, rfl, h5⟩ := hT.w i d z bt hl
    exact ⟨inf, zv, h1, h2, h5, h3, by rw [cells_one h4]; rfl, by rw [cells_one h4]; exact ⟨constA_ok h4, trivial⟩⟩
  | st sz z fs bt =>
    obtain ⟨inf, _, zv, _, h1, h2, h3, rfl, h4, h5, h6, _⟩ := hT.st i sz z fs bt hl
    exact ⟨inf, .agg zv, h1, h2, h6, h3, h5, constC_ok h4⟩
theorem zero_one {z : Array Value} {n k : Nat} (h1 : ∀ x ∈ z.toList, x.oneCell' = true) (hk : k < (Builtin.zeroCells z n).size) : ((Builtin.zeroCells z n).getD k undef).oneCell' = true := by
  simp only [size_zeroCells] at hk
  have hz : 0 < z.size := by
    rcases Nat.eq_zero_or_pos z.size with h | h
    · rw [h] at hk; simp at hk
    · exact h
  have hm : k % z.size < z.size := Nat.mod_lt _ hz
  have : (Builtin.zeroCells z n).getD k undef = z[k % z.size] := by
    simp [Builtin.zeroCells, Array.getD_eq_getD_getElem?, hk, hm]
  rw [this]
  exact h1 _ (by simp)
theorem virt_ok (k : HeapOK h H φ) {n wd fl : Nat} (hn : H n = none) (hf4 : fl ≠ 4) (h0 : 0 < wd) : HeapOK h (put1 H n (some ⟨fl, wd, []⟩)) (φ.set n fun _ => none) ∧ Turn h H φ h (put1 H n (some ⟨fl, wd, []⟩)) (φ.set n fun _ => none) := by
  have hne : ∀ m x, H m = some x → m ≠ n := fun m x hm e => by rw [e, hn] at hm; cases hm
  have own : ∀ X hd, (φ.set n fun _ => none) X = some hd → X.1 ≠ n ∧ φ X = some hd := by
    rintro ⟨m, q⟩ hd hX
    by_cases e : m = n
    · subst e; rw [set_self] at hX; cases hX
    · rw [set_ne _ e] at hX; exact ⟨e, hX⟩
  have t : Turn h H φ h (put1 H n (some ⟨fl, wd, []⟩)) (φ.set n fun _ => none) := by
    refine ⟨rfl, fun b hb hO => ⟨?_, rfl⟩, fun m hm => by rw [put1_ne _ (hne m _ hm)]; exact hm, fun m x hm => .inr ⟨x, by rw [put1_ne _ (hne m _ hm)]; exact hm, set_ne _ (hne m _ hm), rfl, Nat.le_refl _⟩⟩
    rintro ⟨X, hd, hX, rfl⟩
    exact hO ⟨X, hd, (own X hd hX).2, rfl⟩
  refine ⟨all_ob (fun m x hm => ?_) (fun X hd hX => k.lt X hd (own X hd hX).2) (fun X hd hX => k.apart X hd (own X hd hX).2) k.old (fun X Y hd hd' hX hY => k.inj X Y hd hd' (own X hd hX).2 (own Y hd' hY).2), t⟩
  by_cases e : m = n
  · subst e; rw [put1_self] at hm; cases hm
    exact obRow h0 hf4 (.inl ⟨rfl, set_self _ _ _⟩)
  · rw [put1_ne _ e] at hm
    exact (k.ob m x hm).keep (fun _ _ r => r.turn t) (fun q => set_ne _ e) fun _ _ _ => rfl
theorem RefRow.mk' {n lo hi fl wd : Nat} {es : List (List A)} {u : Value} (hn : H n = some (some ⟨fl, wd, es⟩)) (h1 : lo ≤ hi) (h2 : hi ≤ es.length) (h3 : match φ (n, []) with
    | none => ∃ a, u = .slice a 0 0
    | some hd => ∃ a, u = .slice a (hi - lo) (hd.cap - lo) ∧ (lo = 0 ∨ lo < hd.cap → a = some ⟨hd.b, hd.off + lo * wd, none⟩)) : RefRow H φ n lo hi u := by
  refine ⟨?_, ?_⟩
  · cases hp : φ (n, []) with
    | none => rw [hp] at h3; obtain ⟨a, rfl⟩ := h3; rfl
    | some hd => rw [hp] at h3; obtain ⟨a, rfl, _⟩ := h3; rfl
  · rw [hn]; exact ⟨h1, h2, h3⟩
theorem RefRow.full {n fl wd : Nat} {es : List (List A)} {hd : Hd} (hn : H n = some (some ⟨fl, wd, es⟩)) (hp : φ (n, []) = some hd) {len : Nat} (hlen : len = es.length) : RefRow H φ n 0 len (.slice (some ⟨hd.b, hd.off, none⟩) len hd.cap) :=
  RefRow.mk' hn (Nat.zero_le _) (by omega) (by rw [hp]; exact ⟨_, rfl, fun _ => by simp⟩)
theorem getD_app (a b : List Value) (k : Nat) : (a ++ b).getD k undef = if k < a.length then a.getD k undef else b.getD (k - a.length) undef := by
  simp only [List.getD_eq_getElem?_getD]
  split
  · rw [List.getElem?_append_left (by assumption)]
  · rw [List.getElem?_append_right (by omega)]
theorem arr_getD (l : List Value) (k : Nat) : l.toArray.getD k undef = l.getD k undef := by simp [List.getD_eq_getElem?_getD]
theorem grown_row {cap wd : Nat} {es : List (List A)} {b : Nat} {news : List Value} {z : Array Value} (hw : 0 < wd) (hwd : ∀ e ∈ es, e.length = wd) (hn : news.length = es.length * wd) (h1 : ∀ x ∈ news, x.oneCell' = true) (hc : es.length ≤ cap) (hm : cap ≤ maxLen) (hz : z.size = wd) (hz1 : ∀ x ∈ z.toList, x.oneCell' = true) :
    RowOK wd es ⟨b, 0, cap⟩ (news ++ (Builtin.zeroCells z (cap - es.length)).toList).toArray := by
  refine ⟨hw, hwd, hc, hm, ?_, fun k hk => ?_⟩
  · simp only [List.size_toArray, List.length_append, hn, Array.length_toList, size_zeroCells, hz, ← Nat.add_mul]
    rw [Nat.zero_add]
    congr 1; omega
  · rw [arr_getD, getD_app]
    split
    · rename_i hk1
      rw [List.getD_eq_getElem?_getD, List.getElem?_eq_getElem hk1]
      exact h1 _ (List.getElem_mem _)
    · rename_i hk1
      have : (Builtin.zeroCells z (cap - es.length)).toList.getD (k - news.length) undef = (Builtin.zeroCells z (cap - es.length)).getD (k - news.length) undef := by simp [List.getD_eq_getElem?_getD]
      rw [this]
      refine zero_one hz1 ?_
      simp at hk; omega
theorem Src.app_nil {k size m : Nat} {new : List (List A)} {news : List Value} (s : Src w g φ size new m news) {i j : Nat} {e : List A} {x : A} (hi : new[i]? = some e) (hj : e[j]? = some x) {ls rs : List Value} (hl : ls.length = k * size) : RepE w.heap g φ x ((ls ++ news ++ rs).getD ((k + i) * size + j) undef) := by
  have h1 := (List.getElem?_eq_some_iff.1 hi).1
  have h2 := (List.getElem?_eq_some_iff.1 hj).1
  rw [s.wd e (List.mem_of_getElem? hi)] at h2
  rw [s.len] at h1
  have h3 : i * size + j < m * size := idx_lt h1 h2
  rw [List.append_assoc, getD_app, if_neg (by rw [hl, Nat.add_mul]; omega), getD_app, hl, Nat.add_mul, show k * size + i * size + j - k * size = i * size + j by omega, if_pos (by rw [s.sz]; exact h3)]
  exact s.rep i e j x hi hj
theorem arr_app (olds news : List Value) (Z : Array Value) : olds.toArray ++ news.toArray ++ Z = (olds ++ (news ++ Z.toList)).toArray := by
  apply Array.ext'; simp [List.append_assoc]
theorem append_over (hT : TabOK P tb) (ok : HeapOK w.heap g φ) {t u el ty : TypeId} {inf : TypeInfo} {zv : Value} {z : List A}
    {wd : Nat} (hsz : inf.size = wd) (hzs : zv.cells.size = wd) (hzone : ∀ x ∈ zv.cells.toList, x.oneCell' = true) (hby : inf.bytes ≤ 65536) {n m' fl hi' : Nat} {es : List (List A)} (hn : g n = some (some ⟨fl, wd, es⟩)) (hf4 : fl ≠ 4) (hm' : g m' = none) {vx vy : Value} (r : RefRow g φ n 0 hi' vx)
    {new : List (List A)} {m : Nat} {news : List Value} (hh : AppR P w t u ty el inf zv vy m news) (hs : Src w g φ wd new m news) (hlt : (es.take hi' ++ new).length < 2 ^ 30) :
    ∃ u' w' φ', (Builtin.append_ #[t, u] ty #[vx, vy]).run P w = .ok u' w' ∧ HeapOK w'.heap (put1 (put1 g n none) m' (some ⟨0, wd, es.take hi' ++ new⟩)) φ' ∧ Turn w.heap g φ w'.heap (put1 (put1 g n none) m' (some ⟨0, wd, es.take hi' ++ new⟩)) φ' ∧
      RefRow (put1 (put1 g n none) m' (some ⟨0, wd, es.take hi' ++ new⟩)) φ' m' 0 (es.take hi' ++ new).length u' ∧ w'.os = w.os ∧ w'.tape = w.tape ∧ w'.output = w.output ∧ w.heap.size ≤ w'.heap.size := by
  have hnm : n ≠ m' := fun e => by rw [e, hm'] at hn; cases hn
  have hobn := ok.ob n _ hn
  have hpos : 0 < wd := hobn.1
  have r3 := r.2
  rw [hn] at r3
  obtain ⟨_, hle, r3⟩ := r3
  dsimp only at hle r3
  have htl : (es.take hi').length = hi' := by simp; omega
  have hl2 : (es.take hi' ++ new).length = hi' + m := by rw [List.length_append, htl, hs.len]
  rw [hl2] at hlt ⊢
  -- cells of the new row
  have cells : ∀ {cc : Array Value} {c : Array Value} {o o' : Nat}, (∀ i e j x, es[i]? = some e → e[j]? = some x → i < hi' → RepA w.heap g φ (n, [(i, j)]) x (cc.getD (o' + i * wd + j) undef)) →
      (∀ i e j x, new[i]? = some e → e[j]? = some x → RepE w.heap g φ x (cc.getD (o' + (hi' + i) * wd + j) undef)) →
      ∀ i e j x, (es.take hi' ++ new)[i]? = some e → e[j]? = some x → RepA w.heap g φ (n, [(i, j)]) x (cc.getD (o' + i * wd + j) undef) := by
    intro cc c o o' h1 h2 i e j x hi hj
    by_cases hlt : i < hi'
    · rw [List.getElem?_append_left (by rw [htl]; exact hlt), List.getElem?_take, if_pos hlt] at hi
      exact h1 i e j x hi hj hlt
    · rw [List.getElem?_append_right (by rw [htl]; omega), htl] at hi
      have := h2 (i - hi') e j x hi hj
      rw [show hi' + (i - hi') = i by omega] at this
      exact .e _ _ _ this
  have hwd : (∀ e ∈ es, e.length = wd) → ∀ e ∈ es.take hi' ++ new, e.length = wd := fun h e he => by
    rcases List.mem_append.1 he with h1 | h1
    · exact h e (List.mem_of_mem_take h1)
    · exact hs.wd e h1
  have more : ∀ {base : Option Addr} {sCap : Nat} {olds : List Value}, vx = .slice base hi' sCap → (∀ w', w'.heap = w.heap → (Builtin.firstCells inf.size hi' (.slice base hi' sCap)).run P w' = .ok olds.toArray w') → sCap < hi' + m →
      ∃ cap, hi' + m ≤ cap ∧ cap ≤ maxLen ∧ (Builtin.append_ #[t, u] ty #[vx, vy]).run P w = .ok (.slice (some ⟨w.heap.size, 0, none⟩) (hi' + m) cap) (w.drew.alloc (.cells (olds ++ (news ++ (Builtin.zeroCells zv.cells (cap - (hi' + m))).toList)).toArray el)) := by
    rintro base sCap olds rfl ho hg
    refine ⟨grownCap w (hi' + m) sCap el, grownCap_ge _ _ _ _, grownCap_le_maxLen _ _ _ _ (by simp only [maxLen]; omega), ?_⟩
    rw [← arr_app]
    exact hh.more ho hg hlt
  have grow : ∀ {cap : Nat} {olds : List Value}, olds.length = hi' * wd → (∀ x ∈ olds, x.oneCell' = true) → (∀ e ∈ es, e.length = wd) → hi' + m ≤ cap → cap ≤ maxLen → (∀ i e j x, es[i]? = some e → e[j]? = some x → i < hi' → RepA w.heap g φ (n, [(i, j)]) x (olds.getD (i * wd + j) undef)) →
      (Builtin.append_ #[t, u] ty #[vx, vy]).run P w = .ok (.slice (some ⟨w.heap.size, 0, none⟩) (hi' + m) cap) (w.drew.alloc (.cells (olds ++ (news ++ (Builtin.zeroCells zv.cells (cap - (hi' + m))).toList)).toArray el)) →
      ∃ u' w' φ', (Builtin.append_ #[t, u] ty #[vx, vy]).run P w = .ok u' w' ∧ HeapOK w'.heap (put1 (put1 g n none) m' (some ⟨0, wd, es.take hi' ++ new⟩)) φ' ∧ Turn w.heap g φ w'.heap (put1 (put1 g n none) m' (some ⟨0, wd, es.take hi' ++ new⟩)) φ' ∧
      RefRow (put1 (put1 g n none) m' (some ⟨0, wd, es.take hi' ++ new⟩)) φ' m' 0 (hi' + m) u' ∧ w'.os = w.os ∧ w'.tape = w.tape ∧ w'.output = w.output ∧ w.heap.size ≤ w'.heap.size := by
    intro cap olds ho ho1 hes hc1 hc2 hcell hrun
    have hrow := grown_row (b := w.heap.size) hpos (hwd hes) (news := olds ++ news) (by rw [List.length_append, ho, hs.sz, hl2, Nat.add_mul]) (fun x hx => (List.mem_append.1 hx).elim (ho1 x) (hs.one x)) (by rw [hl2]; exact hc1) hc2 hzs hzone
    rw [hl2, List.append_assoc] at hrow
    obtain ⟨φ', ok', t', hp'⟩ := shift_ok (h' := w.heap.push (.cells (olds ++ (news ++ (Builtin.zeroCells zv.cells (cap - (hi' + m))).toList)).toArray el (0, 0))) (ob' := ⟨0, wd, es.take hi' ++ new⟩) ok (fun h => by cases h) hn hm' (by simp)
      (fun b hb _ => by rw [Array.getElem?_push_lt hb, Array.getElem?_eq_getElem hb]) (ty := el) (.inl (Nat.le_refl _)) (by simp) hrow (fun h => absurd rfl h)
      (cells (c := #[]) (o := 0) (fun i e j x hi hj hlt => by
        have h2 := (List.getElem?_eq_some_iff.1 hj).1
        rw [hes e (List.mem_of_getElem? hi)] at h2
        have h3 : i * wd + j < hi' * wd := idx_lt hlt h2
        rw [arr_getD, Nat.zero_add, getD_app, if_pos (by rw [ho]; exact h3)]
        exact hcell i e j x hi hj hlt) fun i e j x hi hj => by
        rw [arr_getD, Nat.zero_add, ← List.append_assoc]
        exact hs.app_nil hi hj ho)
    exact ⟨_, _, φ', hrun, ok', t', RefRow.full (put1_self _ _) hp' hl2.symm, rfl, rfl, rfl, by show _ ≤ (w.heap.push _).size; simp⟩
  rcases (hobn.row hf4) with ⟨h0, hp⟩ | ⟨hd, c, ty', g1, g2, g3, g4, g5⟩
  · dsimp only at h0
    subst h0
    rw [hp] at r3
    obtain ⟨a, rfl⟩ := r3
    have hhi : hi' = 0 := by simpa using hle
    subst hhi
    rcases Nat.eq_zero_or_pos m with hm | hm
    · subst hm
      have hnews : news = [] := List.eq_nil_of_length_eq_zero (by rw [hs.sz]; simp)
      have hnew : new = [] := List.eq_nil_of_length_eq_zero hs.len
      subst hnew
      obtain ⟨ok1, t1⟩ := kill_ok ok hn
      obtain ⟨ok', t'⟩ := virt_ok (n := m') (fl := 0) (wd := wd) ok1 (by rw [put1_ne _ (Ne.symm hnm)]; exact hm') (by decide) hpos
      exact ⟨_, _, _, hh.none rfl hnews a, ok', t1.trans t', RefRow.mk' (put1_self _ _) (Nat.le_refl _) (Nat.le_refl _) (by rw [set_self]; exact ⟨a, rfl⟩), rfl, rfl, rfl, Nat.le_refl _⟩
    · obtain ⟨cap, hc1, hc2, hrun⟩ := more rfl (olds := []) (fun w' hw => ((hands_none (P := P) (w := w) (size := inf.size) (a := a) (cap := 0)).choose_spec.choose_spec.2 w' hw).1) (by omega)
      exact grow (by simp) (fun x hx => (by cases hx)) (fun e he => (by cases he)) hc1 hc2 (fun i e j x hi => (by simp at hi)) hrun
  · rw [g1] at r3
    obtain ⟨ad, rfl, ha⟩ := r3
    dsimp only at g3 g5 ha
    rw [ha (.inl rfl)] at more grow ⊢
    simp only [Nat.zero_mul, Nat.add_zero, Nat.sub_zero] at more grow ⊢
    rcases Nat.lt_or_ge hd.cap (hi' + m) with hg | hroom
    · have hin : hd.off + hi' * wd ≤ c.size := by
        rw [g3.size]
        exact Nat.add_le_add_left (Nat.mul_le_mul_right _ (by have := g3.le; omega)) _
      obtain ⟨_, _, _, hf⟩ := hands_at (P := P) (size := inf.size) (m := hi') (cap := hd.cap) g2 (by rw [hsz]; exact hin)
      obtain ⟨cap, hc1, hc2, hrun⟩ := more rfl (fun w' hw => (hf w' hw).1) hg
      refine grow (by rw [hsz]; simp) (fun x hx => ?_) g3.len hc1 hc2 (fun i e j x hi hj hlt => ?_) hrun
      · obtain ⟨k, hk, rfl⟩ := List.mem_map.1 hx
        rw [hsz] at hk
        exact g3.one _ (by have := List.mem_range.1 hk; omega)
      · have h2 := (List.getElem?_eq_some_iff.1 hj).1
        rw [g3.len e (List.mem_of_getElem? hi)] at h2
        have h3 : i * wd + j < hi' * wd := idx_lt hlt h2
        rw [hsz, getD_range h3, ← Nat.add_assoc]
        exact g5 i e j x hi hj
    · have hfit : hd.off + hi' * wd + news.length ≤ c.size := by
        rw [g3.size, hs.sz, Nat.add_assoc, ← Nat.add_mul]
        exact Nat.add_le_add_left (Nat.mul_le_mul_right _ hroom) _
      have hrun := hh.room g2 hroom (off := hd.off) (by rw [hsz]; exact hfit) hs.one
      rw [hsz] at hrun
      have hsz2 : ((c.toList.take (hd.off + hi' * wd) ++ news ++ c.toList.drop (hd.off + hi' * wd + news.length)).toArray).size = c.size := by simp only [List.size_toArray, List.length_append, List.length_take, List.length_drop, Array.length_toList]; omega
      have hget := seg_getD c (hd.off + hi' * wd) news hfit
      obtain ⟨φ', ok', t', hp'⟩ := shift_ok (h' := (w.setRow hd.b (c.toList.take (hd.off + hi' * wd) ++ news ++ c.toList.drop (hd.off + hi' * wd + news.length)).toArray).heap) (ob' := ⟨0, wd, es.take hi' ++ new⟩) (hd := hd) ok (fun h => by cases h) hn hm' (by simp [World.setRow])
        (fun b hb hne => setRow_other w hd.b b _ (hne hd g1)) (.inr ⟨hd, g1, rfl⟩) (setRow_heap w hd.b c _ ty' _ g2)
        ⟨hpos, hwd g3.len, by dsimp only; rw [hl2]; exact hroom, g3.cap, hsz2.trans g3.size, fun k hk => by
          rw [hget]
          split
          · rename_i hk2
            have hkl : k - (hd.off + hi' * wd) < news.length := by omega
            rw [List.getD_eq_getElem?_getD, List.getElem?_eq_getElem hkl]
            exact hs.one _ (List.getElem_mem _)
          · exact g3.one k (by rw [hsz2] at hk; exact hk)⟩ (fun h => absurd rfl h)
        (cells (c := #[]) (o := 0) (fun i e j x hi hj hlt => by
          have h2 := (List.getElem?_eq_some_iff.1 hj).1
          rw [g3.len e (List.mem_of_getElem? hi)] at h2
          have h3 : i * wd + j < hi' * wd := idx_lt hlt h2
          rw [hget, if_neg (by omega)]
          exact g5 i e j x hi hj) fun i e j x hi hj => by
          have h1 := (List.getElem?_eq_some_iff.1 hi).1
          have h2 := (List.getElem?_eq_some_iff.1 hj).1
          rw [hs.wd e (List.mem_of_getElem? hi)] at h2
          rw [hs.len] at h1
          have h3 : i * wd + j < m * wd := idx_lt h1 h2
          rw [hget, Nat.add_mul, if_pos (by rw [hs.sz]; omega), show hd.off + (hi' * wd + i * wd) + j - (hd.off + hi' * wd) = i * wd + j by omega]
          exact hs.rep i e j x hi hj)
      exact ⟨_, _, φ', hrun, ok', t', RefRow.full (put1_self _ _) hp' hl2.symm, rfl, rfl, rfl, by simp [World.setRow]⟩
theorem append_view (ok : HeapOK w.heap g φ) {t u el ty : TypeId} {inf : TypeInfo} {zv : Value}
    {wd : Nat} (hsz : inf.size = wd) (hzs : zv.cells.size = wd) (hzone : ∀ x ∈ zv.cells.toList, x.oneCell' = true) {n m' fl lo hi' : Nat} {es : List (List A)} (hn : g n = some (some ⟨fl, wd, es⟩)) (hf4 : fl ≠ 4) (hm' : g m' = none) {vx vy : Value} (r : RefRow g φ n lo hi' vx)
    {new : List (List A)} {m : Nat} {news : List Value} (hh : AppR P w t u ty el inf zv vy m news) (hs : Src w g φ wd new m news) {E : List (List A)} (hE : cpE ((es.take hi').drop lo) ++ new = E) (hlt : E.length < 2 ^ 30) :
    ∃ u' w' φ', (Builtin.append_ #[t, u] ty #[vx, vy]).run P w = .ok u' w' ∧ HeapOK w'.heap (put1 (put1 g n none) m' (some ⟨0, wd, E⟩)) φ' ∧ Turn w.heap g φ w'.heap (put1 (put1 g n none) m' (some ⟨0, wd, E⟩)) φ' ∧
      RefRow (put1 (put1 g n none) m' (some ⟨0, wd, E⟩)) φ' m' 0 E.length u' ∧ w'.os = w.os ∧ w'.tape = w.tape ∧ w'.output = w.output ∧ w.heap.size ≤ w'.heap.size := by
  have hnm : n ≠ m' := fun e => by rw [e, hm'] at hn; cases hn
  have hobn := ok.ob n _ hn
  have hpos : 0 < wd := hobn.1
  have r3 := r.2
  rw [hn] at r3
  obtain ⟨hlo, hle, r3⟩ := r3
  dsimp only at hle r3
  obtain ⟨m0, olds, ho, hm0, _, _, _, hew, ho5, ho6, ho7⟩ := src_row (P := P) ok hn hf4 (.row _ _ _ _ r)
  have hm0' : m0 = hi' - lo := by rw [hm0]; simp; omega
  have hl2 : E.length = m0 + m := by rw [← hE, List.length_append, hs.len]; simp only [cpE, List.length_map]; rw [← hm0]
  have hwd : ∀ e ∈ E, e.length = wd := fun e he => by
    rw [← hE] at he
    rcases List.mem_append.1 he with h1 | h1
    · obtain ⟨e', he', rfl⟩ := List.mem_map.1 h1
      simpa using hew e' (List.mem_of_mem_take (List.mem_of_mem_drop he'))
    · exact hs.wd e h1
  -- a new row's cells: what stood there, and what is new
  have cells : ∀ {cc : Array Value} {o' : Nat}, (∀ i e j x, es[lo + i]? = some e → e[j]? = some x → i < m0 → RepE w.heap g φ (cpA x) (cc.getD (o' + i * wd + j) undef)) → (∀ i e j x, new[i]? = some e → e[j]? = some x → RepE w.heap g φ x (cc.getD (o' + (m0 + i) * wd + j) undef)) →
      ∀ i e j x, E[i]? = some e → e[j]? = some x → RepA w.heap g φ (n, [(i, j)]) x (cc.getD (o' + i * wd + j) undef) := by
    intro cc o' h1 h2 i e j x hi hj
    refine .e _ _ _ ?_
    rw [← hE] at hi
    have hcl : (cpE ((es.take hi').drop lo)).length = m0 := by simp only [cpE, List.length_map]; exact hm0.symm
    by_cases hlt : i < m0
    · rw [List.getElem?_append_left (by rw [hcl]; exact hlt)] at hi
      simp only [cpE, List.getElem?_map, List.getElem?_drop, List.getElem?_take] at hi
      rw [if_pos (by omega)] at hi
      cases hq : es[lo + i]? with
      | none => rw [hq] at hi; cases hi
      | some e0 =>
        rw [hq] at hi
        cases hi
        rw [List.getElem?_map] at hj
        cases hq2 : e0[j]? with
        | none => rw [hq2] at hj; cases hj
        | some x0 => rw [hq2] at hj; cases hj; exact h1 i e0 j x0 hq hq2 hlt
    · rw [List.getElem?_append_right (by rw [hcl]; omega), hcl] at hi
      have := h2 (i - m0) e j x hi hj
      rw [show m0 + (i - m0) = i by omega] at this
      exact this
  have grow : ∀ {base : Option Addr} {sCap : Nat}, vx = .slice base m0 sCap → sCap < m0 + m → ∃ u' w' φ', (Builtin.append_ #[t, u] ty #[vx, vy]).run P w = .ok u' w' ∧ HeapOK w'.heap (put1 (put1 g n none) m' (some ⟨0, wd, E⟩)) φ' ∧ Turn w.heap g φ w'.heap (put1 (put1 g n none) m' (some ⟨0, wd, E⟩)) φ' ∧
      RefRow (put1 (put1 g n none) m' (some ⟨0, wd, E⟩)) φ' m' 0 E.length u' ∧ w'.os = w.os ∧ w'.tape = w.tape ∧ w'.output = w.output ∧ w.heap.size ≤ w'.heap.size := by
    rintro base sCap rfl hg
    obtain ⟨_, _, e0, hf⟩ := ho
    cases e0
    have hrun := hh.more (base := base) (sLen := m0) (sCap := sCap) (olds := olds) (fun w' hw => by rw [hsz]; exact (hf w' hw).1) hg (by omega)
    rw [arr_app] at hrun
    have hc1 := grownCap_ge w (m0 + m) sCap el
    have hc2 := grownCap_le_maxLen w (m0 + m) sCap el (by simp only [maxLen]; omega)
    generalize grownCap w (m0 + m) sCap el = cap at hrun hc1 hc2
    have hrow := grown_row (b := w.heap.size) hpos hwd (news := olds ++ news) (by rw [List.length_append, ho5, hs.sz, hl2, Nat.add_mul]) (fun x hx => (List.mem_append.1 hx).elim (ho6 x) (hs.one x)) (by rw [hl2]; exact hc1) hc2 hzs hzone
    rw [hl2, List.append_assoc] at hrow
    obtain ⟨φ', ok', t', hp'⟩ := shift_ok (h' := w.heap.push (.cells (olds ++ (news ++ (Builtin.zeroCells zv.cells (cap - (m0 + m))).toList)).toArray el (0, 0))) (ob' := ⟨0, wd, E⟩) ok (fun h => by cases h) hn hm' (by simp)
      (fun b hb _ => by rw [Array.getElem?_push_lt hb, Array.getElem?_eq_getElem hb]) (ty := el) (.inl (Nat.le_refl _)) (by simp) hrow (fun h => absurd rfl h)
      (cells (fun i e j x hi hj hlt => by
        have h2 := (List.getElem?_eq_some_iff.1 hj).1
        rw [hew e (List.mem_of_getElem? hi)] at h2
        have h3 : i * wd + j < m0 * wd := idx_lt hlt h2
        rw [arr_getD, Nat.zero_add, getD_app, if_pos (by rw [ho5]; exact h3)]
        exact ho7 i e j x (by rw [List.getElem?_drop, List.getElem?_take, if_pos (by omega)]; exact hi) hj) fun i e j x hi hj => by
        rw [arr_getD, Nat.zero_add, ← List.append_assoc]
        exact hs.app_nil hi hj ho5)
    exact ⟨_, _, φ', hrun, ok', t', by rw [← hl2]; exact RefRow.full (put1_self _ _) hp' rfl, rfl, rfl, rfl, by show _ ≤ (w.heap.push _).size; simp⟩
  have empty : ∀ {a : Option Addr}, vx = .slice a 0 0 → m0 + m = 0 → ∃ u' w' φ', (Builtin.append_ #[t, u] ty #[vx, vy]).run P w = .ok u' w' ∧ HeapOK w'.heap (put1 (put1 g n none) m' (some ⟨0, wd, E⟩)) φ' ∧ Turn w.heap g φ w'.heap (put1 (put1 g n none) m' (some ⟨0, wd, E⟩)) φ' ∧
      RefRow (put1 (put1 g n none) m' (some ⟨0, wd, E⟩)) φ' m' 0 E.length u' ∧ w'.os = w.os ∧ w'.tape = w.tape ∧ w'.output = w.output ∧ w.heap.size ≤ w'.heap.size := by
    rintro a rfl h0
    have hm : m = 0 := by omega
    subst hm
    have hnews : news = [] := List.eq_nil_of_length_eq_zero (by rw [hs.sz]; simp)
    have hEn : E = [] := List.eq_nil_of_length_eq_zero (by omega)
    subst hEn
    obtain ⟨ok1, t1⟩ := kill_ok ok hn
    obtain ⟨ok', t'⟩ := virt_ok (n := m') (fl := 0) (wd := wd) ok1 (by rw [put1_ne _ (Ne.symm hnm)]; exact hm') (by decide) hpos
    exact ⟨_, _, _, hh.none rfl hnews a, ok', t1.trans t', RefRow.mk' (put1_self _ _) (Nat.le_refl _) (Nat.le_refl _) (by rw [set_self]; exact ⟨a, rfl⟩), rfl, rfl, rfl, Nat.le_refl _⟩
  rcases (hobn.row hf4) with ⟨h0, hp⟩ | ⟨hd, c, ty', g1, g2, g3, g4, g5⟩
  · dsimp only at h0
    subst h0
    rw [hp] at r3
    obtain ⟨a, rfl⟩ := r3
    have hz : m0 = 0 := by simp at hle; omega
    by_cases hm : m = 0
    · exact empty rfl (by omega)
    · subst hz; exact grow rfl (by omega)
  · rw [g1] at r3
    obtain ⟨ad, hvx, ha⟩ := r3
    dsimp only at g3 g5 ha
    rw [← hm0'] at hvx
    rcases Nat.lt_or_ge (hd.cap - lo) (m0 + m) with hg | hroom
    · exact grow hvx hg
    by_cases hc0 : hd.cap - lo = 0
    · have hz : m0 = 0 := by omega
      rw [hc0, hz] at hvx
      exact empty hvx (by omega)
    rw [ha (.inr (by omega))] at hvx
    subst hvx
    have hlc : hd.off + lo * wd + (hd.cap - lo) * wd = c.size := by rw [g3.size, Nat.add_assoc, ← Nat.add_mul]; congr 2; omega
    have hfit : hd.off + lo * wd + m0 * wd + news.length ≤ c.size := by
      rw [← hlc, hs.sz, Nat.add_assoc (hd.off + lo * wd), ← Nat.add_mul]
      exact Nat.add_le_add_left (Nat.mul_le_mul_right _ hroom) _
    have hrun := hh.room g2 hroom (off := hd.off + lo * wd) (by rw [hsz]; exact hfit) hs.one
    rw [hsz] at hrun
    have hsz2 : ((c.toList.take (hd.off + lo * wd + m0 * wd) ++ news ++ c.toList.drop (hd.off + lo * wd + m0 * wd + news.length)).toArray).size = c.size := by simp only [List.size_toArray, List.length_append, List.length_take, List.length_drop, Array.length_toList]; omega
    have hget := seg_getD c (hd.off + lo * wd + m0 * wd) news hfit
    obtain ⟨φ', ok', t', hp'⟩ := shift_ok (h' := (w.setRow hd.b (c.toList.take (hd.off + lo * wd + m0 * wd) ++ news ++ c.toList.drop (hd.off + lo * wd + m0 * wd + news.length)).toArray).heap) (ob' := ⟨0, wd, E⟩) (hd := ⟨hd.b, hd.off + lo * wd, hd.cap - lo⟩) ok (fun h => by cases h) hn hm' (by simp [World.setRow])
      (fun b hb hne => setRow_other w hd.b b _ (hne hd g1)) (.inr ⟨hd, g1, rfl⟩) (setRow_heap w hd.b c _ ty' _ g2)
      ⟨hpos, hwd, by dsimp only; rw [hl2]; exact hroom, by have := g3.cap; dsimp only; omega, hsz2.trans hlc.symm, fun k hk => by
        rw [hget]
        split
        · rename_i hk2
          have hkl : k - (hd.off + lo * wd + m0 * wd) < news.length := by omega
          rw [List.getD_eq_getElem?_getD, List.getElem?_eq_getElem hkl]
          exact hs.one _ (List.getElem_mem _)
        · exact g3.one k (by rw [hsz2] at hk; exact hk)⟩ (fun h => absurd rfl h)
      (cells (fun i e j x hi hj hlt => by
        have h2 := (List.getElem?_eq_some_iff.1 hj).1
        rw [g3.len e (List.mem_of_getElem? hi)] at h2
        have h3 : i * wd + j < m0 * wd := idx_lt hlt h2
        dsimp only
        rw [hget, if_neg (by omega)]
        have h5 := (g5 (lo + i) e j x hi hj).cp
        rw [Nat.add_mul] at h5
        rw [show hd.off + lo * wd + i * wd + j = hd.off + (lo * wd + i * wd) + j by omega]
        exact h5) fun i e j x hi hj => by
        have h1 := (List.getElem?_eq_some_iff.1 hi).1
        have h2 := (List.getElem?_eq_some_iff.1 hj).1
        rw [hs.wd e (List.mem_of_getElem? hi)] at h2
        rw [hs.len] at h1
        have h3 : i * wd + j < m * wd := idx_lt h1 h2
        dsimp only
        rw [hget, Nat.add_mul, if_pos (by rw [hs.sz]; omega), show hd.off + lo * wd + (m0 * wd + i * wd) + j - (hd.off + lo * wd + m0 * wd) = i * wd + j by omega]
        exact hs.rep i e j x hi hj)
    refine ⟨_, _, φ', hrun, ok', t', ?_, rfl, rfl, rfl, by simp [World.setRow]⟩
    rw [← hl2]
    exact RefRow.full (hd := ⟨hd.b, hd.off + lo * wd, hd.cap - lo⟩) (put1_self _ _) hp' rfl
theorem appN_does (hT : TabOK P tb) (ok : HeapOK w.heap g φ) {d : Nat} {t u el ty : TypeId} {l : Lay} {inf : TypeInfo} {zv : Value} (hsz : inf.size = l.size) (hzs : zv.cells.size = l.size) (hzr : RepC w.heap g φ l.zero zv.cells.toList) (hpos : 0 < l.size) (hby : inf.bytes ≤ 65536)
    {x : T} {vx vy : Value} (hx : RepT w.heap g φ x vx) {new : List (List A)} {m : Nat} {news : List Value} (hh : AppR P w t u ty el inf zv vy m news) (hs : Src w g φ l.size new m news) (cn : Array Bool) (rs' : List Nat) : DoesO P w g φ (builtin .append #[t, u] ty cn #[vx, vy]) rs' (appN d l x new) := by
  intro k h
  unfold appN at h
  have fin : ∀ {u' : Value} {w' : World} {us : List (Nat × Option Ob)} {v : T} {rd : List Nat} {φ' : Phi}, (Builtin.append_ #[t, u] ty #[vx, vy]).run P w = .ok u' w' → HeapOK w'.heap (putH us g) φ' → Turn w.heap g φ w'.heap (putH us g) φ' → RepT w'.heap (putH us g) φ' v u' →
      w'.os = w.os → w'.tape = w.tape → w'.output = w.output → w.heap.size ≤ w'.heap.size → Does P w g φ (builtin .append #[t, u] ty cn #[vx, vy]) ⟨v, rd, us⟩ := fun hrun h1 h2 h3 h4 h5 h6 h7 => Does.made (by simp [builtin, hrun]) h1 h2 h3 h4 h5 h6 h7
  -- an append onto what has no room
  have more : ∀ {base : Option Addr} {sLen sCap : Nat} {olds : List Value}, vx = .slice base sLen sCap → (∀ w', w'.heap = w.heap → (Builtin.firstCells inf.size sLen (.slice base sLen sCap)).run P w' = .ok olds.toArray w') → sCap < sLen + m → sLen + m < 2 ^ 30 →
      ∃ cap, sLen + m ≤ cap ∧ cap ≤ maxLen ∧ (Builtin.append_ #[t, u] ty #[vx, vy]).run P w = .ok (.slice (some ⟨w.heap.size, 0, none⟩) (sLen + m) cap) (w.drew.alloc (.cells (olds ++ (news ++ (Builtin.zeroCells zv.cells (cap - (sLen + m))).toList)).toArray el)) := by
    rintro base sLen sCap olds rfl ho hg hlt
    refine ⟨grownCap w (sLen + m) sCap el, grownCap_ge _ _ _ _, grownCap_le_maxLen _ _ _ _ (by simp only [maxLen]; omega), ?_⟩
    rw [← arr_app]
    exact hh.more ho hg hlt
  have hzone : ∀ x ∈ zv.cells.toList, x.oneCell' = true := hzr.one
  split at h
  · obtain ⟨hlt, h⟩ := h
    rw [hs.len] at hlt
    have hvx : ∃ a, vx = .slice a 0 0 := by
      have r := rep_one hx
      cases r with
      | nl a => exact ⟨a, rfl⟩
    obtain ⟨a, rfl⟩ := hvx
    unfold newO at h
    dsimp only [Out.K] at h
    split at h
    · rename_i hn
      rcases Nat.eq_zero_or_pos m with hm | hm
      · subst hm
        have hnews : news = [] := List.eq_nil_of_length_eq_zero (by rw [hs.sz]; simp)
        have hnew : new = [] := List.eq_nil_of_length_eq_zero hs.len
        subst hnew
        obtain ⟨ok', t'⟩ := virt_ok (fl := 0) ok hn (by decide) hpos
        refine ⟨_, h, fin (hh.none rfl hnews a) (φ' := φ.set (16 * (d + 1)) fun _ => none) (by rw [putH_one]; exact ok') (by rw [putH_one]; exact t') ⟨_, rfl, .row _ _ _ _ ?_⟩ rfl rfl rfl (Nat.le_refl _)⟩
        rw [putH_one]
        exact RefRow.mk' (put1_self _ _) (Nat.le_refl _) (Nat.le_refl _) (by rw [set_self]; exact ⟨a, rfl⟩)
      · obtain ⟨cap, hc1, hc2, hrun⟩ := more rfl (olds := []) (fun w' hw => ((hands_none (P := P) (w := w) (size := inf.size) (a := a) (cap := 0)).choose_spec.choose_spec.2 w' hw).1) (by omega) (by omega)
        simp only [Nat.zero_add] at hc1 hrun
        have hrow := grown_row (b := w.heap.size) hpos hs.wd (by rw [hs.len]; exact hs.sz) hs.one (by rw [hs.len]; exact hc1) hc2 hzs hzone
        rw [hs.len] at hrow
        obtain ⟨ok', t'⟩ := new_ok (ob := ⟨0, l.size, new⟩) (ty := el) ok hn (fun h => by cases h) hrow (fun h => absurd rfl h) fun i e j x hi hj => by
          have := hs.app_nil (k := 0) hi hj (ls := []) (rs := (Builtin.zeroCells zv.cells (cap - m)).toList) (by simp)
          rw [arr_getD]
          simpa using this
        refine ⟨_, h, fin hrun (φ' := φ.set (16 * (d + 1)) fun q => if q = [] then some ⟨w.heap.size, 0, cap⟩ else none) (by rw [putH_one]; exact ok') (by rw [putH_one]; exact t') ⟨_, rfl, .row _ _ _ _ ?_⟩ rfl rfl rfl (by show _ ≤ (w.heap.push _).size; simp)⟩
        rw [putH_one]
        rw [hs.len]
        have hp' : (φ.set (16 * (d + 1)) fun q => if q = [] then some (⟨w.heap.size, 0, cap⟩ : Hd) else none) (16 * (d + 1), []) = some ⟨w.heap.size, 0, cap⟩ := by rw [set_self]; rfl
        exact RefRow.full (put1_self _ _) hp' hs.len.symm
    · exact h.elim
  · rename_i n lo hi'
    obtain ⟨fl, wd, es, hn, hf4, hA⟩ := alive_elim h
    clear h
    cases hb : (Nat.beq l.size wd && Nat.beq lo 0)
    · rw [hb] at hA
      obtain ⟨hb2, es', ⟨hE, hlt⟩, h⟩ := cond_K hA
      clear hA
      simp only [Bool.and_eq_true] at hb2
      have e1 := Nat.eq_of_beq_eq_true hb2.1
      subst e1
      dsimp only [Out.K] at h
      split at h
      · rename_i hm'
        obtain ⟨u', w', φ', hrun, ok', t', hr, h1, h2, h3, h4⟩ := append_view ok (t := t) (u := u) (ty := ty) hsz hzs hzone hn hf4 hm' (by have r := rep_one hx; cases r; assumption) hh hs hE hlt
        exact ⟨_, h, fin hrun (by rw [putH_cons, putH_one]; exact ok') (by rw [putH_cons, putH_one]; exact t') (by rw [putH_cons, putH_one]; exact ⟨_, rfl, .row _ _ _ _ hr⟩) h1 h2 h3 h4⟩
      · exact h.elim
    rw [hb] at hA
    dsimp only [cond_true] at hA
    have h := hA
    clear hA
    simp only [Bool.and_eq_true] at hb
    have e1 := Nat.eq_of_beq_eq_true hb.1
    have e2 := Nat.eq_of_beq_eq_true hb.2
    subst e1 e2
    have r := rep_one hx
    have r2 : RefRow g φ n 0 hi' vx := by cases r; assumption
    by_cases hfl : fl = 1
    · subst hfl
      obtain ⟨hlt, h⟩ := h
      rw [hs.len] at hlt h
      have r3 := r2.2
      rw [hn] at r3
      obtain ⟨_, hle, r3⟩ := r3
      dsimp only at hle r3
      have hobn := ok.ob n _ hn
      have htl : (es.take hi').length = hi' := by simp; omega
      by_cases hin : hi' + m ≤ es.length
      · obtain ⟨es', rfl, h⟩ := h.1 hin
        rcases (hobn.row hf4) with ⟨h0, hp⟩ | ⟨hd, c, ty', g1, g2, g3, g4, g5⟩
        · dsimp only at h0
          subst h0
          have hm : m = 0 := by simp at hin; omega
          have hhi : hi' = 0 := by simpa using hle
          subst hm hhi
          have hnews : news = [] := List.eq_nil_of_length_eq_zero (by rw [hs.sz]; simp)
          have hnew : new = [] := List.eq_nil_of_length_eq_zero hs.len
          subst hnew
          rw [hp] at r3
          obtain ⟨a, rfl⟩ := r3
          have hg : putH [(n, some ⟨1, l.size, List.take 0 [] ++ [] ++ List.drop (0 + 0) []⟩)] g = g := by
            rw [putH_one]
            funext q
            by_cases hq : q = n
            · subst hq; rw [put1_self, hn]; rfl
            · rw [put1_ne _ hq]
          refine ⟨_, h, fin (hh.none rfl hnews a) (φ' := φ) (by rw [hg]; exact ok) (by rw [hg]; exact Turn.refl _ _ _) ⟨_, rfl, ?_⟩ rfl rfl rfl (Nat.le_refl _)⟩
          rw [hg]; exact .row _ _ _ _ r2
        · rw [g1] at r3
          obtain ⟨ad, rfl, ha⟩ := r3
          dsimp only at g3 g4 g5 ha
          rw [ha (.inl rfl)] at more fin hx r2 ⊢
          simp only [Nat.zero_mul, Nat.add_zero, Nat.sub_zero] at more fin hx r2 ⊢
          have hcap : es.length = hd.cap := g4 (by decide)
          have hfit : hd.off + hi' * l.size + news.length ≤ c.size := by
            rw [g3.size, hs.sz, Nat.add_assoc, ← Nat.add_mul]
            exact Nat.add_le_add_left (Nat.mul_le_mul_right _ (by omega)) _
          have hrun := hh.room g2 (show hi' + m ≤ hd.cap by omega) (off := hd.off) (by rw [hsz]; exact hfit) hs.one
          rw [hsz] at hrun
          have hl3 : (es.take hi' ++ new ++ es.drop (hi' + m)).length = es.length := by simp only [List.length_append, htl, hs.len, List.length_drop]; omega
          have hsg := seg_get es hi' new (by rw [hs.len]; exact hin)
          rw [hs.len] at hsg
          obtain ⟨ok', t'⟩ := write_ok ok hf4 hn g1 g2 g3 g4 g5 (es' := es.take hi' ++ new ++ es.drop (hi' + m)) hfit hs.one (fun e he => by
            simp only [List.mem_append] at he
            rcases he with (he | he) | he
            · exact g3.len e (List.mem_of_mem_take he)
            · exact hs.wd e he
            · exact g3.len e (List.mem_of_mem_drop he)) hl3 fun i e j x hi hj => by
            rw [hsg] at hi
            split at hi
            · rename_i hii
              have h1 := (List.getElem?_eq_some_iff.1 hi).1
              have h2 := (List.getElem?_eq_some_iff.1 hj).1
              rw [hs.wd e (List.mem_of_getElem? hi)] at h2
              rw [hs.len] at h1
              have h3 : (i - hi') * l.size + j < m * l.size := idx_lt h1 h2
              have e4 : i * l.size = hi' * l.size + (i - hi') * l.size := by rw [← Nat.add_mul]; congr 1; omega
              refine .inl ⟨by omega, by rw [hs.sz]; omega, ?_⟩
              rw [show hd.off + i * l.size + j - (hd.off + hi' * l.size) = (i - hi') * l.size + j by omega]
              exact hs.rep _ e j x hi hj
            · rename_i hii
              have h2 := (List.getElem?_eq_some_iff.1 hj).1
              rw [g3.len e (List.mem_of_getElem? hi)] at h2
              refine .inr ⟨?_, e, hi, hj⟩
              rw [hs.sz]
              rintro ⟨a1, a2⟩
              rcases Nat.lt_or_ge i hi' with hlt2 | hge2
              · have := idx_lt hlt2 h2; omega
              · have := Nat.mul_le_mul_right l.size (show hi' + m ≤ i by omega)
                rw [Nat.add_mul] at this; omega
          refine ⟨_, h, fin hrun (φ' := φ) (by rw [putH_one]; exact ok') (by rw [putH_one]; exact t') ⟨_, rfl, .row _ _ _ _ ?_⟩ rfl rfl rfl (by simp [World.setRow])⟩
          rw [putH_one]
          exact RefRow.mk' (put1_self _ _) (Nat.zero_le _) (by rw [hl3]; exact hin) (by rw [g1]; exact ⟨_, rfl, fun _ => by simp⟩)
      · obtain ⟨es', rfl, h⟩ := h.2 hin
        obtain ⟨m0, olds, ho, hm0, _, _, _, _, ho5, ho6, ho7⟩ := src_row (P := P) ok hn hf4 (.row _ _ _ _ r2)
        rw [List.drop_zero] at hm0 ho7
        rw [htl] at hm0
        rw [hm0] at ho ho5
        clear hm0
        have hcle : ∃ base sCap, vx = .slice base hi' sCap ∧ sCap < hi' + m := by
          rcases (hobn.row hf4) with ⟨h0, hp⟩ | ⟨hd, c, ty', g1, g2, g3, g4, g5⟩
          · rw [hp] at r3
            obtain ⟨a, rfl⟩ := r3
            dsimp only at h0
            subst h0
            have hhi : hi' = 0 := by simpa using hle
            subst hhi
            exact ⟨a, 0, rfl, by simp at hin; omega⟩
          · rw [g1] at r3
            obtain ⟨ad, rfl, ha⟩ := r3
            have := g4 (show (1 : Nat) ≠ 0 by decide)
            dsimp only at this
            exact ⟨ad, hd.cap, rfl, by omega⟩
        obtain ⟨base, sCap, rfl, hcap⟩ := hcle
        obtain ⟨_, _, e0, hf⟩ := ho
        cases e0
        obtain ⟨cap, hc1, hc2, hrun⟩ := more rfl (fun w' hw => by rw [hsz]; exact (hf w' hw).1) hcap (by omega)
        have hl2 : (cpE (es.take hi') ++ new).length = hi' + m := by rw [List.length_append, hs.len]; simp only [cpE, List.length_map, htl]
        have hwd : ∀ e ∈ cpE (es.take hi') ++ new, e.length = l.size := fun e he => by
          rcases List.mem_append.1 he with h1 | h1
          · obtain ⟨e', he', rfl⟩ := List.mem_map.1 h1
            rcases (hobn.row hf4) with ⟨h0, _⟩ | ⟨hd, c, ty', g1, g2, g3, g4, g5⟩
            · dsimp only at h0; rw [h0] at he'; simp at he'
            · simpa using g3.len e' (List.mem_of_mem_take he')
          · exact hs.wd e h1
        have hrow := grown_row (b := w.heap.size) hpos hwd (news := olds ++ news) (by rw [List.length_append, ho5, hs.sz, hl2, Nat.add_mul]) (fun x hx => (List.mem_append.1 hx).elim (ho6 x) (hs.one x)) (by rw [hl2]; exact hc1) hc2 hzs hzone
        rw [hl2, List.append_assoc] at hrow
        have hrun' : (builtin .append #[t, u] ty cn #[.slice base hi' sCap, vy]).run P w = .ok (.value (.slice (some ⟨w.heap.size, 0, none⟩) (hi' + m) cap)) (w.drew.alloc (.cells (olds ++ (news ++ (Builtin.zeroCells zv.cells (cap - (hi' + m))).toList)).toArray el)) := by simp [builtin, hrun]
        refine new_does (ty := el) (cap := cap) (u := .slice (some ⟨w.heap.size, 0, none⟩) (hi' + m) cap) (ob := ⟨0, l.size, cpE (es.take hi') ++ new⟩) (v := fun m => .val false [.row m 0 (cpE (es.take hi') ++ new).length]) (c := (olds ++ (news ++ (Builtin.zeroCells zv.cells (cap - (hi' + m))).toList)).toArray) ok (fun h => by cases h) hrun' rfl rfl rfl rfl hrow (fun h => absurd rfl h) (fun i e j x hi hj => ?_) (fun m' φ' hφ => ⟨_, rfl, .row _ _ _ _ ?_⟩) k h
        · dsimp only at hi ⊢
          by_cases hlt2 : i < hi'
          · rw [List.getElem?_append_left (by simp only [cpE, List.length_map, htl]; exact hlt2)] at hi
            simp only [cpE, List.getElem?_map] at hi
            cases hq : (es.take hi')[i]? with
            | none => rw [hq] at hi; cases hi
            | some e0 =>
              rw [hq] at hi
              cases hi
              rw [List.getElem?_map] at hj
              cases hq2 : e0[j]? with
              | none => rw [hq2] at hj; cases hj
              | some x0 =>
                rw [hq2] at hj
                cases hj
                have h2 := (List.getElem?_eq_some_iff.1 hq2).1
                have h4 := hwd (e0.map cpA) (List.mem_append_left _ (List.mem_map.2 ⟨e0, List.mem_of_getElem? hq, rfl⟩))
                rw [List.length_map] at h4
                have h3 : i * l.size + j < hi' * l.size := idx_lt hlt2 (by omega)
                rw [arr_getD, getD_app, if_pos (by rw [ho5]; exact h3)]
                exact ho7 i e0 j x0 hq hq2
          · rw [List.getElem?_append_right (by simp only [cpE, List.length_map, htl]; omega)] at hi
            simp only [cpE, List.length_map, htl] at hi
            have := hs.app_nil (k := hi') hi hj (ls := olds) (rs := (Builtin.zeroCells zv.cells (cap - (hi' + m))).toList) ho5
            rw [show hi' + (i - hi') = i by omega, List.append_assoc] at this
            rw [arr_getD]; exact this
        · rw [hl2]
          exact RefRow.full (put1_self _ _) hφ hl2.symm
    · have h' : (Out.ex (fun es' : List (List A) => es.take hi' ++ new = es' ∧ es'.length < 2 ^ 30) fun es' => .rd (16 * (d + 1)) fun o => match o with
        | none => .ok (.val false [.row (16 * (d + 1)) 0 es'.length]) [(16 * (d + 1), some ⟨0, l.size, es'⟩), (n, none)]
        | some _ => .no).K true g (n :: rs') k := by
        match fl, hfl with
        | 0, _ => exact h
        | fl + 2, _ => exact h
      clear h
      obtain ⟨es', ⟨rfl, hlt⟩, h⟩ := h'
      dsimp only [Out.K] at h
      split at h
      · rename_i hm'
        obtain ⟨u', w', φ', hrun, ok', t', hr, h1, h2, h3, h4⟩ := append_over (z := l.zero) hT ok (t := t) (u := u) (ty := ty) hsz hzs hzone hby hn hf4 hm' r2 hh hs hlt
        exact ⟨_, h, fin hrun (by rw [putH_cons, putH_one]; exact ok') (by rw [putH_cons, putH_one]; exact t') (by rw [putH_cons, putH_one]; exact ⟨_, rfl, .row _ _ _ _ hr⟩) h1 h2 h3 h4⟩
      · exact h.elim
  · exact h.elim
theorem room_does (ok : HeapOK w.heap g φ) {t u el ty : TypeId} {l : Lay} {inf : TypeInfo} {zv : Value} (hsz : inf.size = l.size) {vx vy : Value} {n fl hi' : Nat} {es : List (List A)} (hn : g n = some (some ⟨fl, l.size, es⟩)) (hf4 : fl ≠ 4) (r2 : RefRow g φ n 0 hi' vx)
    {new : List (List A)} {m : Nat} {news : List Value} (hh : AppR P w t u ty el inf zv vy m news) (hs : Src w g φ l.size new m news) (hin : hi' + m ≤ es.length) (cn : Array Bool) (rd : List Nat) :
    Does P w g φ (builtin .append #[t, u] ty cn #[vx, vy]) ⟨.val false [.row n 0 (hi' + m)], rd, [(n, some ⟨fl, l.size, es.take hi' ++ new ++ es.drop (hi' + m)⟩)]⟩ := by
  have fin : ∀ {u' : Value} {w' : World} {us : List (Nat × Option Ob)} {v : T} {rd : List Nat} {φ' : Phi}, (Builtin.append_ #[t, u] ty #[vx, vy]).run P w = .ok u' w' → HeapOK w'.heap (putH us g) φ' → Turn w.heap g φ w'.heap (putH us g) φ' → RepT w'.heap (putH us g) φ' v u' →
      w'.os = w.os → w'.tape = w.tape → w'.output = w.output → w.heap.size ≤ w'.heap.size → Does P w g φ (builtin .append #[t, u] ty cn #[vx, vy]) ⟨v, rd, us⟩ := fun hrun h1 h2 h3 h4 h5 h6 h7 => Does.made (by simp [builtin, hrun]) h1 h2 h3 h4 h5 h6 h7
  have r3 := r2.2
  rw [hn] at r3
  obtain ⟨_, hle, r3⟩ := r3
  dsimp only at hle r3
  have hobn := ok.ob n _ hn
  have htl : (es.take hi').length = hi' := by simp; omega
  rcases (hobn.row hf4) with ⟨h0, hp⟩ | ⟨hd, c, ty', g1, g2, g3, g4, g5⟩
  · dsimp only at h0
    subst h0
    have hm : m = 0 := by simp at hin; omega
    have hhi : hi' = 0 := by simpa using hle
    subst hm hhi
    have hnews : news = [] := List.eq_nil_of_length_eq_zero (by rw [hs.sz]; simp)
    have hnew : new = [] := List.eq_nil_of_length_eq_zero hs.len
    subst hnew
    rw [hp] at r3
    obtain ⟨a, rfl⟩ := r3
    have hg : putH [(n, some ⟨fl, l.size, List.take 0 [] ++ [] ++ List.drop (0 + 0) []⟩)] g = g := by
      rw [putH_one]
      funext q
      by_cases hq : q = n
      · subst hq; rw [put1_self, hn]; rfl
      · rw [put1_ne _ hq]
    refine fin (hh.none rfl hnews a) (φ' := φ) (by rw [hg]; exact ok) (by rw [hg]; exact Turn.refl _ _ _) ⟨_, rfl, ?_⟩ rfl rfl rfl (Nat.le_refl _)
    rw [hg]; exact .row _ _ _ _ r2
  · rw [g1] at r3
    obtain ⟨ad, rfl, ha⟩ := r3
    dsimp only at g3 g4 g5 ha
    rw [ha (.inl rfl)] at fin r2 ⊢
    simp only [Nat.zero_mul, Nat.add_zero, Nat.sub_zero] at fin r2 ⊢
    have hcap : es.length ≤ hd.cap := g3.le
    have hfit : hd.off + hi' * l.size + news.length ≤ c.size := by
      rw [g3.size, hs.sz, Nat.add_assoc, ← Nat.add_mul]
      exact Nat.add_le_add_left (Nat.mul_le_mul_right _ (by omega)) _
    have hrun := hh.room g2 (show hi' + m ≤ hd.cap by omega) (off := hd.off) (by rw [hsz]; exact hfit) hs.one
    rw [hsz] at hrun
    have hl3 : (es.take hi' ++ new ++ es.drop (hi' + m)).length = es.length := by simp only [List.length_append, htl, hs.len, List.length_drop]; omega
    have hsg := seg_get es hi' new (by rw [hs.len]; exact hin)
    rw [hs.len] at hsg
    obtain ⟨ok', t'⟩ := write_ok ok hf4 hn g1 g2 g3 g4 g5 (es' := es.take hi' ++ new ++ es.drop (hi' + m)) hfit hs.one (fun e he => by
      simp only [List.mem_append] at he
      rcases he with (he | he) | he
      · exact g3.len e (List.mem_of_mem_take he)
      · exact hs.wd e he
      · exact g3.len e (List.mem_of_mem_drop he)) hl3 fun i e j x hi hj => by
      rw [hsg] at hi
      split at hi
      · rename_i hii
        have h1 := (List.getElem?_eq_some_iff.1 hi).1
        have h2 := (List.getElem?_eq_some_iff.1 hj).1
        rw [hs.wd e (List.mem_of_getElem? hi)] at h2
        rw [hs.len] at h1
        have h3 : (i - hi') * l.size + j < m * l.size := idx_lt h1 h2
        have e4 : i * l.size = hi' * l.size + (i - hi') * l.size := by rw [← Nat.add_mul]; congr 1; omega
        refine .inl ⟨by omega, by rw [hs.sz]; omega, ?_⟩
        rw [show hd.off + i * l.size + j - (hd.off + hi' * l.size) = (i - hi') * l.size + j by omega]
        exact hs.rep _ e j x hi hj
      · rename_i hii
        have h2 := (List.getElem?_eq_some_iff.1 hj).1
        rw [g3.len e (List.mem_of_getElem? hi)] at h2
        refine .inr ⟨?_, e, hi, hj⟩
        rw [hs.sz]
        rintro ⟨a1, a2⟩
        rcases Nat.lt_or_ge i hi' with hlt2 | hge2
        · have := idx_lt hlt2 h2; omega
        · have := Nat.mul_le_mul_right l.size (show hi' + m ≤ i by omega)
          rw [Nat.add_mul] at this; omega
    refine fin hrun (φ' := φ) (by rw [putH_one]; exact ok') (by rw [putH_one]; exact t') ⟨_, rfl, .row _ _ _ _ ?_⟩ rfl rfl rfl (by simp [World.setRow])
    rw [putH_one]
    exact RefRow.mk' (put1_self _ _) (Nat.zero_le _) (by rw [hl3]; exact hin) (by rw [g1]; exact ⟨_, rfl, fun _ => by simp⟩)
theorem cpE_src {n lo hi fl wd m : Nat} {es : List (List A)} {news : List Value} (hm : m = ((es.take hi).drop lo).length) (h4 : ∀ e ∈ es, e.length = wd) (h5 : news.length = m * wd) (h6 : ∀ x ∈ news, x.oneCell' = true)
    (h7 : ∀ i e j x, ((es.take hi).drop lo)[i]? = some e → e[j]? = some x → RepE w.heap g φ (cpA x) (news.getD (i * wd + j) undef)) : Src w g φ wd (cpE ((es.take hi).drop lo)) m news := by
  refine ⟨by simp [cpE, hm], fun e he => ?_, h5, h6, fun i e j x hi hj => ?_⟩
  · obtain ⟨e', he', rfl⟩ := List.mem_map.1 he
    simpa using h4 e' (List.mem_of_mem_take (List.mem_of_mem_drop he'))
  · simp only [cpE, List.getElem?_map] at hi
    cases hq : ((es.take _).drop lo)[i]? with
    | none => rw [hq] at hi; cases hi
    | some e0 =>
      rw [hq] at hi
      cases hi
      rw [List.getElem?_map] at hj
      cases hq2 : e0[j]? with
      | none => rw [hq2] at hj; cases hj
      | some x0 =>
        rw [hq2] at hj
        cases hj
        exact h7 i e0 j x0 hq hq2
theorem append_does (hT : TabOK P tb) (ok : HeapOK w.heap g φ) {d : Nat} {t u el eu : TypeId} {z z' : A} {bt bt' : Nat} {l : Lay} (ht : tb t = some (.w (.slice el) z bt)) (hu : tb u = some (.w (.slice eu) z' bt')) (hl : tb el = some l)
    {x y : T} {vx vy : Value} (hx : RepT w.heap g φ x vx) (hy : RepT w.heap g φ y vy) (ty : TypeId) (cn : Array Bool) (rs : List Nat) : DoesO P w g φ (builtin .append #[t, u] ty cn #[vx, vy]) rs (appendO d l x y) := by
  obtain ⟨ht', _⟩ := hT.w t _ z bt ht
  obtain ⟨hu', _⟩ := hT.w u _ z' bt' hu
  obtain ⟨inf, zv, hi, hsz, hbt, hz, hzs, hzr⟩ := tab_zero hT hl w.heap g φ
  intro k h
  unfold appendO at h
  obtain ⟨h0, hA⟩ := cond_K h
  clear h
  simp only [Bool.and_eq_true] at h0
  have hpos : 0 < l.size := by have := h0.1; simpa [Nat.blt, Nat.lt_iff_add_one_le] using this
  have hby : inf.bytes ≤ 65536 := by rw [hbt]; exact Nat.le_of_ble_eq_true h0.2
  cases hsr : sameRow x y
  · rw [hsr] at hA
    obtain ⟨new, rs', m, news, h, hh, hs⟩ := src_elim (P := P) ok hpos hy hA
    rw [← hsz] at hh
    exact appN_does hT ok hsz hzs hzr hpos hby hx (AppR.hands ht' hu' hi hz hh hby) hs cn rs' k h
  · rw [hsr] at hA
    dsimp only [cond_true] at hA
    unfold selfO at hA
    split at hA
    · rename_i n lo hi' n' lo' hi2
      simp only [sameRow, Bool.and_eq_true] at hsr
      have e1 := Nat.eq_of_beq_eq_true hsr.1
      have e2 := Nat.eq_of_beq_eq_true hsr.2
      subst e1 e2
      obtain ⟨fl, wd, es, hn, hf4, hB⟩ := alive_elim hA
      clear hA
      obtain ⟨hb, hB⟩ := cond_K hB
      have e3 := Nat.eq_of_beq_eq_true hb
      subst e3
      obtain ⟨es', ⟨h1, h2, rfl⟩, h⟩ := hB
      have r2 : RefRow g φ n 0 hi' vx := by have r := rep_one hx; cases r; assumption
      obtain ⟨m, news, hh, hm, _, q2, q3, q4, q5, q6, q7⟩ := src_row (P := P) ok hn hf4 (rep_one hy)
      have hml : m = hi2 - lo' := by rw [hm]; simp; omega
      have hs := cpE_src (n := n) (fl := fl) hm q4 q5 q6 q7
      subst hml
      rw [← hsz] at hh
      exact ⟨_, h, room_does ok hsz hn hf4 r2 (AppR.hands ht' hu' hi hz hh hby) hs (by omega) cn _⟩
    · exact hA.elim
theorem appendZ_does (hT : TabOK P tb) (ok : HeapOK w.heap g φ) {d : Nat} {t u el : TypeId} {kn : IntKind} {z z' : A} {bt bt' : Nat} {l : Lay} (ht : tb t = some (.w (.slice el) z bt)) (hu : tb u = some (.w (.int kn) z' bt')) (hl : tb el = some l)
    {x y : T} {vx vy : Value} (hx : RepT w.heap g φ x vx) (hy : RepT w.heap g φ y vy) (ty : TypeId) (cn : Array Bool) (rs : List Nat) (hsz0 : ∀ (n : Nat) (zv : Value), zv.cells.size = l.size → RepC w.heap g φ l.zero zv.cells.toList → Src w g φ l.size (List.replicate n l.zero) n (Builtin.zeroCells zv.cells n).toList) :
    DoesO P w g φ (builtin .append #[t, u] ty cn #[vx, vy]) rs (appendZO d l x y) := by
  obtain ⟨ht', _⟩ := hT.w t _ z bt ht
  obtain ⟨hu', _⟩ := hT.w u _ z' bt' hu
  obtain ⟨inf, zv, hi, hsz, hbt, hz, hzs, hzr⟩ := tab_zero hT hl w.heap g φ
  intro k h
  unfold appendZO at h
  obtain ⟨h0, hA⟩ := cond_K h
  clear h
  simp only [Bool.and_eq_true] at h0
  have hpos : 0 < l.size := by have := h0.1; simpa [Nat.blt, Nat.lt_iff_add_one_le] using this
  have hby : inf.bytes ≤ 65536 := by rw [hbt]; exact Nat.le_of_ble_eq_true h0.2
  split at hA
  · obtain ⟨⟨m, new⟩, ⟨hm, hlt, hnew⟩, h⟩ := hA
    dsimp only at hm hlt hnew h
    subst hm hnew
    cases v_rep hy
    exact appN_does hT ok hsz hzs hzr hpos hby hx (AppR.zeros ht' hu' hi hz (by omega) (by omega) hlt hby) (hsz0 m zv hzs hzr) cn _ k h
  · exact hA.elim
end
end Go.Proofs.YtecnmodeggnjoaaGreat.Ac
