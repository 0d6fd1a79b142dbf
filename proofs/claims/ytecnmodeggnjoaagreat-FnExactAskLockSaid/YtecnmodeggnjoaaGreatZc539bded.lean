/- Several of our texts, one behind the other, without what this claim does not need: AcK. -/
import Derived.Test.YtecnmodeggnjoaaGreatZ1853f116
set_option linter.unusedVariables false
set_option linter.unusedSimpArgs false
namespace Go.Proofs.YtecnmodeggnjoaaGreat.Ac
open Go.RowKit
section
variable {P : Program} {tb : Tab} {g : Hp} {φ : Phi} {w : World} {h : Array Obj} {H : Hp}
theorem RepA.cp {X : Place} {x : A} {u : Value} (r : RepA h H φ X x u) : RepE h H φ (cpA x) u := by
  cases r with
  | e _ _ _ r => cases r <;> (rename_i r; first | exact r | skip) <;> constructor <;> assumption
  | nilo _ wd a => exact .un _ _ rfl fun n hn => by cases hn; exact ⟨a, 0, rfl⟩
  | ow _ wd es hd c ty => exact .un _ _ rfl fun n hn => by cases hn; exact ⟨_, _, rfl⟩
structure Src (w : World) (g : Hp) (φ : Phi) (size : Nat) (new : List (List A)) (m : Nat) (news : List Value) : Prop where
  len : new.length = m
  wd : ∀ e ∈ new, e.length = size
  sz : news.length = m * size
  one : ∀ x ∈ news, x.oneCell' = true
  rep : ∀ i e j x, new[i]? = some e → e[j]? = some x → RepE w.heap g φ x (news.getD (i * size + j) undef)
def Hands (P : Program) (w : World) (size : Nat) (v : Value) (m : Nat) (news : List Value) : Prop := ∃ a cap, v = .slice a m cap ∧ ∀ w', w'.heap = w.heap → (Builtin.firstCells size m v).run P w' = .ok news.toArray w' ∧
  ∀ k ≤ m, (Builtin.firstCells size k v).run P w' = .ok (news.take (k * size)).toArray w'
theorem hands_none {size : Nat} {a : Option Addr} {cap : Nat} : Hands P w size (.slice a 0 cap) 0 [] := by
  refine ⟨a, cap, rfl, fun w' hw => ?_⟩
  have : (Builtin.firstCells size 0 (.slice a 0 cap)).run P w' = .ok #[] w' := by
    cases a with
    | none => simp [Builtin.firstCells]
    | some a => exact run_firstCells_some w' size 0 a 0 cap [] (by simp) (by simp)
  exact ⟨this, fun k hk => by obtain rfl : k = 0 := by omega
                              simpa using this⟩
theorem hands_at {size b off m cap : Nat} {c : Array Value} {ty : TypeId} {fr : Nat × Nat} (hb : w.heap[b]? = some (.cells c ty fr)) (hs : off + m * size ≤ c.size) :
    Hands P w size (.slice (some ⟨b, off, none⟩) m cap) m ((List.range (m * size)).map fun j => c.getD (off + j) undef) := by
  have key : ∀ w' : World, w'.heap = w.heap → ∀ k ≤ m, (Builtin.firstCells size k (.slice (some ⟨b, off, none⟩) m cap)).run P w' = .ok ((List.range (k * size)).map fun j => c.getD (off + j) undef).toArray w' := by
    intro w' hw k hk
    refine run_firstCells_some w' size k ⟨b, off, none⟩ m cap _ (by simp) fun j v hj => ?_
    obtain ⟨h1, rfl⟩ := range_get hj
    rw [Addr.add_lit]
    refine getD_cell (by rw [hw]; exact hb) ?_
    have := Nat.mul_le_mul_right size hk
    omega
  refine ⟨_, _, rfl, fun w' hw => ⟨key w' hw m (Nat.le_refl _), fun k hk => ?_⟩⟩
  rw [← List.map_take, List.take_range, Nat.min_eq_left (Nat.mul_le_mul_right _ hk)]
  exact key w' hw k hk
theorem getD_range {n j : Nat} {f : Nat → Value} (hj : j < n) : ((List.range n).map f).getD j undef = f j := by
  simp [List.getD_eq_getElem?_getD, List.getElem?_range hj]
theorem src_row (ok : HeapOK w.heap g φ) {n lo hi fl wd : Nat} {es : List (List A)} (hn : g n = some (some ⟨fl, wd, es⟩)) (hf4 : fl ≠ 4) {v : Value} (r : RepE w.heap g φ (.row n lo hi) v) :
    ∃ m news, Hands P w wd v m news ∧ m = ((es.take hi).drop lo).length ∧ lo ≤ hi ∧ hi ≤ es.length ∧ 0 < wd ∧ (∀ e ∈ es, e.length = wd) ∧ news.length = m * wd ∧ (∀ x ∈ news, x.oneCell' = true) ∧
      ∀ i e j x, ((es.take hi).drop lo)[i]? = some e → e[j]? = some x → RepE w.heap g φ (cpA x) (news.getD (i * wd + j) undef) := by
  have r0 := r
  cases r with
  | row _ _ _ _ r =>
    have r2 := r.2
    rw [hn] at r2
    obtain ⟨h1, h2, h3⟩ := r2
    dsimp only at h2 h3
    rcases ((ok.ob n _ hn).row hf4) with ⟨h0, hp⟩ | ⟨hd, c, ty, g1, g2, g3, g4, g5⟩
    · dsimp only at h0
      subst h0
      rw [hp] at h3
      obtain ⟨a, rfl⟩ := h3
      have : hi = 0 := by simpa using h2
      subst this
      exact ⟨0, [], hands_none, by simp, h1, h2, (ok.ob n _ hn).1, fun e he => (by cases he), by simp, fun x hx => (by cases hx), fun i e j x hi => (by simp at hi)⟩
    · rw [g1] at h3
      obtain ⟨a, rfl, ha⟩ := h3
      dsimp only at g3 g5 ha
      have hlen : ((es.take hi).drop lo).length = hi - lo := by simp; omega
      by_cases hlt : lo < hi
      · rw [ha (.inr (by have := g3.le; omega))]
        have hin : hd.off + lo * wd + (hi - lo) * wd ≤ c.size := by
          rw [g3.size, Nat.add_assoc, ← Nat.add_mul]
          exact Nat.add_le_add_left (Nat.mul_le_mul_right _ (by have := g3.le; omega)) _
        refine ⟨hi - lo, _, hands_at g2 hin, hlen.symm, h1, h2, g3.wd0, g3.len, by simp, fun x hx => ?_, fun i e j x hi' hj => ?_⟩
        · obtain ⟨k, hk, rfl⟩ := List.mem_map.1 hx
          exact g3.one _ (by have := List.mem_range.1 hk; omega)
        · rw [List.getElem?_drop, List.getElem?_take] at hi'
          split at hi'
          · have hel := g3.len e (List.mem_of_getElem? hi')
            have hjl := (List.getElem?_eq_some_iff.1 hj).1
            have : i * wd + j < (hi - lo) * wd := idx_lt (by omega) (by omega)
            rw [getD_range this]
            have := (g5 _ e j x hi' hj).cp
            rw [Nat.add_mul] at this
            rw [show hd.off + lo * wd + (i * wd + j) = hd.off + (lo * wd + i * wd) + j by omega]
            exact this
          · cases hi'
      · have : hi = lo := by omega
        subst this
        rw [Nat.sub_self]
        exact ⟨0, [], hands_none, by rw [hlen, Nat.sub_self], h1, h2, g3.wd0, g3.len, by simp, fun x hx => (by cases hx), fun i e j x hi => (by simp at hi)⟩
theorem noOw_cp : ∀ {e : List A}, noOw.go e = true → e.map cpA = e
  | [], _ => rfl
  | x :: e, h => by
    have hx : cpA x = x ∧ noOw.go e = true := by cases x <;> first | exact ⟨rfl, h⟩ | cases h
    rw [List.map_cons, hx.1, noOw_cp hx.2]
theorem noOw_cpE : ∀ {es : List (List A)}, noOw es = true → cpE es = es
  | [], _ => rfl
  | e :: es, h => by
    simp only [noOw, Bool.and_eq_true] at h
    have := noOw_cpE h.2
    simp only [cpE, List.map_cons, noOw_cp h.1] at this ⊢
    rw [this]
theorem src_elim {k : Eff → Prop} (ok : HeapOK w.heap g φ) {size : Nat} (h0 : 0 < size) {y : T} {v : Value} (hy : RepT w.heap g φ y v) {κ : List (List A) → Out} {rs : List Nat} (h : (srcO size y κ).K true g rs k) :
    ∃ new rs' m news, (κ new).K true g rs' k ∧ Hands P w size v m news ∧ Src w g φ size new m news := by
  unfold srcO at h
  split at h
  · have r := rep_one hy
    cases r
    exact ⟨[], rs, 0, [], h, hands_none, ⟨rfl, fun e he => (by cases he), by simp, fun x hx => (by cases hx), fun i e j x hi => (by simp at hi)⟩⟩
  · rename_i wd' es
    obtain ⟨hb, hk⟩ := cond_K h
    clear h
    have := Nat.eq_of_beq_eq_true hb
    subst this
    obtain ⟨es', rfl, h⟩ := hk
    have r := rep_one hy
    cases r with
    | f _ _ r =>
    cases r with
    | nil _ a cap => exact ⟨_, _, 0, [], h, hands_none, ⟨rfl, fun e he => (by cases he), by simp, fun x hx => (by cases hx), fun i e j x hi => (by simp at hi)⟩⟩
    | sl _ _ b off cap c ty fr hw he hb hO hl hs hc hr =>
      have hone : ∀ i e j x, es[i]? = some e → e[j]? = some x → i * size + j < es.length * size := fun i e j x hi hj => by
        have h1 := (List.getElem?_eq_some_iff.1 hi).1
        have h2 := (List.getElem?_eq_some_iff.1 hj).1
        rw [hl e (List.mem_of_getElem? hi)] at h2
        exact idx_lt h1 h2
      refine ⟨_, _, es.length, _, h, hands_at hb hs, ⟨by simp, fun e he => ?_, by simp, fun x hx => ?_, fun i e j x hi hj => ?_⟩⟩
      · obtain ⟨e', he', rfl⟩ := List.mem_map.1 he
        simpa using hl e' he'
      · obtain ⟨k', hk', rfl⟩ := List.mem_map.1 hx
        have hk' := List.mem_range.1 hk'
        have hd : k' / size < es.length := Nat.div_lt_of_lt_mul (by rw [Nat.mul_comm]; exact hk')
        have hm : k' % size < size := Nat.mod_lt _ h0
        have hel : (es[k' / size]).length = size := hl _ (List.getElem_mem _)
        have := hr (k' / size) es[k' / size] (k' % size) (es[k' / size][k' % size]'(by omega)) (by simp [hd]) (by simp [hel, hm])
        have e1 : off + k' / size * size + k' % size = off + k' := by
          have := Nat.div_add_mod k' size
          rw [Nat.mul_comm] at this; omega
        rw [e1] at this
        exact this.one
      · rw [List.getElem?_map] at hi
        cases hq : es[i]? with
        | none => rw [hq] at hi; cases hi
        | some e0 =>
          rw [hq] at hi
          cases hi
          rw [List.getElem?_map] at hj
          cases hq2 : e0[j]? with
          | none => rw [hq2] at hj; cases hj
          | some x0 =>
            rw [hq2] at hj
            cases hj
            rw [getD_range (hone i e0 j x0 hq hq2), ← Nat.add_assoc]
            exact .f _ _ (hr i e0 j x0 hq hq2)
  · rename_i m lo hi
    obtain ⟨fl, wd, es, hn, hf4, hk0⟩ := alive_elim h
    clear h
    obtain ⟨hb, h⟩ := cond_K hk0
    clear hk0
    have := Nat.eq_of_beq_eq_true hb
    subst this
    obtain ⟨m', news, hh, hm, h1, h2, h3, h4, h5, h6, h7⟩ := src_row (P := P) ok hn hf4 (rep_one hy)
    have fin : ∀ {new : List (List A)}, new = cpE ((es.take hi).drop lo) → Src w g φ size new m' news := by
      rintro new rfl
      refine ⟨by simp [cpE, hm], fun e he => ?_, h5, h6, fun i e j x hi hj => ?_⟩
      · obtain ⟨e', he', rfl⟩ := List.mem_map.1 he
        simpa using h4 e' (List.mem_of_mem_take (List.mem_of_mem_drop he'))
      · simp only [cpE, List.getElem?_map] at hi
        cases hq : ((es.take _).drop lo)[i]? with
        | none => rw [hq] at hi; cases hi
        | some e0 =>
          rw [hq] at hi
          cases hi
          rw [List.getElem?_map] at hj
          cases hq2 : e0[j]? with
          | none => rw [hq2] at hj; cases hj
          | some x0 =>
            rw [hq2] at hj
            cases hj
            exact h7 i e0 j x0 hq hq2
    cases hc : (Nat.beq fl 2 && noOw es && Nat.beq lo 0 && Nat.beq hi es.length)
    · rw [hc] at h
      obtain ⟨es', he, h⟩ := h
      exact ⟨es', _, m', news, h, hh, fin he.symm⟩
    · rw [hc] at h
      simp only [Bool.and_eq_true] at hc
      have e1 := Nat.eq_of_beq_eq_true hc.1.2
      have e2 := Nat.eq_of_beq_eq_true hc.2
      refine ⟨es, _, m', news, h, hh, fin ?_⟩
      rw [e1, e2, List.drop_zero, List.take_length, noOw_cpE hc.1.1.2]
  · exact h.elim
theorem run_append_room' {t u ty e e' : TypeId} {inf : TypeInfo} (ht : P.underlying t = some (.slice e)) (hu : P.underlying u = some (.slice e')) (hi : P.info? e = some inf) {b off sLen sCap m : Nat} {v : Value} {news : List Value} (hv : Hands P w inf.size v m news)
    {c : Array Value} {tc : TypeId} (hb : w.heap[b]? = some (.cells c tc (0, 0))) (hroom : sLen + m ≤ sCap) (hfit : off + sLen * inf.size + news.length ≤ c.size) (h1 : ∀ x ∈ news, x.oneCell' = true) :
    (Builtin.append_ #[t, u] ty #[.slice (some ⟨b, off, none⟩) sLen sCap, v]).run P w = .ok (.slice (some ⟨b, off, none⟩) (sLen + m) sCap)
      (w.setRow b (c.toList.take (off + sLen * inf.size) ++ news ++ c.toList.drop (off + sLen * inf.size + news.length)).toArray) := by
  obtain ⟨a, cap, rfl, hf⟩ := hv
  have hst := run_storeCells_at P b (off + sLen * inf.size) tc news 0 c w hb (by simpa using hfit) h1
  simp only [Nat.add_zero] at hst
  simp [Builtin.append_, run_underlying ht, run_underlying hu, sizeOf, typeInfo, hi, Builtin.lenOf, hroom, (hf w rfl).1, Addr.add_lit, hst]
theorem run_append_none' {t u ty e e' : TypeId} {inf : TypeInfo} (ht : P.underlying t = some (.slice e)) (hu : P.underlying u = some (.slice e')) (hi : P.info? e = some inf) {a : Option Addr} {v : Value} {news : List Value} (hv : Hands P w inf.size v 0 news) (hn : news = []) :
    (Builtin.append_ #[t, u] ty #[.slice a 0 0, v]).run P w = .ok (.slice a 0 0) w := by
  obtain ⟨a', cap, rfl, hf⟩ := hv
  subst hn
  cases a <;> simp [Builtin.append_, run_underlying ht, run_underlying hu, sizeOf, typeInfo, hi, Builtin.lenOf, (hf w rfl).1, storeCells]
theorem run_append_more' {t u ty e e' : TypeId} {inf : TypeInfo} (ht : P.underlying t = some (.slice e)) (hu : P.underlying u = some (.slice e')) (hi : P.info? e = some inf) {z : Value} (hz : inf.zero = some z) {base : Option Addr} {sLen sCap m : Nat} {v : Value} {olds news : List Value}
    (ho : ∀ w', w'.heap = w.heap → (Builtin.firstCells inf.size sLen (.slice base sLen sCap)).run P w' = .ok olds.toArray w') (hv : Hands P w inf.size v m news) (hg : sCap < sLen + m) (hlt : sLen + m < 2 ^ 30) (hbt : inf.bytes ≤ 65536) :
    (Builtin.append_ #[t, u] ty #[.slice base sLen sCap, v]).run P w = .ok (.slice (some ⟨w.heap.size, 0, none⟩) (sLen + m) (grownCap w (sLen + m) sCap e))
        (w.drew.alloc (.cells (olds.toArray ++ news.toArray ++ Builtin.zeroCells z.cells (grownCap w (sLen + m) sCap e - (sLen + m))) e)) := by
  obtain ⟨a', cap, rfl, hf⟩ := hv
  have hn : ¬ (sLen + m ≤ sCap) := by omega
  have h63' : ¬ (9223372036854775807 < ((sLen : Int) + (m : Int))) := by omega
  have hfit : Builtin.nextslicecap (sLen + m) sCap * inf.bytes ≤ 281474976710656 := growslice_fits hg (by
    have := Nat.mul_le_mul (show sLen + m ≤ 2 ^ 30 by omega) hbt
    omega)
  have h48' : ¬ (281474976710656 < Builtin.nextslicecap (sLen + m) sCap * inf.bytes) := by omega
  simp [Builtin.append_, run_underlying ht, run_underlying hu, sizeOf, typeInfo, zeroValue, hi, hz, Builtin.lenOf, hn, h63', h48', Question.forced, (hf w.drew rfl).1, ho w.drew rfl, newRow, grownCap]
  congr 2
  apply Array.ext'
  simp [List.append_assoc]
structure AppR (P : Program) (w : World) (t u ty e : TypeId) (inf : TypeInfo) (z v : Value) (m : Nat) (news : List Value) : Prop where
  room : ∀ {b off sLen sCap : Nat} {c : Array Value} {tc : TypeId}, w.heap[b]? = some (.cells c tc (0, 0)) → sLen + m ≤ sCap → off + sLen * inf.size + news.length ≤ c.size → (∀ x ∈ news, x.oneCell' = true) →
    (Builtin.append_ #[t, u] ty #[.slice (some ⟨b, off, none⟩) sLen sCap, v]).run P w = .ok (.slice (some ⟨b, off, none⟩) (sLen + m) sCap) (w.setRow b (c.toList.take (off + sLen * inf.size) ++ news ++ c.toList.drop (off + sLen * inf.size + news.length)).toArray)
  none : m = 0 → news = [] → ∀ a : Option Addr, (Builtin.append_ #[t, u] ty #[.slice a 0 0, v]).run P w = .ok (.slice a 0 0) w
  more : ∀ {base : Option Addr} {sLen sCap : Nat} {olds : List Value}, (∀ w', w'.heap = w.heap → (Builtin.firstCells inf.size sLen (.slice base sLen sCap)).run P w' = .ok olds.toArray w') → sCap < sLen + m → sLen + m < 2 ^ 30 →
    (Builtin.append_ #[t, u] ty #[.slice base sLen sCap, v]).run P w = .ok (.slice (some ⟨w.heap.size, 0, .none⟩) (sLen + m) (grownCap w (sLen + m) sCap e))
        (w.drew.alloc (.cells (olds.toArray ++ news.toArray ++ Builtin.zeroCells z.cells (grownCap w (sLen + m) sCap e - (sLen + m))) e))
theorem AppR.hands {t u ty e e' : TypeId} {inf : TypeInfo} (ht : P.underlying t = some (.slice e)) (hu : P.underlying u = some (.slice e')) (hi : P.info? e = some inf) {z : Value} (hz : inf.zero = some z) {m : Nat} {v : Value} {news : List Value} (hv : Hands P w inf.size v m news) (hbt : inf.bytes ≤ 65536) :
    AppR P w t u ty e inf z v m news :=
  ⟨fun hb hr hf h1 => run_append_room' ht hu hi hv hb hr hf h1, fun hm hn a => by subst hm; exact run_append_none' ht hu hi hv hn, fun ho hg hlt => run_append_more' ht hu hi hz ho hv hg hlt hbt⟩
theorem AppR.zeros {t u ty e : TypeId} {inf : TypeInfo} {kn : IntKind} (ht : P.underlying t = some (.slice e)) (hu : P.underlying u = some (.int kn)) (hi : P.info? e = some inf) {z : Value} (hz : inf.zero = some z) (h0 : 0 < inf.size) (hzs : z.cells.size = inf.size) {m : Nat} (hm : m < 2 ^ 30) (hbt : inf.bytes ≤ 65536) :
    AppR P w t u ty e inf z (.int .i64 (m : Int)) m (Builtin.zeroCells z.cells m).toList := by
  have hw : IntKind.i64.wrap (m : Int) = m := by rw [IntKind.wrap_i64]; omega
  have w0 : IntKind.i64.wrap 0 = 0 := by rw [IntKind.wrap_i64]; rfl
  have hneg : ¬ ((m : Int) < 0) := by omega
  have hmul := Nat.mul_le_mul (show m ≤ 2 ^ 30 by omega) hbt
  have h48 : ¬ (281474976710656 < (m : Int) * (inf.bytes : Int)) := by rw [← Int.natCast_mul]; omega
  have hz0 : m = 0 → Builtin.zeroCells z.cells m = #[] := fun e => by subst e; simp [Builtin.zeroCells]
  have hns : m * inf.size = 0 ↔ m = 0 := by
    constructor
    · intro h; rcases Nat.mul_eq_zero.1 h with h | h <;> omega
    · intro h; rw [h, Nat.zero_mul]
  refine ⟨fun {b off sLen sCap c tc} hb hr hf h1 => ?_, fun h hn a => ?_, fun {base sLen sCap olds} ho hg hlt => ?_⟩
  · have hst := run_storeCells_at P b (off + sLen * inf.size) tc (Builtin.zeroCells z.cells m).toList 0 c w hb (by simpa using hf) h1
    simp only [Nat.add_zero] at hst
    by_cases hm0 : m = 0
    · have := hz0 hm0
      rw [this] at hst ⊢
      subst hm0
      simp [Builtin.append_, run_underlying ht, run_underlying hu, sizeOf, typeInfo, asInt, asIntOf, hi, w0, Addr.add_lit, show sLen ≤ sCap from hr] at hst ⊢
      simp [hst]
    · simp [Builtin.append_, run_underlying ht, run_underlying hu, sizeOf, typeInfo, zeroValue, asInt, asIntOf, hi, hz, hr, hw, hneg, h48, hns, hm0, Addr.add_lit, hst]
  · subst h
    cases a <;> simp [Builtin.append_, run_underlying ht, run_underlying hu, sizeOf, typeInfo, asInt, asIntOf, hi, w0, storeCells]
  · have hn : ¬ (sLen + m ≤ sCap) := by omega
    have h63' : ¬ (9223372036854775807 < ((sLen : Int) + (m : Int))) := by omega
    have hfit : Builtin.nextslicecap (sLen + m) sCap * inf.bytes ≤ 281474976710656 := growslice_fits hg (by
      have := Nat.mul_le_mul (show sLen + m ≤ 2 ^ 30 by omega) hbt
      omega)
    have h48' : ¬ (281474976710656 < Builtin.nextslicecap (sLen + m) sCap * inf.bytes) := by omega
    by_cases hm0 : m = 0
    · rw [hz0 hm0]
      subst hm0
      have hn' : ¬ (sLen ≤ sCap) := by omega
      have h63'' : ¬ (9223372036854775807 < (sLen : Int)) := by omega
      simp only [Nat.add_zero] at h48'
      simp [Builtin.append_, run_underlying ht, run_underlying hu, sizeOf, typeInfo, zeroValue, asInt, asIntOf, hi, hz, hn', w0, h63'', h48', Question.forced, ho w.drew rfl, newRow, grownCap]
    · simp [Builtin.append_, run_underlying ht, run_underlying hu, sizeOf, typeInfo, zeroValue, asInt, asIntOf, hi, hz, hn, hw, hneg, h48, hns, hm0, h63', h48', Question.forced, ho w.drew rfl, newRow, grownCap]
end
end Go.Proofs.YtecnmodeggnjoaaGreat.Ac
