/- Several of our texts, one behind the other, without what this claim does not need: AcO, AcP, AcPm, AcQ, AcR, AcS, AcT, AcU, AcV, AcW, AcX, AcY, AcTab, AcLem, Wa. -/
import Derived.Test.YtfafehhallbjiaaZcfb2ab28
import Derived.Laws.BytesString
import Derived.Carry
import Derived.MapKept
import Derived.Test.YtfafehhallbjiaaProg
import Derived.KernelRfl
set_option linter.unusedVariables false
set_option linter.unusedSimpArgs false
namespace Go.Proofs.Ytfafehhallbjiaa.Ac
open Go.RowKit
section
variable {P : Program} {tb : Tab} {g : Hp} {φ : Phi} {w : World} {h : Array Obj} {H : Hp}
theorem put1_same {n : Nat} {ob : Ob} (hn : g n = some (some ob)) : put1 g n (some ob) = g := by
  funext q
  by_cases hq : q = n
  · subst hq; rw [put1_self, hn]
  · rw [put1_ne _ hq]
theorem retag_ok (ok : HeapOK h g φ) {n fl : Nat} {ob : Ob} (hf4 : ob.fl ≠ 4) (hf4' : fl ≠ 4) {ex : List (List A)} (hn : g n = some (some ob)) (hex : ∀ hd, φ (n, []) = some hd → ob.es.length + ex.length ≤ hd.cap ∧ (fl ≠ 0 → ob.es.length + ex.length = hd.cap)) (hw : ∀ e ∈ ex, e.length = ob.wd ∧ ∀ x ∈ e, x = .un none)
    (h0 : φ (n, []) = none → ex = []) : HeapOK h (put1 g n (some ⟨fl, ob.wd, ob.es ++ ex⟩)) φ ∧ Turn h g φ h (put1 g n (some ⟨fl, ob.wd, ob.es ++ ex⟩)) φ := by
  rcases ((ok.ob n _ hn).row hf4) with ⟨hes, hp⟩ | ⟨hd, c, ty, g1, g2, g3, g4, g5⟩
  · have := h0 hp
    subst this
    rw [hes, List.append_nil]
    have t : Turn h g φ h (put1 g n (some ⟨fl, ob.wd, []⟩)) φ := by
      refine ⟨rfl, fun b hb hO => ⟨hO, rfl⟩, fun m hm => ?_, fun m x hm => .inr ?_⟩
      · rw [put1_ne _ fun e => by rw [e, hn] at hm; cases hm]; exact hm
      · by_cases e : m = n
        · subst e
          rw [hn] at hm
          cases hm
          exact ⟨_, put1_self _ _, rfl, rfl, by rw [hes]; exact Nat.le_refl _⟩
        · exact ⟨x, (put1_ne _ e).trans hm, rfl, rfl, Nat.le_refl _⟩
    refine ⟨all_ob (fun m x hm => ?_) ok.lt ok.apart ok.old ok.inj, t⟩
    by_cases e : m = n
    · subst e; rw [put1_self] at hm; cases hm
      exact obRow (ok.ob m _ hn).1 hf4' (.inl ⟨rfl, hp⟩)
    · rw [put1_ne _ e] at hm
      exact (ok.ob m x hm).keep (fun _ _ r => r.turn t) (fun q => rfl) fun _ _ _ => rfl
  · obtain ⟨a1, a2⟩ := hex hd g1
    refine upd_ok (ob' := ⟨fl, ob.wd, ob.es ++ ex⟩) ok hf4' hn g1 (fun _ _ => rfl) g2 rfl (by simp) ⟨g3.wd0, fun e he => ?_, by simpa using a1, g3.cap, g3.size, g3.one⟩ (fun h => by simpa using a2 h) fun i e j x hi hj => ?_
    · rcases List.mem_append.1 he with he | he
      · exact g3.len e he
      · exact (hw e he).1
    · dsimp only at hi ⊢
      by_cases hlt : i < ob.es.length
      · rw [List.getElem?_append_left hlt] at hi
        exact g5 i e j x hi hj
      · rw [List.getElem?_append_right (by omega)] at hi
        obtain ⟨b1, b2⟩ := hw e (List.mem_of_getElem? hi)
        have := b2 x (List.mem_of_getElem? hj)
        subst this
        refine .e _ _ _ (.un none _ (g3.one _ ?_) (fun n h => by cases h))
        have h1 := (List.getElem?_eq_some_iff.1 hi).1
        have h2 := (List.getElem?_eq_some_iff.1 hj).1
        rw [b1] at h2
        have := idx_lt (i := i) (i' := hd.cap) (j := j) (wd := ob.wd) (by omega) h2
        rw [g3.size]; omega
theorem cap_does (hT : TabOK P tb) (ok : HeapOK w.heap g φ) {t : TypeId} {l : Lay} (hl : tb t = some l) {x : T} {u : Value} (hx : RepT w.heap g φ x u) (ty : TypeId) (cn : Array Bool) (rs : List Nat) :
    DoesO P w g φ (builtin .cap #[t] ty cn #[u]) rs (capO l x) := by
  have run : ∀ {el : TypeId} {z : A} {bt : Nat}, l = .w (.slice el) z bt → ∀ {a : Option Addr} {n cap : Nat}, u = .slice a n cap → (builtin .cap #[t] ty cn #[u]).run P w = .ok (.value (.int .i64 cap)) w := by
    rintro el z bt rfl a n cap rfl
    obtain ⟨hu, _⟩ := hT.w t _ z bt hl
    simp [builtin, Builtin.cap_, run_underlying hu, goInt]
  intro k h
  unfold capO at h
  split at h
  · rename_i el z bt wd es
    have r := rep_one hx
    cases r with
    | f _ _ r =>
    cases r with
    | nil => exact ⟨_, h _ (.inr rfl), Does.value ok (run rfl rfl) (tI_rep _ _)⟩
    | sl _ _ b off cap c ty fr hw he hb hO hlen hs hc hr => exact ⟨_, h _ (.inl hc), Does.value ok (run rfl rfl) (tI_rep _ _)⟩
  · have r := rep_one hx
    cases r with
    | nl a => exact ⟨_, h, Does.value ok (run rfl rfl) (tI_rep _ _)⟩
  · rename_i el z bt n lo hi
    obtain ⟨fl, wd, es, hn, hf4, hA⟩ := alive_elim h
    clear h
    have r := rep_one hx
    have r2 : RefRow g φ n lo hi u := by cases r; assumption
    have r3 := r2.2
    rw [hn] at r3
    obtain ⟨h1, h2, r3⟩ := r3
    dsimp only at h2 r3
    split at hA
    · rcases ((ok.ob n _ hn).row hf4) with ⟨hes, hp⟩ | ⟨hd, c, ty', g1, g2, g3, g4, g5⟩
      · rw [hp] at r3
        obtain ⟨a, rfl⟩ := r3
        dsimp only at hes
        subst hes
        refine ⟨_, hA, Does.value ok (u := .int .i64 (0 : Nat)) (run rfl rfl) ?_⟩
        rw [List.length_nil, Nat.zero_sub]; exact tI_rep _ _
      · rw [g1] at r3
        obtain ⟨a, rfl, _⟩ := r3
        have := g4 (show (1 : Nat) ≠ 0 by decide)
        dsimp only at this
        rw [this] at hA
        exact ⟨_, hA, Does.value ok (run rfl rfl) (tI_rep _ _)⟩
    · rcases ((ok.ob n _ hn).row hf4) with ⟨hes, hp⟩ | ⟨hd, c, ty', g1, g2, g3, g4, g5⟩
      · rw [hp] at r3
        obtain ⟨a, rfl⟩ := r3
        dsimp only at hes
        subst hes
        have hK := hA 0 (by simp [maxLen])
        obtain ⟨ok', t'⟩ := retag_ok (fl := 1) (ex := []) ok hf4 (by decide) hn (fun hd h => by rw [hp] at h; cases h) (fun e he => by cases he) fun _ => rfl
        rw [← putH_one] at ok' t'
        refine ⟨_, hK, Does.made (run rfl rfl) ok' t' ?_ rfl rfl rfl (Nat.le_refl _)⟩
        rw [List.length_nil, Nat.zero_add, Nat.zero_sub]; exact tI_rep _ _
      · rw [g1] at r3
        obtain ⟨a, rfl, _⟩ := r3
        have hle := g3.le
        have hcm := g3.cap
        dsimp only at hle
        have hK := hA (hd.cap - es.length) (by omega)
        obtain ⟨ok', t'⟩ := retag_ok (fl := 1) (ex := junk wd (hd.cap - es.length)) ok hf4 (by decide) hn (fun hd' h => by rw [g1] at h; cases h; simp [junk]; omega) (fun e he => by
          have := List.eq_of_mem_replicate he
          subst this
          exact ⟨by simp, fun x hx => List.eq_of_mem_replicate hx⟩) fun h => by rw [g1] at h; cases h
        rw [← putH_one] at ok' t'
        refine ⟨_, hK, Does.made (run rfl rfl) ok' t' ?_ rfl rfl rfl (Nat.le_refl _)⟩
        rw [show es.length + (hd.cap - es.length) - lo = hd.cap - lo by omega]; exact tI_rep _ _
    · exact hA.elim
  · exact h.elim
theorem write_slice (ok : HeapOK w.heap g φ) {n lo hi fl wd m : Nat} {es new : List (List A)} {news : List Value} (hn : g n = some (some ⟨fl, wd, es⟩)) (hf4 : fl ≠ 4) {u : Value} (r : RefRow g φ n lo hi u) (hs : Src w g φ wd new m news) (hm : lo + m ≤ hi) (hpos : 0 < m) :
    ∃ b off c ty cap, u = .slice (some ⟨b, off, none⟩) (hi - lo) cap ∧ w.heap[b]? = some (.cells c ty (0, 0)) ∧ off + news.length ≤ c.size ∧
      HeapOK (w.setRow b (c.toList.take off ++ news ++ c.toList.drop (off + news.length)).toArray).heap (put1 g n (some ⟨fl, wd, es.take lo ++ new ++ es.drop (lo + m)⟩)) φ ∧
      Turn w.heap g φ (w.setRow b (c.toList.take off ++ news ++ c.toList.drop (off + news.length)).toArray).heap (put1 g n (some ⟨fl, wd, es.take lo ++ new ++ es.drop (lo + m)⟩)) φ := by
  have r3 := r.2
  rw [hn] at r3
  obtain ⟨h1, h2, r3⟩ := r3
  dsimp only at h2 r3
  rcases ((ok.ob n _ hn).row hf4) with ⟨hes, hp⟩ | ⟨hd, c, ty', g1, g2, g3, g4, g5⟩
  · dsimp only at hes; subst hes; simp at h2; omega
  · rw [g1] at r3
    obtain ⟨a, rfl, ha⟩ := r3
    rw [ha (.inr (by omega))]
    dsimp only at g3 g4 g5
    have hfit : hd.off + lo * wd + news.length ≤ c.size := by
      rw [g3.size, hs.sz, Nat.add_assoc, ← Nat.add_mul]
      exact Nat.add_le_add_left (Nat.mul_le_mul_right _ (by have := g3.le; omega)) _
    have htl : (es.take lo).length = lo := by simp; omega
    have hl3 : (es.take lo ++ new ++ es.drop (lo + m)).length = es.length := by simp only [List.length_append, htl, hs.len, List.length_drop]; omega
    have hsg := seg_get es lo new (by rw [hs.len]; omega)
    rw [hs.len] at hsg
    refine ⟨_, _, c, ty', _, rfl, g2, hfit, write_ok ok hf4 hn g1 g2 g3 g4 g5 (es' := es.take lo ++ new ++ es.drop (lo + m)) hfit hs.one (fun e he => by
      simp only [List.mem_append] at he
      rcases he with (he | he) | he
      · exact g3.len e (List.mem_of_mem_take he)
      · exact hs.wd e he
      · exact g3.len e (List.mem_of_mem_drop he)) hl3 fun i e j x hi hj => ?_⟩
    rw [hsg] at hi
    split at hi
    · rename_i hii
      have h1 := (List.getElem?_eq_some_iff.1 hi).1
      have h2 := (List.getElem?_eq_some_iff.1 hj).1
      rw [hs.wd e (List.mem_of_getElem? hi)] at h2
      rw [hs.len] at h1
      have h3 : (i - lo) * wd + j < m * wd := idx_lt h1 h2
      have e4 : i * wd = lo * wd + (i - lo) * wd := by rw [← Nat.add_mul]; congr 1; omega
      refine .inl ⟨by omega, by rw [hs.sz]; omega, ?_⟩
      rw [show hd.off + i * wd + j - (hd.off + lo * wd) = (i - lo) * wd + j by omega]
      exact hs.rep _ e j x hi hj
    · rename_i hii
      have h2 := (List.getElem?_eq_some_iff.1 hj).1
      rw [g3.len e (List.mem_of_getElem? hi)] at h2
      refine .inr ⟨?_, e, hi, hj⟩
      rw [hs.sz]
      rintro ⟨a1, a2⟩
      rcases Nat.lt_or_ge i lo with hlt2 | hge2
      · have := idx_lt hlt2 h2; omega
      · have := Nat.mul_le_mul_right wd (show lo + m ≤ i by omega)
        rw [Nat.add_mul] at this; omega
theorem Src.take {size m k : Nat} {new : List (List A)} {news : List Value} (s : Src w g φ size new m news) (hk : k ≤ m) : Src w g φ size (new.take k) k (news.take (k * size)) := by
  refine ⟨by simp [s.len, hk], fun e he => s.wd e (List.mem_of_mem_take he), by rw [List.length_take, s.sz]; exact Nat.min_eq_left (Nat.mul_le_mul_right _ hk), fun x hx => s.one x (List.mem_of_mem_take hx), fun i e j x hi hj => ?_⟩
  rw [List.getElem?_take] at hi
  split at hi
  · rename_i hik
    have h2 := (List.getElem?_eq_some_iff.1 hj).1
    rw [s.wd e (List.mem_of_getElem? hi)] at h2
    have h3 : i * size + j < k * size := idx_lt hik h2
    have := s.rep i e j x hi hj
    rwa [List.getD_eq_getElem?_getD, List.getElem?_take, if_pos h3, ← List.getD_eq_getElem?_getD]
  · cases hi
theorem copy_does (hT : TabOK P tb) (ok : HeapOK w.heap g φ) {t el : TypeId} {z : A} {bt : Nat} {l : Lay} (ht : tb t = some (.w (.slice el) z bt)) (hl : tb el = some l) (hpos : 0 < l.size) {x y : T} {vx vy : Value} (hx : RepT w.heap g φ x vx) (hy : RepT w.heap g φ y vy) (ts : Array TypeId) (hts : ts[0]? = some t) (ty : TypeId) (cn : Array Bool) (rs : List Nat) :
    DoesO P w g φ (builtin .copy ts ty cn #[vx, vy]) rs (copyO l x y) := by
  obtain ⟨ht', _⟩ := hT.w t _ z bt ht
  obtain ⟨inf, hi, hsz, _⟩ := tab_size hT hl
  intro k h
  unfold copyO at h
  obtain ⟨new, rs', m, news, hA, ⟨a, cap, rfl, hf⟩, hs⟩ := src_elim (P := P) ok hpos hy h
  clear h
  rw [← hsz] at hf
  split at hA
  · rename_i n lo hi'
    obtain ⟨fl, wd, es, hn, hf4, hB⟩ := alive_elim hA
    clear hA
    obtain ⟨hb, hB⟩ := cond_K hB
    have e1 := Nat.eq_of_beq_eq_true hb
    subst e1
    obtain ⟨es', hes', h⟩ := hB
    rw [hs.len] at hes' h
    have r := rep_one hx
    have r2 : RefRow g φ n lo hi' vx := by cases r; assumption
    have r3 := r2.2
    rw [hn] at r3
    obtain ⟨h1, h2, r3⟩ := r3
    dsimp only at h2 r3
    have hk : min m (hi' - lo) ≤ m := Nat.min_le_left _ _
    have hfc := (hf w rfl).2 _ hk
    have htake : new.take (hi' - lo) = new.take (min m (hi' - lo)) := by
      rcases Nat.le_total m (hi' - lo) with h | h
      · rw [Nat.min_eq_left h, List.take_of_length_le (by rw [hs.len]; exact h), List.take_of_length_le (by rw [hs.len]; exact Nat.le_refl _)]
      · rw [Nat.min_eq_right h]
    rw [htake] at hes'
    rcases Nat.eq_zero_or_pos (min m (hi' - lo)) with h0 | h0
    · rw [h0] at hes' hfc h
      simp only [List.take_zero, List.append_nil, Nat.add_zero, List.take_append_drop, Nat.zero_mul] at hes' hfc
      subst hes'
      have hvx : ∃ a' cap', vx = .slice a' (hi' - lo) cap' := by
        cases hp : φ (n, []) with
        | none =>
          rw [hp] at r3
          obtain ⟨a', rfl⟩ := r3
          rcases ((ok.ob n _ hn).row hf4) with ⟨h3, _⟩ | ⟨hd', c, ty, g1, _⟩
          · simp only at h3; subst h3; simp at h2
            exact ⟨a', 0, by rw [h2, Nat.zero_sub]⟩
          · rw [hp] at g1; cases g1
        | some hd => rw [hp] at r3; obtain ⟨a', rfl, _⟩ := r3; exact ⟨_, _, rfl⟩
      obtain ⟨a', cap', rfl⟩ := hvx
      have h0' : Nat.min m (hi' - lo) = 0 := h0
      refine ⟨_, h, Does.made (u := .int .i64 (0 : Nat)) (φ' := φ) (w' := w) ?_ ?_ ?_ (tI_rep _ _) rfl rfl rfl (Nat.le_refl _)⟩
      · cases a' <;> simp [builtin, Builtin.copy_, hts, run_underlying ht', sizeOf, typeInfo, hi, Builtin.lenOf, h0', hfc, storeCells, goInt]
      · rw [putH_one, put1_same hn]; exact ok
      · rw [putH_one, put1_same hn]; exact Turn.refl _ _ _
    · obtain ⟨b, off, c, ty', cap', rfl, hbk, hfit, ok', t'⟩ := write_slice ok hn hf4 r2 (hs.take hk) (by have := Nat.min_le_right m (hi' - lo); omega) h0
      rw [hes', ← putH_one] at ok' t'
      have hone := (hs.take hk).one
      have hst := run_storeCells_at P b off ty' (news.take (min m (hi' - lo) * l.size)) 0 c w hbk (by simpa using hfit) hone
      simp only [Nat.add_zero] at hst
      rw [← hsz] at hst
      clear hes' htake
      generalize hkk : min m (hi' - lo) = kk at h hfc hst h0 hk ok' t' hfit hone ⊢
      have hkk' : Nat.min m (hi' - lo) = kk := hkk
      refine ⟨_, h, Does.made (u := .int .i64 (kk : Int)) ?_ ok' t' (tI_rep _ _) rfl rfl rfl (by simp [World.setRow])⟩
      rw [← hsz]
      simp [builtin, Builtin.copy_, hts, run_underlying ht', sizeOf, typeInfo, hi, Builtin.lenOf, hkk', hfc, hst, goInt]
  · have r := rep_one hx
    cases r with
    | nl a' =>
      have hfc := (hf w rfl).2 0 (Nat.zero_le _)
      simp only [Nat.zero_mul, List.take_zero] at hfc
      have h0' : Nat.min m 0 = 0 := Nat.min_zero m
      refine ⟨_, hA, Does.value ok (u := .int .i64 0) ?_ (tI_rep _ _)⟩
      cases a' <;> simp [builtin, Builtin.copy_, hts, run_underlying ht', sizeOf, typeInfo, hi, Builtin.lenOf, h0', hfc, storeCells, goInt]
  · exact hA.elim
end
end Go.Proofs.Ytfafehhallbjiaa.Ac
set_option linter.unusedVariables false
set_option linter.unusedSimpArgs false
namespace Go.Proofs.Ytfafehhallbjiaa.Ac
open Go.RowKit
section
variable {P : Program} {tb : Tab} {g : Hp} {φ : Phi} {w : World} {h : Array Obj} {H : Hp}
theorem src_zero {l : Lay} {zv : Value} {n : Nat} (hzs : zv.cells.size = l.size) (hzr : RepC w.heap g φ l.zero zv.cells.toList) : Src w g φ l.size (List.replicate n l.zero) n (Builtin.zeroCells zv.cells n).toList := by
  have hzl := hzr.length
  refine ⟨by simp, fun e he => ?_, by simp [size_zeroCells, hzs], fun x hx => ?_, fun i e j x hi hj => ?_⟩
  · rw [List.eq_of_mem_replicate he, ← hzl]; simpa using hzs
  · obtain ⟨q, hq, rfl⟩ := List.mem_iff_getElem.1 hx
    have hq' : q < (Builtin.zeroCells zv.cells n).size := by simpa using hq
    have := zero_one (k := q) hzr.one hq'
    simpa [hq'] using this
  · have hin : i < n := by have := (List.getElem?_eq_some_iff.1 hi).1; simpa using this
    rw [List.getElem?_replicate, if_pos hin] at hi
    cases hi
    have hjl := (List.getElem?_eq_some_iff.1 hj).1
    obtain ⟨u, hu, ru⟩ := hzr.at hj
    have e0 : (Builtin.zeroCells zv.cells n).toList.getD (i * l.size + j) undef = (Builtin.zeroCells zv.cells n).getD (i * l.size + j) undef := by simp [List.getD_eq_getElem?_getD]
    rw [e0, zero_get hzs hin (by rw [← hzl] at hjl; simpa [hzs] using hjl)]
    have : zv.cells.getD j undef = u := by simp [show zv.cells[j]? = some u by simpa using hu]
    rw [this]; exact ru
theorem row_len (ok : HeapOK h g φ) {n lo hi fl wd : Nat} {es : List (List A)} (hn : g n = some (some ⟨fl, wd, es⟩)) (hf4 : fl ≠ 4) {u : Value} (r : RefRow g φ n lo hi u) : lo ≤ hi ∧ hi ≤ es.length ∧ ∃ a cap, u = .slice a (hi - lo) cap := by
  have r3 := r.2
  rw [hn] at r3
  obtain ⟨h1, h2, r3⟩ := r3
  refine ⟨h1, h2, ?_⟩
  cases hp : φ (n, []) with
  | none =>
    rw [hp] at r3
    obtain ⟨a', rfl⟩ := r3
    rcases ((ok.ob n _ hn).row hf4) with ⟨h3, _⟩ | ⟨hd', c, ty, g1, _⟩
    · simp only at h3; subst h3; simp at h2
      exact ⟨a', 0, by rw [h2, Nat.zero_sub]⟩
    · rw [hp] at g1; cases g1
  | some hd => rw [hp] at r3; obtain ⟨a', rfl, _⟩ := r3; exact ⟨_, _, rfl⟩
theorem clear_does (hT : TabOK P tb) (ok : HeapOK w.heap g φ) {t el : TypeId} {z : A} {bt : Nat} {l : Lay} (ht : tb t = some (.w (.slice el) z bt)) (hl : tb el = some l) {x : T} {vx : Value} (hx : RepT w.heap g φ x vx) (ty : TypeId) (cn : Array Bool) (rs : List Nat) :
    DoesO P w g φ (builtin .clear #[t] ty cn #[vx]) rs (clearO l x) := by
  obtain ⟨ht', _⟩ := hT.w t _ z bt ht
  obtain ⟨inf, zv, hi, hsz, hbt, hz, hzs, hzr⟩ := tab_zero hT hl w.heap g φ
  intro k h
  unfold clearO at h
  split at h
  · rename_i n lo hi'
    obtain ⟨fl, wd, es, hn, hf4, hB⟩ := alive_elim h
    clear h
    obtain ⟨hb, hB⟩ := cond_K hB
    have e1 := Nat.eq_of_beq_eq_true hb
    subst e1
    obtain ⟨es', hes', h⟩ := hB
    have r := rep_one hx
    have r2 : RefRow g φ n lo hi' vx := by cases r; assumption
    obtain ⟨h1, h2, a, cap, rfl⟩ := row_len ok hn hf4 r2
    rcases Nat.eq_zero_or_pos (hi' - lo) with h0 | h0
    · have : hi' = lo := by omega
      subst this
      simp only [Nat.sub_self, List.replicate_zero, List.append_nil, List.take_append_drop] at hes'
      subst hes'
      rw [Nat.sub_self]
      refine ⟨_, h, Does.made (u := .tuple #[]) (φ' := φ) (w' := w) ?_ ?_ ?_ trivial rfl rfl rfl (Nat.le_refl _)⟩
      · cases a <;> simp [builtin, Builtin.clear_, run_underlying ht']
      · rw [putH_one, put1_same hn]; exact ok
      · rw [putH_one, put1_same hn]; exact Turn.refl _ _ _
    · obtain ⟨b, off, c, ty', cap', hu, hbk, hfit, ok', t'⟩ := write_slice ok hn hf4 r2 (src_zero (n := hi' - lo) hzs hzr) (by omega) h0
      cases hu
      rw [show lo + (hi' - lo) = hi' by omega, hes', ← putH_one] at ok' t'
      have hone := (src_zero (w := w) (n := hi' - lo) hzs hzr).one
      have hst := run_storeCells_at P b off ty' (Builtin.zeroCells zv.cells (hi' - lo)).toList 0 c w hbk (by simpa using hfit) hone
      simp only [Nat.add_zero] at hst
      generalize hkk : hi' - lo = kk at *
      obtain ⟨q, rfl⟩ : ∃ q, kk = q + 1 := ⟨kk - 1, by omega⟩
      refine ⟨_, h, Does.made (u := .tuple #[]) ?_ ok' t' trivial rfl rfl rfl (by simp [World.setRow])⟩
      simp [builtin, Builtin.clear_, run_underlying ht', zeroValue, typeInfo, hi, hz, hst]
  · have r := rep_one hx
    cases r with
    | nl a => exact ⟨_, h, Does.value ok (u := .tuple #[]) (by cases a <;> simp [builtin, Builtin.clear_, run_underlying ht']) trivial⟩
  · exact h.elim
theorem elc_elim {le : Option Lay} {wd : Nat} {o : Out} {rs : List Nat} {k : Eff → Prop} (h : (elc le wd o).K true g rs k) : ∃ l, le = some l ∧ l.size = wd ∧ o.K true g rs k := by
  unfold elc at h
  split at h
  · obtain ⟨h0, h⟩ := cond_K h
    exact ⟨_, rfl, Nat.eq_of_beq_eq_true h0, h⟩
  · exact h.elim
theorem elk_elim {le : Option Lay} {o : Out} {rs : List Nat} {k : Eff → Prop} (h : (elk le o).K true g rs k) : ∃ l, le = some l ∧ o.K true g rs k := by
  unfold elk at h
  split at h
  · exact ⟨_, rfl, h⟩
  · exact h.elim
theorem slice_does (hT : TabOK P tb) (ok : HeapOK w.heap g φ) {t : TypeId} {l : Lay} (hl : tb t = some l) {le : Option Lay} {x : T} {u : Value} (hx : RepT w.heap g φ x u) {lo hi mx : Option T} {ul uh um : Option Value} (hlo : ∀ x, lo = some x → ∃ u, ul = some u ∧ RepT w.heap g φ x u) (hlo0 : lo = none → ul = none)
    (hhi : ∀ x, hi = some x → ∃ u, uh = some u ∧ RepT w.heap g φ x u) (hhi0 : hi = none → uh = none) (hmx : ∀ x, mx = some x → ∃ u, um = some u ∧ RepT w.heap g φ x u) (hmx0 : mx = none → um = none) (rs : List Nat) (hel : ∀ el z bt, l = .w (.slice el) z bt → le = tb el) :
    DoesO P w g φ (do pure (.value (← Instr.sliceAt t u ul uh um))) rs (sliceO l le x lo hi mx) := by
  -- a slice of a slice
  have sl : ∀ {el : TypeId} {z : A} {bt : Nat}, l = .w (.slice el) z bt → ∀ {ll : Lay}, le = some ll → ∀ {ad : Option Addr} {len cap a b : Nat}, u = .slice ad len cap → um = none → bndP lo 0 a → bndP hi len b → a ≤ b → b ≤ cap →
      (do pure (.value (← Instr.sliceAt t u ul uh um)) : Sem Next).run P w = .ok (.value (.slice (if cap = a then ad else ad.map (·.add (a * ll.size))) (b - a) (cap - a))) w := by
    rintro el z bt rfl ll hle ad len cap a b rfl rfl ha hb hab hbc
    obtain ⟨hu, _⟩ := hT.w t _ z bt hl
    have hle' := (hel el z bt rfl).symm.trans hle
    obtain ⟨inf, hi', hs, _⟩ := tab_size hT hle'
    have := bounds_run (P := P) (w := w) (isS := true) (cap := cap) hlo hlo0 hhi hhi0 ha hb hab hbc
    simp [Instr.sliceAt, Instr.slice, run_underlying hu, this, sizeOf, typeInfo, hi', hs]
  have sl0 : ∀ {el : TypeId} {z : A} {bt : Nat}, l = .w (.slice el) z bt → ∀ {ll : Lay}, le = some ll → ∀ {ad : Option Addr} {len cap : Nat} {i1 i2 : IntKind}, u = .slice ad len cap → lo = none → hi = some (.val false [.f (.v (.int i1 0))]) → mx = some (.val false [.f (.v (.int i2 0))]) →
      ∃ a', (do pure (.value (← Instr.sliceAt t u ul uh um)) : Sem Next).run P w = .ok (.value (.slice a' 0 0)) w := by
    rintro el z bt rfl ll hle ad len cap i1 i2 rfl rfl rfl rfl
    obtain ⟨hu, _⟩ := hT.w t _ z bt hl
    have hle' := (hel el z bt rfl).symm.trans hle
    obtain ⟨inf, hi', hs, _⟩ := tab_size hT hle'
    obtain ⟨u1, rfl, r1⟩ := hhi _ rfl
    obtain ⟨u2, rfl, r2⟩ := hmx _ rfl
    cases v_rep r1
    cases v_rep r2
    rw [hlo0 rfl]
    refine ⟨ad, ?_⟩
    simp [Instr.sliceAt, Instr.slice, run_underlying hu, Instr.sliceBounds, Instr.sliceBound, asIntOf, sizeOf, typeInfo, hi']
  intro k h
  unfold sliceO at h
  split at h
  · have hm := hmx0 rfl
    split at h
    · rename_i z bt s
      obtain ⟨hu, _⟩ := hT.w t _ z bt hl
      obtain ⟨⟨a, b⟩, ⟨ha, hb, hab, hbs⟩, h⟩ := h
      cases v_rep hx
      have := bounds_run (P := P) (w := w) (isS := false) (cap := s.size) hlo hlo0 hhi hhi0 ha hb hab hbs
      dsimp only at this h
      subst hm
      exact ⟨_, h, Does.value ok (u := .string (s.extract a b)) (by simp [Instr.sliceAt, Instr.slice, run_underlying hu, this]) (tS_rep _)⟩
    · rename_i el z bt wd es
      obtain ⟨ll, hle, hwd, hA⟩ := elc_elim h
      clear h
      obtain ⟨⟨a, b, es'⟩, ⟨ha, hb, hab, hbs, hes'⟩, h⟩ := hA
      dsimp only at ha hb hab hbs hes' h
      have r := rep_one hx
      cases r with
      | f _ _ r =>
      cases r with
      | nil _ ad cap =>
        have hb0 : b = 0 := by simpa using hbs
        have ha0 : a = 0 := by omega
        subst hb0 ha0
        refine ⟨_, h, Does.value ok (sl rfl hle rfl hm ha hb (Nat.le_refl _) (Nat.zero_le _)) ⟨_, rfl, .f _ _ ?_⟩⟩
        have : es' = [] := by simpa using hes'.symm
        subst this
        exact .nil _ _ _
      | sl _ _ bb off cap c ty fr hw he hbk hO hlen hs hc hr =>
        refine ⟨_, h, Does.value ok (sl rfl hle rfl hm ha hb hab (Nat.le_trans hbs hc)) ⟨_, rfl, .f _ _ ?_⟩⟩
        have hl2 : es'.length = b - a := by rw [← hes']; simp; omega
        by_cases hlt : a = b
        · have : es' = [] := List.eq_nil_of_length_eq_zero (by omega)
          subst this
          rw [hlt, Nat.sub_self]
          exact .nil _ _ _
        · rw [if_neg (by omega), ← hl2]
          have ead : (some (⟨bb, off, none⟩ : Addr)).map (·.add (a * ll.size)) = some ⟨bb, off + a * wd, none⟩ := by rw [hwd, Option.map_some, Addr.add_lit]
          rw [ead]
          refine .sl wd es' bb (off + a * wd) (cap - a) c ty fr hw (fun e => by rw [e] at hl2; simp at hl2; omega) hbk hO (fun e he => ?_) ?_ (by omega) fun i e j x hi' hj => ?_
          · rw [← hes'] at he; exact hlen e (List.mem_of_mem_take (List.mem_of_mem_drop he))
          · rw [hl2, Nat.add_assoc, ← Nat.add_mul]
            have := Nat.mul_le_mul_right wd (show a + (b - a) ≤ es.length by omega)
            omega
          · rw [← hes', List.getElem?_drop, List.getElem?_take] at hi'
            split at hi'
            · have := hr _ e j x hi' hj
              rw [Nat.add_mul] at this
              rw [show off + a * wd + i * wd + j = off + (a * wd + i * wd) + j by omega]
              exact this
            · cases hi'
    · rename_i el z bt
      obtain ⟨ll, hle, ⟨ha, hb⟩, h⟩ := elk_elim h
      have r := rep_one hx
      cases r with
      | nl ad =>
        refine ⟨_, h, Does.value ok (sl rfl hle rfl hm ha hb (Nat.le_refl _) (Nat.le_refl _)) ⟨_, rfl, ?_⟩⟩
        exact .nl _
    · rename_i el z bt n p q
      obtain ⟨fl, wd, es, hn, hf4, hA⟩ := alive_elim h
      clear h
      obtain ⟨ll, hle, hwd, hB⟩ := elc_elim hA
      clear hA
      have r := rep_one hx
      have r2 : RefRow g φ n p q u := by cases r; assumption
      obtain ⟨h1, h2, ad0, cap0, hu0⟩ := row_len ok hn hf4 r2
      have r3 := r2.2
      rw [hn] at r3
      obtain ⟨_, _, r3⟩ := r3
      dsimp only at h2 r3
      have key : ∀ a b : Nat, bndP lo 0 a → bndP hi (q - p) b → a ≤ b → (p + b ≤ q ∨ fl = 1 ∧ (p = 0 ∨ p < q) ∧ p + b ≤ es.length) → Does P w g φ (do pure (.value (← Instr.sliceAt t u ul uh um))) ⟨.val false [.row n (p + a) (p + b)], n :: rs, []⟩ := by
        intro a b ha hb hab hbs
        have hbe : p + b ≤ es.length := by omega
        rcases ((ok.ob n _ hn).row hf4) with ⟨hes, hp⟩ | ⟨hd, c, ty', g1, g2, g3, g4, g5⟩
        · rw [hp] at r3
          obtain ⟨a', rfl⟩ := r3
          dsimp only at hes
          subst hes
          have e1 : p = 0 := by simp at hbe; omega
          have e2 : b = 0 := by simp at hbe; omega
          have e3 : a = 0 := by omega
          have e4 : q = 0 := by simp at h2; omega
          subst e1 e2 e3 e4
          refine Does.value ok (sl rfl hle rfl hm ha hb (Nat.le_refl _) (Nat.le_refl _)) ⟨_, rfl, .row _ _ _ _ (RefRow.mk' hn (Nat.le_refl _) (Nat.le_refl _) ?_)⟩
          rw [hp]; exact ⟨_, rfl⟩
        · rw [g1] at r3
          obtain ⟨a', rfl, ha'⟩ := r3
          dsimp only at g3 g4
          have hcap : p + b ≤ hd.cap := by have := g3.le; omega
          refine Does.value ok (sl rfl hle rfl hm ha hb hab (by omega)) ⟨_, rfl, .row _ _ _ _ (RefRow.mk' hn (by omega) hbe ?_)⟩
          rw [g1]
          refine ⟨_, by rw [show b - a = p + b - (p + a) by omega, show hd.cap - p - a = hd.cap - (p + a) by omega], fun hne => ?_⟩
          by_cases hca : hd.cap - p = a
          · rw [if_pos hca]
            have : p + a = 0 := by omega
            have hp0 : p = 0 := by omega
            have ha0 : a = 0 := by omega
            rw [ha' (.inl hp0), hp0, ha0]
          · rw [if_neg hca]
            by_cases hpq : p = 0 ∨ p < q
            · rw [ha' hpq, Option.map_some, Addr.add_lit, hwd, Nat.add_mul, Nat.add_assoc]
            · exfalso; omega
      cases hb : Nat.beq p 0
      · rw [hb] at hB
        obtain ⟨⟨a, b⟩, ⟨ha, hb, hab, hbs⟩, h⟩ := hB
        exact ⟨_, h, key a b ha hb hab (hbs.imp id fun h => ⟨h.1, .inr h.2.1, h.2.2⟩)⟩
      · rw [hb] at hB
        have := Nat.eq_of_beq_eq_true hb
        subst this
        obtain ⟨⟨a, b⟩, ⟨ha, hb, hab, hbs⟩, h⟩ := hB
        have := key a b ha hb hab (by rw [Nat.zero_add]; exact hbs.imp id fun h => ⟨h.1, .inl rfl, h.2⟩)
        simp only [Nat.zero_add] at this
        exact ⟨_, h, this⟩
    · exact h.elim
  · split at h
    · obtain ⟨ll, hle, hA⟩ := elk_elim h
      clear h
      obtain ⟨fl, wd, es, hn, hf4, h⟩ := alive_elim hA
      have r := rep_one hx
      have r2 := by cases r; assumption
      obtain ⟨_, _, ad, cap, hu⟩ := row_len ok hn hf4 r2
      obtain ⟨a', hrun⟩ := sl0 rfl hle hu rfl rfl rfl
      exact ⟨_, h, Does.value ok hrun ⟨_, rfl, .nl _⟩⟩
    · obtain ⟨ll, hle, h⟩ := elk_elim h
      have r := rep_one hx
      cases r with
      | f _ _ r =>
      cases r with
      | nil => obtain ⟨a', hrun⟩ := sl0 rfl hle rfl rfl rfl rfl; exact ⟨_, h, Does.value ok hrun ⟨_, rfl, .nl _⟩⟩
      | sl => obtain ⟨a', hrun⟩ := sl0 rfl hle rfl rfl rfl rfl; exact ⟨_, h, Does.value ok hrun ⟨_, rfl, .nl _⟩⟩
    · obtain ⟨ll, hle, h⟩ := elk_elim h
      have r := rep_one hx
      cases r with
      | nl ad => obtain ⟨a', hrun⟩ := sl0 rfl hle rfl rfl rfl rfl; exact ⟨_, h, Does.value ok hrun ⟨_, rfl, .nl _⟩⟩
    · exact h.elim
  · exact h.elim
end
end Go.Proofs.Ytfafehhallbjiaa.Ac
set_option linter.unusedVariables false
set_option linter.unusedSimpArgs false
namespace Go.Proofs.Ytfafehhallbjiaa.Ac
open Go.RowKit
section
variable {P : Program} {tb : Tab} {g : Hp} {φ : Phi} {w : World} {h : Array Obj} {H : Hp}
theorem mpR_inj : ∀ {l l' : List (Int × Value)}, mpR l = mpR l' → l = l'
  | [], [], _ => rfl
  | [], _ :: _, h => by cases h
  | _ :: _, [], h => by cases h
  | x :: l, y :: l', h => by
    simp only [mpR, List.map_cons, List.cons.injEq, A.f.injEq, L.v.injEq, Value.int.injEq, true_and, and_true] at h
    obtain ⟨⟨h1, h2⟩, h3⟩ := h
    rw [Prod.ext h1 h2, mpR_inj h3]
theorem findNow_get {i : IntKind} (k : Int) : ∀ (ms : List MapEntry) (l : List (Int × Value)) (n : Nat), ms.map (fun e => (e.key, e.val)) = l.map (fun x => (Value.int .i64 x.1, x.2)) →
    ∃ r, Instr.findNow (.int .i64) (.int .i64 k) ms n = some r ∧ r.map (·.2) = mget l k ∧ ∀ y, r = some y → n ≤ y.1 ∧ (ms[y.1 - n]?).map (·.key) = some (.int .i64 k) ∧ ∀ (v : Value) key', (key' = .int .i64 k) → ((ms.modify (y.1 - n) fun e => { e with key := key', val := v }).map fun e => (e.key, e.val)) = (mput l k v).map fun x => (Value.int .i64 x.1, x.2)
  | [], [], n, _ => ⟨none, rfl, rfl, fun y hy => by cases hy⟩
  | [], _ :: _, _, h => by cases h
  | _ :: _, [], _, h => by cases h
  | m :: ms, x :: l, n, h => by
    simp only [List.map_cons, List.cons.injEq, Prod.mk.injEq] at h
    obtain ⟨⟨h1, h2⟩, h3⟩ := h
    unfold Instr.findNow
    rw [h1]
    simp only [Instr.sameNow, if_true]
    by_cases hk : x.1 = k
    · have : (k == x.1) = true := by simp [hk]
      rw [this]
      refine ⟨_, rfl, ?_, fun y hy => ?_⟩
      · simp [mget, hk, h2]
      · cases hy
        refine ⟨Nat.le_refl _, by simp [h1, hk], fun v key' hkey => ?_⟩
        simp [mput, hk, hkey, h3]
    · have : (k == x.1) = false := by simp; exact fun e => hk e.symm
      rw [this]
      obtain ⟨r, g1, g2, g3⟩ := findNow_get (i := i) k ms l (n + 1) h3
      refine ⟨r, g1, ?_, fun y hy => ?_⟩
      · simp [mget, hk, g2]
      · obtain ⟨a1, a2', a2⟩ := g3 y hy
        rw [show y.1 - n = (y.1 - (n + 1)) + 1 by omega]
        refine ⟨by omega, by simpa using a2', fun v key' hkey => ?_⟩
        simp only [List.modify_succ_cons, List.map_cons, mput, hk, if_false]
        rw [a2 v key' hkey, h1, h2]
theorem mput_none {k : Int} {v : Value} : ∀ {l : List (Int × Value)}, mget l k = none → mput l k v = l ++ [(k, v)]
  | [], _ => rfl
  | x :: l, h => by
    simp only [mget] at h
    by_cases hk : x.1 = k
    · simp [hk] at h
    · simp only [hk, if_false] at h
      simp [mput, hk, mput_none h]
theorem mput_one {k : Int} {v : Value} (hv : v.oneCell' = true) : ∀ {l : List (Int × Value)}, (∀ x ∈ l, x.2.oneCell' = true) → ∀ x ∈ mput l k v, x.2.oneCell' = true
  | [], _, x, hx => by simp [mput] at hx; rw [hx]; exact hv
  | y :: l, h, x, hx => by
    simp only [mput] at hx
    split at hx
    · rcases List.mem_cons.1 hx with rfl | hx
      · exact hv
      · exact h x (List.mem_cons_of_mem _ hx)
    · rcases List.mem_cons.1 hx with rfl | hx
      · exact h _ List.mem_cons_self
      · exact mput_one hv (fun z hz => h z (List.mem_cons_of_mem _ hz)) x hx
theorem mput_len {k : Int} {v : Value} : ∀ (l : List (Int × Value)), l.length ≤ (mput l k v).length
  | [] => Nat.zero_le _
  | x :: l => by
    simp only [mput]
    split
    · exact Nat.le_refl _
    · simpa using mput_len l
theorem mget_one {k : Int} {v : Value} : ∀ {l : List (Int × Value)}, (∀ x ∈ l, x.2.oneCell' = true) → mget l k = some v → v.oneCell' = true
  | [], _, h => by cases h
  | x :: l, hl, h => by
    simp only [mget] at h
    split at h
    · cases h; exact hl x List.mem_cons_self
    · exact mget_one (fun z hz => hl z (List.mem_cons_of_mem _ hz)) h
theorem makeMap_does (ok : HeapOK w.heap g φ) {d : Nat} {t : TypeId} (rs : List Nat) : DoesO P w g φ (do pure (.value (← Instr.makeMap t none))) rs (newO d ⟨4, 2, []⟩ fun m => .val false [.mp m]) := by
  intro k h
  unfold newO at h
  dsimp only [Out.K] at h
  split at h
  · rename_i hn
    obtain ⟨ok', t'⟩ := newG_ok (o := .map #[] 0) (cap := 0) ok hn (ob := ⟨4, 2, []⟩) fun t => ⟨(by decide : 0 < 2), fun h => absurd rfl h, fun _ => ⟨_, #[], 0, [], by rw [set_self]; rfl, by simp, rfl, rfl, fun x hx => by cases hx⟩⟩
    refine ⟨_, h, Does.made (w' := w.alloc (.map #[] 0)) (u := .map (some w.heap.size)) (φ' := φ.set (16 * (d + 1)) fun q => if q = [] then some ⟨w.heap.size, 0, 0⟩ else none) (by simp [Instr.makeMap]) ?_ ?_ ?_ rfl rfl rfl (by simp)⟩
    · rw [putH_one]; exact ok'
    · rw [putH_one]; exact t'
    · rw [putH_one]
      refine ⟨_, rfl, .mp _ _ ⟨rfl, ?_⟩⟩
      rw [put1_self]
      exact ⟨_, by rw [set_self]; rfl, rfl⟩
  · exact h.elim
theorem run_find (hT : TabOK P tb) {kt : TypeId} {zk : A} {bk : Nat} (hk : tb kt = some (.w (.int .i64) zk bk)) (k : Int) {ms : List MapEntry} {r : Option (Nat × Value)} (hf : Instr.findNow (.int .i64) (.int .i64 k) ms 0 = some r) : (Instr.findKey kt (.int .i64 k) ms).run P w = .ok r w := by
  obtain ⟨hu, _⟩ := hT.w kt _ _ _ hk
  unfold Instr.findKey
  simp [run_underlying hu, hf, Result.andThen]
theorem look_does (hT : TabOK P tb) (ok : HeapOK w.heap g φ) {t kt et : TypeId} {zm : A} {bm : Nat} {lk le : Lay} (ht : tb t = some (.w (.map kt et) zm bm)) (hk : tb kt = some lk) (he : tb et = some le)
    {x i : T} {u v : Value} (hx : RepT w.heap g φ x u) (hi : RepT w.heap g φ i v) (rs : List Nat) : DoesO P w g φ (do pure (.value (← Instr.lookup t u v false))) rs (lookO lk le x i) := by
  intro q h
  unfold lookO at h
  split at h
  · rename_i zk bk de z be n k
    obtain ⟨wd, es, hn, h⟩ := map_elim h
    obtain ⟨⟨l, vv⟩, ⟨hes, hvv⟩, h⟩ := h
    dsimp only at hes hvv h
    subst hes hvv
    obtain ⟨hd, ms, ck, l', hp, rfl, hb, hl, hm, h1⟩ := ref_map ok hn (rep_one hx)
    obtain rfl := mpR_inj hl
    have := v_rep hi
    subst this
    obtain ⟨hut, _⟩ := hT.w t _ _ _ ht
    obtain ⟨huk, _⟩ := hT.w kt _ _ _ hk
    obtain ⟨hue, _, inf, zv, he1, he2, he3, he4, he5, _⟩ := hT.w et _ _ _ he
    have hz : zv = z := by
      unfold constA at he5
      split at he5 <;> cases he5
      rfl
    subst hz
    obtain ⟨r, g1, g2, _⟩ := findNow_get (i := .i64) k ms.toList l 0 hm
    have hck : (Instr.checkKey ms.isEmpty 10000 kt (.int .i64 k)).run P w = .ok () w := MapKept.run_checkKey huk (by simp [MapKept.IsKey]) _ _
    refine ⟨_, h, Does.value ok (u := (mget l k).getD zv) ?_ ⟨_, rfl, .f _ _ (.v _ ?_)⟩⟩
    · have hf := run_find (w := w) hT hk k g1
      simp only [Instr.lookup, Sem.run_bind, run_underlying hut, MapKept.run_getObj_map hb, Sem.run_pure, Result.andThen_ok, hck, hf]
      cases r with
      | none => rw [← g2]; simp [zeroValue, typeInfo, he1, he3]
      | some y => rw [← g2]; simp
    · cases hg : mget l k with
      | none => exact he4
      | some v => exact mget_one h1 hg
  · exact h.elim
theorem mupd_does (hT : TabOK P tb) (ok : HeapOK w.heap g φ) {t kt et : TypeId} {zm : A} {bm : Nat} {lk : Lay} (ht : tb t = some (.w (.map kt et) zm bm)) (hk : tb kt = some lk)
    {x i y : T} {u v vy : Value} (hx : RepT w.heap g φ x u) (hi : RepT w.heap g φ i v) (hy : RepT w.heap g φ y vy) (rs : List Nat) : DoesO P w g φ (do Instr.mapUpdate t u v vy; pure .skip) rs (mupdO lk x i y) := by
  intro q h
  unfold mupdO at h
  split at h
  · rename_i zk bk n k y0
    obtain ⟨wd, es, hn, h⟩ := map_elim h
    obtain ⟨l, rfl, h⟩ := h
    obtain ⟨hd, ms, ck, l', hp, rfl, hb, hl, hm, h1⟩ := ref_map ok hn (rep_one hx)
    obtain rfl := mpR_inj hl
    have := v_rep hi
    subst this
    have hvy := v_rep hy
    subst hvy
    have hy1 : vy.oneCell' = true := (rep_one hy).one
    obtain ⟨hut, _⟩ := hT.w t _ _ _ ht
    obtain ⟨huk, _⟩ := hT.w kt _ _ _ hk
    obtain ⟨r, g1, g2, g3⟩ := findNow_get (i := .i64) k ms.toList l 0 hm
    have hck : (Instr.checkKey false 10000 kt (.int .i64 k)).run P w = .ok () w := MapKept.run_checkKey huk (by simp [MapKept.IsKey]) _ _
    have hf := run_find (w := w) hT hk k g1
    have fin : ∀ (ms' : Array MapEntry) (ck' : Nat), ms'.toList.map (fun e => (e.key, e.val)) = (mput l k vy).map (fun x => (Value.int .i64 x.1, x.2)) →
        (Instr.mapUpdate t (.map (some hd.b)) (.int .i64 k) vy).run P w = .ok () { w with heap := w.heap.setIfInBounds hd.b (.map ms' ck') } → ∃ ε, q ε ∧ Does P w g φ (do Instr.mapUpdate t (.map (some hd.b)) (.int .i64 k) vy; pure .skip) ε := by
      intro ms' ck' hm' hrun
      have hlt : hd.b < w.heap.size := lt_of_get hb
      obtain ⟨ok', t'⟩ := updG_ok (h' := w.heap.setIfInBounds hd.b (.map ms' ck')) (ob' := ⟨4, wd, mpR (mput l k vy)⟩) ok hn hp (fun m hm => Array.getElem?_setIfInBounds_ne (Ne.symm hm)) (o := .map ms' ck') (by simp [hlt]) rfl (by simpa [mpR] using mput_len l)
        fun t other => ⟨(ok.ob n _ hn).1, fun h => absurd rfl h, fun _ => ⟨hd, ms', ck', mput l k vy, hp, by simp [hlt], rfl, hm', mput_one hy1 h1⟩⟩
      refine ⟨_, h, Does.skip (φ' := φ) (w' := { w with heap := w.heap.setIfInBounds hd.b (.map ms' ck') }) (by simp [hrun]) ?_ ?_ rfl rfl rfl (by simp)⟩
      · rw [putH_one]; exact ok'
      · rw [putH_one]; exact t'
    cases r with
    | none =>
      refine fin (ms.push ⟨.int .i64 k, vy, ck⟩) (ck + 1) ?_ ?_
      · rw [mput_none g2.symm]; simp [hm]
      · simp only [Instr.mapUpdate, Sem.run_bind, run_underlying hut, MapKept.run_getObj_map hb, Result.andThen_ok, hck, hf, MapKept.run_setObj_map _ hb]
    | some y =>
      obtain ⟨_, g5, g4⟩ := g3 y rfl
      have hkey : (Instr.keyThatStays (((ms[y.1]?).map (·.key)).getD (.int .i64 k)) (.int .i64 k)).run P w = .ok (.int .i64 k) w := by
        have : (ms[y.1]?).map (·.key) = some (.int .i64 k) := by simpa using g5
        rw [this]
        simp [Instr.keyThatStays, Instr.sameBits]
      refine fin (ms.modify y.1 fun e => { e with key := .int .i64 k, val := vy }) ck ?_ ?_
      · have := g4 vy _ rfl
        simpa using this
      · simp only [Instr.mapUpdate, Sem.run_bind, run_underlying hut, MapKept.run_getObj_map hb, Result.andThen_ok, hck, hf, MapKept.run_setObj_map _ hb, hkey]
  · exact h.elim
end
end Go.Proofs.Ytfafehhallbjiaa.Ac
set_option linter.unusedVariables false
set_option linter.unusedSimpArgs false
namespace Go.Proofs.Ytfafehhallbjiaa.Ac
open Go.RowKit
section
variable {P : Program} {tb : Tab} {w₀ : World} {H₀ : Hp} {φ₀ : Phi} {N : Nat} {e : Env} {g : Hp} {φ : Phi} {a : Act} {w : World}
theorem fold_push : ∀ (l : List UInt8) (r : ByteArray), ((l.map fun b => (b.toNat : Int)).foldl (fun r n => r.push (UInt8.ofNat n.toNat)) r).data.toList = r.data.toList ++ l
  | [], r => by simp
  | b :: l, r => by
    rw [List.map_cons, List.foldl_cons, fold_push l]
    simp [ByteArray.push]
theorem bytes_does (hT : TabOK P tb) (ok : HeapOK w.heap g φ) {s t el : TypeId} {z z' : A} {bt bt' : Nat} (hs : tb s = some (.w (.slice el) z bt)) (ht : tb t = some (.w .string z' bt')) {x : T} {u : Value} (hx : RepT w.heap g φ x u) (rs : List Nat) :
    DoesO P w g φ (do pure (.value (← convert s t u))) rs (bytesO (tb el) x) := by
  obtain ⟨hu, _⟩ := hT.w s _ z bt hs
  obtain ⟨hv, _⟩ := hT.w t _ z' bt' ht
  intro k h
  unfold bytesO at h
  split at h
  · rename_i z1 b1 hel
    obtain ⟨he, _⟩ := hT.w el _ z1 b1 hel
    split at h
    · rename_i n lo hi
      obtain ⟨fl, wd, es, hn, hf4, hA⟩ := alive_elim h
      clear h
      obtain ⟨h0, hA⟩ := cond_K hA
      have := Nat.eq_of_beq_eq_true h0
      subst this
      obtain ⟨str, hstr, h⟩ := hA
      obtain ⟨m, news, ⟨ad, cap, rfl, hf⟩, hm, h1, h2, _, _, h5, _, h7⟩ := src_row (P := P) ok hn hf4 (rep_one hx)
      refine ⟨_, h, Does.value ok (u := .string str) ?_ (tS_rep _)⟩
      have hnews : news = (str.data.toList.map fun b => (b.toNat : Int)).map (Value.int .u8) := by
        rw [hstr] at hm h7
        rw [List.length_map] at hm
        apply List.ext_getElem?
        intro q
        by_cases hq : q < news.length
        · have hq2 : q < str.data.toList.length := by omega
          have := h7 q (byteL (str.data.toList[q])) 0 _ (by rw [List.getElem?_map, List.getElem?_eq_getElem hq2]; rfl) rfl
          simp only [Nat.mul_one, Nat.add_zero, cpA] at this
          have := v_rep (v := news.getD q undef) ⟨_, rfl, this⟩
          rw [List.getElem?_eq_getElem hq, List.map_map, List.getElem?_map, List.getElem?_eq_getElem hq2]
          rw [List.getD_eq_getElem?_getD, List.getElem?_eq_getElem hq] at this
          simpa using this
        · rw [List.getElem?_eq_none (by omega), List.getElem?_eq_none (by simp at hm ⊢; omega)]
      cases ad with
      | none =>
        have : m = 0 := by
          have h3 := (hf w rfl).1
          simp only [Builtin.firstCells] at h3
          have h4 : (#[] : Array Value) = news.toArray := by simpa using h3
          have : news = [] := by simpa using h4.symm
          rw [this] at h5; simp at h5; omega
        subst this
        have hn0 : news = [] := List.eq_nil_of_length_eq_zero (by omega)
        rw [hn0] at hnews
        have h9 : str.data.toList = [] := by simpa using hnews.symm
        have : str = .empty := by
          apply ByteArray.ext
          have := congrArg List.toArray h9
          simpa using this
        subst this
        simp [convert, run_underlying hu, run_underlying hv, run_underlying he, Conv.bytesToString]
      | some ad =>
        have h3 := (hf w rfl).1
        simp only [Builtin.firstCells, Nat.mul_one] at h3
        rw [hnews] at h3
        have h4 := run_bytesToString (P := P) w ad m cap _ h3
        have h5 : (str.data.toList.map fun b => (b.toNat : Int)).foldl (fun r n => r.push (UInt8.ofNat n.toNat)) ByteArray.empty = str := by
          apply ByteArray.ext
          have := fold_push str.data.toList ByteArray.empty
          apply Array.ext'
          rw [this]; rfl
        rw [h5] at h4
        simp [convert, run_underlying hu, run_underlying hv, run_underlying he, h4]
    · have r := rep_one hx
      cases r with
      | nl ad =>
        refine ⟨_, h, Does.value ok (u := .string .empty) ?_ (tS_rep _)⟩
        cases ad with
        | none => simp [convert, run_underlying hu, run_underlying hv, run_underlying he, Conv.bytesToString]
        | some ad =>
          have h4 := run_bytesToString (P := P) w ad 0 0 [] (by
            have := run_loadCells_list (P := P) w ad [] (by simp)
            simpa using this)
          simp [convert, run_underlying hu, run_underlying hv, run_underlying he, h4]
    · exact h.elim
  · exact h.elim
theorem map_one {α β : Type} {f : α → β} {l : List α} {y : β} (h : l.map f = [y]) : ∃ x, l = [x] ∧ y = f x := by
  cases l with
  | nil => cases h
  | cons x l =>
    cases l with
    | nil => cases h; exact ⟨x, rfl, rfl⟩
    | cons z l => cases h
theorem map_two {α β : Type} {f : α → β} {l : List α} {y z : β} (h : l.map f = [y, z]) : ∃ x x', l = [x, x'] ∧ y = f x ∧ z = f x' := by
  cases l with
  | nil => cases h
  | cons x l =>
    simp only [List.map_cons, List.cons.injEq] at h
    obtain ⟨x', rfl, hz⟩ := map_one h.2
    exact ⟨x, x', rfl, h.1.symm, hz⟩
theorem arr_of {α : Type} {a : Array α} {l : List α} (h : a.toList = l) : a = l.toArray := by rw [← h]
theorem bilt_does (hT : TabOK P tb) (s : Sim w₀ H₀ φ₀ N e g φ a w) {c : Call} {b : Builtin} (hb : c.callee = .builtin b) {ty : TypeId} {d : Nat} (hc : c.operands.all operOK = true) (rs : List Nat) :
    DoesO P w g φ (do let d ← resolve a.eval c ty; invoke d.target d.args) rs (biltO tb b c.argTypes.toList (c.args.toList.map (evT e)) d) := by
  obtain ⟨cal, args, argTypes⟩ := c
  dsimp only at hb ⊢
  subst hb
  intro k h
  have hop : ∀ x ∈ args.toList, operOK x = true := fun x hx => by
    simp only [Call.operands] at hc
    exact Array.all_eq_true_iff_forall_mem.1 hc x (by simpa using hx)
  generalize hts : argTypes.toList = ts at h
  generalize hxs : args.toList.map (evT e) = xs at h
  have hta := arr_of hts
  have e1 : ∀ b, (do let d ← resolve a.eval { callee := .builtin b, args := args, argTypes := argTypes } ty; invoke d.target d.args : Sem Next) = builtin b argTypes ty (args.map fun | .const _ => true | _ => false) (args.map a.eval) := fun b => rfl
  rw [e1]
  have m1 : ∀ x0, ([x0].toArray.map a.eval) = #[a.eval x0] := fun x0 => by simp
  have m2 : ∀ x0 x1, ([x0, x1].toArray.map a.eval) = #[a.eval x0, a.eval x1] := fun x0 x1 => by simp
  unfold biltO at h
  split at h
  · obtain ⟨x0, hx0, rfl⟩ := map_one hxs
    have ha := arr_of hx0
    subst ha hta
    split at h
    · rename_i l hl
      rw [m1]; exact len_does hT s.ok hl (ev_ok s (hop x0 (by simp))) ty _ rs k h
    · exact h.elim
  · obtain ⟨x0, hx0, rfl⟩ := map_one hxs
    have ha := arr_of hx0
    subst ha hta
    split at h
    · rename_i l hl
      rw [m1]; exact cap_does hT s.ok hl (ev_ok s (hop x0 (by simp))) ty _ rs k h
    · exact h.elim
  · obtain ⟨x0, x1, hx0, rfl, rfl⟩ := map_two hxs
    have ha := arr_of hx0
    subst ha hta
    split at h
    · rename_i hl1 hl2
      split at h
      · rename_i l hl
        rw [m2]; exact append_does hT s.ok hl1 hl2 hl (ev_ok s (hop x0 (by simp))) (ev_ok s (hop x1 (by simp))) ty _ rs k h
      · exact h.elim
    · exact h.elim
  · obtain ⟨x0, x1, hx0, rfl, rfl⟩ := map_two hxs
    have ha := arr_of hx0
    subst ha hta
    split at h
    · rename_i hl1
      split at h
      · rename_i l hl
        obtain ⟨hpos, h⟩ := cond_K h
        rw [m2]; exact copy_does hT s.ok hl1 hl (by simpa [Nat.blt, Nat.lt_iff_add_one_le] using hpos) (ev_ok s (hop x0 (by simp))) (ev_ok s (hop x1 (by simp))) _ (by simp) ty _ rs k h
      · exact h.elim
    · exact h.elim
  · obtain ⟨x0, hx0, rfl⟩ := map_one hxs
    have ha := arr_of hx0
    subst ha hta
    split at h
    · rename_i hl1
      split at h
      · rename_i l hl
        rw [m1]; exact clear_does hT s.ok hl1 hl (ev_ok s (hop x0 (by simp))) ty _ rs k h
      · exact h.elim
    · exact h.elim
  · obtain ⟨x0, x1, hx0, rfl, rfl⟩ := map_two hxs
    have ha := arr_of hx0
    subst ha
    rw [m2]; exact mm_does (mx := true) s.ok (ev_ok s (hop x0 (by simp))) (ev_ok s (hop x1 (by simp))) rs k h
  · obtain ⟨x0, x1, hx0, rfl, rfl⟩ := map_two hxs
    have ha := arr_of hx0
    subst ha
    rw [m2]; exact mm_does (mx := false) s.ok (ev_ok s (hop x0 (by simp))) (ev_ok s (hop x1 (by simp))) rs k h
  · exact h.elim
theorem opt_ev (s : Sim w₀ H₀ φ₀ N e g φ a w) {o : Option Operand} (hop : ∀ x, o = some x → operOK x = true) : (∀ x, o.map (evT e) = some x → ∃ u, o.map a.eval = some u ∧ RepT w.heap g φ x u) ∧ (o.map (evT e) = none → o.map a.eval = none) := by
  cases o with
  | none => exact ⟨fun x h => (by cases h), fun _ => rfl⟩
  | some y => exact ⟨fun x h => by cases h; exact ⟨_, rfl, ev_ok s (hop y rfl)⟩, fun h => by cases h⟩
theorem parts_ev (s : Sim w₀ H₀ φ₀ N e g φ a w) {ps : List (Nat × Operand)} (hop : ∀ p ∈ ps, operOK p.2 = true) : (ps.map fun p => (p.1, evT e p.2)).map (·.1) = (ps.map fun p => (p.1, a.eval p.2)).map (·.1) ∧
    ∀ (i : Nat) (x : Nat × T) (y : Nat × Value), (ps.map fun p => (p.1, evT e p.2))[i]? = some x → (ps.map fun p => (p.1, a.eval p.2))[i]? = some y → RepT w.heap g φ x.2 y.2 := by
  refine ⟨by simp, fun i x y h1 h2 => ?_⟩
  rw [List.getElem?_map] at h1 h2
  cases hp : ps[i]? with
  | none => rw [hp] at h1; cases h1
  | some p =>
    rw [hp] at h1 h2
    cases h1; cases h2
    exact ev_ok s (hop p (List.mem_of_getElem? hp))
theorem biN_does (hT : TabOK P tb) (ok : HeapOK w.heap g φ) {op : BinOp} {t : TypeId} {ox oy : Operand} {x y : T} {u v : Value} (hx : RepT w.heap g φ x u) (hy : RepT w.heap g φ y v) (rs : List Nat) :
    DoesO P w g φ (do pure (.value (← (do eqGuard op t ox oy u v; binOp op t u v)))) rs (biN op x y) := by
  intro k h
  unfold biN at h
  split at h
  · exact bi_does hT ok hx hy (fun p q hp hq => by rw [v_rep hx] at hp; cases hp) rs k h
  · exact bi_does hT ok hx hy (fun p q hp hq => by rw [v_rep hx] at hp; cases hp) rs k h
  · exact h.elim
theorem opO_does (hT : TabOK P tb) (s : Sim w₀ H₀ φ₀ N e g φ a w) {o : Oper} {d : Nat} (hc : o.op.operands.all operOK = true) (rs : List Nat) : DoesO P w g φ (execOp a.eval o) rs (opO tb o.op d (evT e)) := by
  have op : ∀ x ∈ o.op.operands, operOK x = true := fun x hx => Array.all_eq_true_iff_forall_mem.1 hc x hx
  intro k h
  unfold execOp
  generalize hop : o.op = q at h hc op ⊢
  cases q <;> first | exact h.elim | skip
  case move x => exact move_does s.ok (ev_ok s (op x (by simp [Op.operands]))) rs k h
  case assign x => exact move_does s.ok (ev_ok s (op x (by simp [Op.operands]))) rs k h
  case pick c x y => exact pick_does s.ok (ev_ok s (op c (by simp [Op.operands]))) (ev_ok s (op x (by simp [Op.operands]))) (ev_ok s (op y (by simp [Op.operands]))) rs k h
  case alloc t =>
    simp only [opO] at h
    split at h
    · rename_i heq; exact alloc_does hT s.ok heq rs k h
    · exact h.elim
  case box t x =>
    simp only [opO] at h
    split at h
    · rename_i heq; exact box_does hT s.ok heq (ev_ok s (op x (by simp [Op.operands]))) rs k h
    · exact h.elim
  case build t ps =>
    simp only [opO] at h
    split at h
    · rename_i heq
      obtain ⟨h1, h2⟩ := parts_ev s (ps := ps.toList) fun p hp => op p.2 (show p.2 ∈ (ps.toList.map (·.2)).toArray from List.mem_toArray.2 (List.mem_map.2 ⟨p, hp, rfl⟩))
      have := struct_does hT s.ok heq h1 h2 rs k h
      have e1 : (ps.toList.map fun p => (p.1, a.eval p.2)).toArray = ps.map fun p => (p.1, a.eval p.2) := by rw [← Array.toList_map]
      rw [e1] at this
      exact this
    · exact h.elim
  case buildSlice t n ps =>
    simp only [opO] at h
    split at h
    · rename_i heq
      split at h
      · rename_i hl
        obtain ⟨h1, h2⟩ := parts_ev s (ps := ps.toList) fun p hp => op p.2 (show p.2 ∈ (ps.toList.map (·.2)).toArray from List.mem_toArray.2 (List.mem_map.2 ⟨p, hp, rfl⟩))
        have := rows_does hT s.ok heq hl h1 h2 rs k h
        have e1 : (ps.toList.map fun p => (p.1, a.eval p.2)).toArray = ps.map fun p => (p.1, a.eval p.2) := by rw [← Array.toList_map]
        rw [e1] at this
        exact this
      · exact h.elim
    · exact h.elim
  case load t x =>
    simp only [opO] at h
    split at h
    · rename_i heq; exact load_does hT s.ok heq (ev_ok s (op x (by simp [Op.operands]))) rs k h
    · exact h.elim
  case store t x y =>
    simp only [opO] at h
    split at h
    · rename_i heq; exact store_does hT s.ok heq (ev_ok s (op x (by simp [Op.operands]))) (ev_ok s (op y (by simp [Op.operands]))) rs k h
    · exact h.elim
  case nilCheck x =>
    have r := ev_ok s (op x (by simp [Op.operands]))
    simp only [opO, nilO] at h
    split at h
    · rename_i y heq
      rw [heq] at r
      have r2 := rep_one r
      obtain ⟨b, p, hu⟩ : ∃ b p, a.eval x = .pointer (some ⟨b, p, none⟩) := by
        generalize a.eval x = u at r2
        cases r2 with
        | f _ _ r2 => cases r2; exact ⟨_, _, rfl⟩
      exact ⟨_, h, Does.value s.ok (u := a.eval x) (by simp only [hu]; rfl) r⟩
    · rename_i n i off heq
      rw [heq] at r
      obtain ⟨fl, wd, es, hn, hf4, h⟩ := alive_elim h
      obtain ⟨b, p, hu, _⟩ := pt_add (o := 0) s.ok hn hf4 (rep_one r)
      exact ⟨_, h, Does.value s.ok (u := a.eval x) (by simp only [hu]; rfl) r⟩
    · rename_i heq
      rw [heq] at r
      have r2 := rep_one r
      obtain ⟨f, cap, hu⟩ : ∃ f cap, a.eval x = .func (.func f) #[] cap := by
        generalize a.eval x = u at r2
        cases r2 with
        | f _ _ r2 => cases r2; exact ⟨_, _, rfl⟩
      exact ⟨_, h, Does.value s.ok (u := a.eval x) (by simp only [hu]; rfl) r⟩
    · rename_i heq
      rw [heq] at r
      have r2 := rep_one r
      obtain ⟨f, cap, hu⟩ : ∃ f cap, a.eval x = .func (.func f) #[] cap := by
        generalize a.eval x = u at r2
        cases r2; exact ⟨_, _, rfl⟩
      exact ⟨_, h, Does.value s.ok (u := a.eval x) (by simp only [hu]; rfl) r⟩
    · exact h.elim
  case fieldAddr t x f =>
    simp only [opO] at h
    split at h
    · rename_i hl
      split at h
      · rename_i hf; exact addr_does hT s.ok hl hf (ev_ok s (op x (by simp [Op.operands]))) rs k h
      · exact h.elim
    · exact h.elim
  case field t x f =>
    simp only [opO] at h
    split at h
    · rename_i hl
      split at h
      · rename_i hf; exact field_does hT s.ok hl hf (ev_ok s (op x (by simp [Op.operands]))) rs k h
      · exact h.elim
    · exact h.elim
  case indexAddr t x i =>
    simp only [opO] at h
    split at h
    · rename_i ht
      split at h
      · rename_i hl; exact idx_does hT s.ok ht hl (ev_ok s (op x (by simp [Op.operands]))) (ev_ok s (op i (by simp [Op.operands]))) rs k h
      · exact h.elim
    · exact h.elim
  case index t x i =>
    simp only [opO] at h
    split at h
    · rename_i ht; exact chr_does hT s.ok ht (ev_ok s (op x (by simp [Op.operands]))) (ev_ok s (op i (by simp [Op.operands]))) rs k h
    · exact h.elim
  case binOp op' t x y yt =>
    have rx := ev_ok s (op x (by simp [Op.operands]))
    have ry := ev_ok s (op y (by simp [Op.operands]))
    simp only [opO] at h
    split at h
    · rename_i heq; exact eq_does hT s.ok heq rx ry rs k h
    · exact h.elim
    · rename_i elm z b heq
      obtain ⟨hu, _⟩ := hT.w t _ _ _ heq
      exact bi_does hT s.ok rx ry (fun _ _ _ _ => ⟨elm, hu⟩) rs k h
    · rename_i hne1 hne2 hne3
      exact biN_does hT s.ok rx ry rs k h
  case unOp u t x => exact un_does s.ok (ev_ok s (op x (by simp [Op.operands]))) rs k h
  case extract x i => exact extr_does s.ok (ev_ok s (op x (by simp [Op.operands]))) rs k h
  case convert s' t x =>
    have rx := ev_ok s (op x (by simp [Op.operands]))
    simp only [opO] at h
    split at h
    · rename_i h1 h2; exact bytes_does hT s.ok h1 h2 rx rs k h
    · rename_i _ h1 h2; exact conv_does hT s.ok h1 h2 rx rs k h
    · exact h.elim
  case makeFunc f fst cs =>
    cases f <;> first | exact h.elim | skip
    simp only [opO] at h
    obtain ⟨h0, h⟩ := cond_K h
    have hz : fst = #[] := by have := Nat.eq_of_beq_eq_true h0; exact Array.eq_empty_of_size_eq_zero this
    subst hz
    have := func_does (P := P) s.ok (us := cs.toList.map a.eval) (fun i x hi => by
      rw [List.getElem?_map] at hi
      cases hq : cs.toList[i]? with
      | none => rw [hq] at hi; cases hi
      | some y =>
        rw [hq] at hi
        cases hi
        exact ⟨a.eval y, by rw [List.getElem?_map, hq]; rfl, ev_ok s (op y (show y ∈ (#[] ++ cs : Array Operand) by have := List.mem_of_getElem? hq; simpa using this))⟩) (by simp) rs k h
    have e1 : (cs.toList.map a.eval).toArray = cs.map a.eval := by rw [← Array.toList_map]
    have e2 : (#[] : Array Operand).map a.eval = #[] := by simp
    rw [e1] at this
    rw [← e2] at this
    exact this
  case makeMap t r =>
    simp only [opO] at h
    cases r with
    | none => exact makeMap_does s.ok rs k h
    | some r => exact h.elim
  case lookup t x i ok =>
    simp only [opO] at h
    split at h
    · rename_i ht
      split at h
      · rename_i hk he; exact look_does hT s.ok ht hk he (ev_ok s (op x (by simp [Op.operands]))) (ev_ok s (op i (by simp [Op.operands]))) rs k h
      · exact h.elim
    · exact h.elim
  case mapUpdate t x i y =>
    simp only [opO] at h
    split at h
    · rename_i ht
      split at h
      · rename_i hk; exact mupd_does hT s.ok ht hk (ev_ok s (op x (by simp [Op.operands]))) (ev_ok s (op i (by simp [Op.operands]))) (ev_ok s (op y (by simp [Op.operands]))) rs k h
      · exact h.elim
    · exact h.elim
  case makeSlice t x y =>
    simp only [opO] at h
    split at h
    · rename_i ht
      split at h
      · rename_i hl; exact makeSlice_does hT s.ok ht hl (ev_ok s (op x (by simp [Op.operands]))) (ev_ok s (op y (by simp [Op.operands]))) rs k h
      · exact h.elim
    · exact h.elim
  case slice t x lo hi mx =>
    simp only [opO] at h
    split at h
    · rename_i l hl
      obtain ⟨a1, a2⟩ := opt_ev s (o := lo) fun y hy => op y (by simp [Op.operands, hy])
      obtain ⟨b1, b2⟩ := opt_ev s (o := hi) fun y hy => op y (by simp [Op.operands, hy])
      obtain ⟨c1, c2⟩ := opt_ev s (o := mx) fun y hy => op y (by simp [Op.operands, hy])
      exact slice_does hT s.ok hl (ev_ok s (op x (by simp [Op.operands]))) a1 a2 b1 b2 c1 c2 rs (fun el z bt h => by subst h; rfl) k h
    · exact h.elim
  case call c =>
    simp only [opO] at h
    split at h
    · rename_i b hb; exact bilt_does hT s hb hc rs k h
    · exact h.elim
end
end Go.Proofs.Ytfafehhallbjiaa.Ac
set_option linter.unusedVariables false
set_option linter.unusedSimpArgs false
namespace Go.Proofs.Ytfafehhallbjiaa.Ac
open Go.RowKit
abbrev Es := List (Nat × T)
abbrev Hs := List (Nat × Option Ob)
theorem get_append {α : Type} (u v : List (Nat × α)) (n : Nat) : get (u ++ v) n = match get u n with | some x => some x | none => get v n := by
  induction u with
  | nil => rfl
  | cons x u ih =>
    obtain ⟨m, o⟩ := x
    simp only [List.cons_append, get]
    cases Nat.beq m n <;> simp [ih]
theorem putH_get (u hs : Hs) : putH u (get hs) = get (u ++ hs) := by
  funext n
  rw [get_append]
  simp only [putH]
  cases get u n <;> rfl
def addE (d : Option Tmp) (v : T) (es : Es) : Es := match d with
  | some d => (d, v) :: es
  | none => es
theorem putE_get (d : Option Tmp) (v : T) (es : Es) : putE d v (get es) = get (addE d v es) := by
  cases d <;> rfl
theorem get_mem {α : Type} {l : List (Nat × α)} {n : Nat} {x : α} (hx : get l n = some x) : (n, x) ∈ l := by
  induction l with
  | nil => cases hx
  | cons y l ih =>
    obtain ⟨m, v⟩ := y
    simp only [get] at hx
    cases hb : Nat.beq m n
    · rw [hb] at hx; exact List.mem_cons_of_mem _ (ih hx)
    · rw [hb] at hx
      cases hx
      rw [Nat.eq_of_beq_eq_true hb]; exact List.mem_cons_self
def rn (r : List (Nat × Nat)) (n : Nat) : Nat := (get r n).getD n
mutual
def rnA (r : List (Nat × Nat)) : A → A
  | .f x => .f x
  | .nl => .nl
  | .un k => .un k
  | .row n lo hi => .row (rn r n) lo hi
  | .pt n i off => .pt (rn r n) i off
  | .mp n => .mp (rn r n)
  | .ow wd es => .ow wd (rnR r es)
  | .cl f caps => .cl f (rnP r caps)
def rnC (r : List (Nat × Nat)) : List A → List A
  | [] => []
  | x :: l => rnA r x :: rnC r l
def rnR (r : List (Nat × Nat)) : List (List A) → List (List A)
  | [] => []
  | e :: l => rnC r e :: rnR r l
def rnP (r : List (Nat × Nat)) : List (Bool × List A) → List (Bool × List A)
  | [] => []
  | (ag, cs) :: l => (ag, rnC r cs) :: rnP r l
end
def hasN (hs : Hs) (n : Nat) : Bool := match get hs n with | some _ => true | none => false
mutual
def inA (hs : Hs) : A → Bool
  | .f _ => true
  | .nl => true
  | .un _ => true
  | .row n _ _ => hasN hs n
  | .pt n _ _ => hasN hs n
  | .mp n => hasN hs n
  | .ow _ es => inR hs es
  | .cl _ caps => inP hs caps
def inC (hs : Hs) : List A → Bool
  | [] => true
  | x :: l => inA hs x && inC hs l
def inR (hs : Hs) : List (List A) → Bool
  | [] => true
  | e :: l => inC hs e && inR hs l
def inP (hs : Hs) : List (Bool × List A) → Bool
  | [] => true
  | (_, cs) :: l => inC hs cs && inP hs l
end
mutual
/-- A cell that names no row. -/
def clA : A → Prop
  | .f _ => True
  | .nl => True
  | .un _ => True
  | .row _ _ _ => False
  | .pt _ _ _ => False
  | .mp _ => False
  | .ow _ es => clR es
  | .cl _ _ => False
def clC : List A → Prop
  | [] => True
  | x :: l => clA x ∧ clC l
def clR : List (List A) → Prop
  | [] => True
  | e :: l => clC e ∧ clR l
end
mutual
theorem rn_cl (r : List (Nat × Nat)) : ∀ {x : A}, clA x → rnA r x = x
  | .f _, _ => rfl
  | .nl, _ => rfl
  | .un _, _ => rfl
  | .ow wd es, h => congrArg (A.ow wd) (rnR_cl r h)
  | .row _ _ _, h => h.elim
  | .pt _ _ _, h => h.elim
  | .mp _, h => h.elim
  | .cl _ _, h => h.elim
theorem rnC_cl (r : List (Nat × Nat)) : ∀ {l : List A}, clC l → rnC r l = l
  | [], _ => rfl
  | x :: l, h => by rw [rnC, rn_cl r h.1, rnC_cl r h.2]
theorem rnR_cl (r : List (Nat × Nat)) : ∀ {l : List (List A)}, clR l → rnR r l = l
  | [], _ => rfl
  | e :: l, h => by rw [rnR, rnC_cl r h.1, rnR_cl r h.2]
end
theorem cl_mp : ∀ l : List (Int × Value), clR (mpR l)
  | [] => trivial
  | x :: l => ⟨⟨trivial, trivial, trivial⟩, cl_mp l⟩
mutual
theorem in_cl (hs : Hs) : ∀ {x : A}, clA x → inA hs x = true
  | .f _, _ => rfl
  | .nl, _ => rfl
  | .un _, _ => rfl
  | .ow wd es, h => inR_cl hs h
  | .row _ _ _, h => h.elim
  | .pt _ _ _, h => h.elim
  | .mp _, h => h.elim
  | .cl _ _, h => h.elim
theorem inC_cl (hs : Hs) : ∀ {l : List A}, clC l → inC hs l = true
  | [], _ => rfl
  | x :: l, h => by rw [inC, in_cl hs h.1, inC_cl hs h.2]; rfl
theorem inR_cl (hs : Hs) : ∀ {l : List (List A)}, clR l → inR hs l = true
  | [], _ => rfl
  | e :: l, h => by rw [inR, inC_cl hs h.1, inR_cl hs h.2]; rfl
end
theorem rnC_map (r : List (Nat × Nat)) : ∀ l : List A, rnC r l = l.map (rnA r)
  | [] => rfl
  | x :: l => by rw [rnC, rnC_map r l]; rfl
theorem rnR_map (r : List (Nat × Nat)) : ∀ l : List (List A), rnR r l = l.map (·.map (rnA r))
  | [] => rfl
  | e :: l => by rw [rnR, rnR_map r l, rnC_map]; rfl
theorem rnP_map (r : List (Nat × Nat)) : ∀ l : List (Bool × List A), rnP r l = l.map fun x => (x.1, x.2.map (rnA r))
  | [] => rfl
  | (ag, cs) :: l => by rw [rnP, rnP_map r l, rnC_map]; rfl
theorem inC_all (hs : Hs) : ∀ {l : List A}, inC hs l = true → ∀ x ∈ l, inA hs x = true
  | [], _, x, hx => by cases hx
  | y :: l, h, x, hx => by
    simp only [inC, Bool.and_eq_true] at h
    rcases List.mem_cons.1 hx with rfl | hx
    · exact h.1
    · exact inC_all hs h.2 x hx
theorem inR_all (hs : Hs) : ∀ {l : List (List A)}, inR hs l = true → ∀ e ∈ l, inC hs e = true
  | [], _, x, hx => by cases hx
  | y :: l, h, x, hx => by
    simp only [inR, Bool.and_eq_true] at h
    rcases List.mem_cons.1 hx with rfl | hx
    · exact h.1
    · exact inR_all hs h.2 x hx
theorem inP_all (hs : Hs) : ∀ {l : List (Bool × List A)}, inP hs l = true → ∀ x ∈ l, inC hs x.2 = true
  | [], _, x, hx => by cases hx
  | (ag, cs) :: l, h, x, hx => by
    simp only [inP, Bool.and_eq_true] at h
    rcases List.mem_cons.1 hx with rfl | hx
    · exact h.1
    · exact inP_all hs h.2 x hx
inductive Frz (K : Nat → Ob → Prop) : A → L → Prop
  | f (x : L) : Frz K (.f x) x
  | nl (wd : Nat) : Frz K .nl (.sl wd [])
  | ow (wd : Nat) (es : List (List A)) (ls : List (List L)) (hlen : es.length = ls.length) (hl : ∀ (i : Nat) e l, es[i]? = some e → ls[i]? = some l → e.length = l.length) (h : ∀ (i : Nat) e l (j : Nat) x y, es[i]? = some e → ls[i]? = some l → e[j]? = some x → l[j]? = some y → Frz K x y) : Frz K (.ow wd es) (.sl wd ls)
  | row (m lo hi : Nat) (ob : Ob) (ls : List (List L)) (hm : K m ob) (hlen : ((ob.es.take hi).drop lo).length = ls.length) (hl : ∀ (i : Nat) e l, ((ob.es.take hi).drop lo)[i]? = some e → ls[i]? = some l → e.length = l.length)
      (h : ∀ (i : Nat) e l (j : Nat) x y, ((ob.es.take hi).drop lo)[i]? = some e → ls[i]? = some l → e[j]? = some x → l[j]? = some y → Frz K x y) : Frz K (.row m lo hi) (.sl ob.wd ls)
  | pt (n i off : Nat) (ob : Ob) (e : List A) (ls : List L) (hn : K n ob) (hne : ls ≠ []) (he : ob.es[i]? = some e) (hlen : ls.length ≤ (e.drop off).length) (h : ∀ (j : Nat) x y, (e.drop off)[j]? = some x → ls[j]? = some y → Frz K x y) : Frz K (.pt n i off) (.pv ls)
def FrzR (K : Nat → Ob → Prop) (es : List (List A)) (ls : List (List L)) : Prop := es.length = ls.length ∧ (∀ (i : Nat) e l, es[i]? = some e → ls[i]? = some l → e.length = l.length) ∧ ∀ (i : Nat) e l (j : Nat) x y, es[i]? = some e → ls[i]? = some l → e[j]? = some x → l[j]? = some y → Frz K x y
def kept (r : List (Nat × Nat)) (hs' : Hs) (m : Nat) : Bool := hs'.any fun x => Nat.beq (rn r x.1) m
def gone (r : List (Nat × Nat)) (g : Hp) (hs' : Hs) (m : Nat) (ob : Ob) : Prop := g m = some (some ob) ∧ kept r hs' m = false ∧ Nat.beq ob.fl 4 = false
def FrzN (r : List (Nat × Nat)) (g : Hp) (hs' : Hs) (m lo hi wd : Nat) (ls : List (List L)) : Prop := match g m with
  | some (some ob) => ob.wd = wd ∧ Nat.beq ob.fl 4 = false ∧ FrzR (gone r g hs') ((ob.es.take hi).drop lo) ls ∧ kept r hs' m = false
  | _ => False
def frzC (K : Nat → Ob → Prop) : List A → List L → Prop
  | _, [] => True
  | x :: xs, y :: ys => Frz K x y ∧ frzC K xs ys
  | [], _ :: _ => False
def FrzP (r : List (Nat × Nat)) (g : Hp) (hs' : Hs) (n i off : Nat) (ls : List L) : Prop := match g n with
  | some (some ob) => ls ≠ [] ∧ Nat.beq ob.fl 4 = false ∧ (∃ e, ob.es[i]? = some e ∧ frzC (gone r g hs') (e.drop off) ls) ∧ kept r hs' n = false
  | _ => False
def bzA (r : List (Nat × Nat)) (g : Hp) (hs' : Hs) (x : A) (l : L) : Prop := match x, l with
  | .f y, l => y = l
  | .nl, .sl _ ls => ls = []
  | .row m lo hi, .sl wd ls => FrzN r g hs' m lo hi wd ls
  | .pt n i off, .pv ls => FrzP r g hs' n i off ls
  | _, _ => False
def bzC (r : List (Nat × Nat)) (g : Hp) (hs' : Hs) : List A → List L → Prop
  | [], [] => True
  | x :: xs, y :: ys => bzA r g hs' x y ∧ bzC r g hs' xs ys
  | _, _ => False
def bzP (r : List (Nat × Nat)) (g : Hp) (hs' : Hs) : List (Bool × List A) → List (Bool × List L) → Prop
  | [], [] => True
  | x :: xs, y :: ys => x.1 = y.1 ∧ bzC r g hs' x.2 y.2 ∧ bzP r g hs' xs ys
  | _, _ => False
def tlA (fz : Bool) (r : List (Nat × Nat)) (g : Hp) (hs' : Hs) (x y : A) : Prop := match x, y with
  | _, .un none => True
  | .f z, .f l => z = l
  | .cl f caps, .f (.cl f' ls) => cond fz (f = f' ∧ bzP r g hs' caps ls) False
  | x, .f l => cond fz (bzA r g hs' x l) False
  | .nl, .row n lo hi => lo = 0 ∧ hi = 0 ∧ g (rn r n) = none
  | .row m lo hi, .un (some k) => k = hi - lo ∧ match g m with
    | some (some ob) => Nat.beq ob.fl 4 = false
    | _ => False
  | x, y => x = rnA r y
def tlC (fz : Bool) (r : List (Nat × Nat)) (g : Hp) (hs' : Hs) : List A → List A → Prop
  | [], [] => True
  | x :: xs, y :: ys => tlA fz r g hs' x y ∧ tlC fz r g hs' xs ys
  | _, _ => False
def tlR (fz : Bool) (r : List (Nat × Nat)) (g : Hp) (hs' : Hs) : List (List A) → List (List A) → Prop
  | [], [] => True
  | x :: xs, y :: ys => tlC fz r g hs' x y ∧ tlR fz r g hs' xs ys
  | _, _ => False
def tlVs (fz : Bool) (r : List (Nat × Nat)) (g : Hp) (hs' : Hs) : List (Bool × List A) → List (Bool × List A) → Prop
  | [], [] => True
  | x :: xs, y :: ys => x.1 = y.1 ∧ tlC fz r g hs' x.2 y.2 ∧ tlVs fz r g hs' xs ys
  | _, _ => False
def tlT (fz : Bool) (r : List (Nat × Nat)) (g : Hp) (hs' : Hs) (x y : T) : Prop := match x, y with
  | _, .bot => True
  | .val ag cs, .val ag' cs' => ag = ag' ∧ tlC fz r g hs' cs cs'
  | .tu vs, .tu vs' => tlVs fz r g hs' vs vs'
  | _, _ => False
def inT (hs : Hs) : T → Bool
  | .val _ cs => inC hs cs
  | .tu vs => inP hs vs
  | .bot => true
def inO (hs : Hs) : Option Ob → Bool
  | some ob => cond (Nat.beq ob.fl 3) (inR hs ob.es) true
  | none => true
def subE (fz : Bool) (r : List (Nat × Nat)) (g : Hp) (hs' : Hs) (e : Env) : Es → Prop
  | [] => True
  | (t, y) :: l => (match e t with
    | some x => tlT fz r g hs' x y
    | none => False) ∧ subE fz r g hs' e l
def tlO (fz : Bool) (r : List (Nat × Nat)) (g : Hp) (hs' : Hs) (n : Nat) (o : Option Ob) : Prop := match o with
  | none => True
  | some ob' => match g (rn r n) with
    | some (some ob) => ob.wd = ob'.wd ∧ (ob'.fl = 0 ∧ Nat.beq ob.fl 4 = false ∨ ob'.fl = ob.fl) ∧ cond (Nat.beq ob'.fl 3) (tlR fz r g hs' ob.es ob'.es) (ob.es = ob'.es ∧ clR ob'.es)
    | some none => False
    | none => ob'.es = [] ∧ ob'.fl = 0 ∧ 0 < ob'.wd
def subH (fz : Bool) (r : List (Nat × Nat)) (g : Hp) (hs' : Hs) : Hs → Prop
  | [] => True
  | (n, o) :: l => tlO fz r g hs' n o ∧ subH fz r g hs' l
def subB (fp : List Nat) (r : List (Nat × Nat)) (es' : Es) (hs' : Hs) : Bool := es'.all (fun x => inT hs' x.2) && hs'.all (fun x => inO hs' x.2) && nodupB (hs'.map fun x => rn r x.1) && fp.all (fun n => hasN hs' n && Nat.beq (rn r n) n)
def Sub (fp : List Nat) (r : List (Nat × Nat)) (es' : Es) (hs' : Hs) (e : Env) (g : Hp) : Prop := subB fp r es' hs' = true ∧ subE true r g hs' e es' ∧ subH true r g hs' hs'
section
variable {r : List (Nat × Nat)} {hs' : Hs} {h : Array Obj} {g : Hp} {φ : Phi} {out : Nat → Prop}
noncomputable def ph (r : List (Nat × Nat)) (hs' : Hs) (g : Hp) (φ : Phi) (out : Nat → Prop) : Phi := ⟨fun X => match get hs' X.1, g (rn r X.1) with
  | some (some _), some _ => φ (rn r X.1, X.2)
  | _, _ => none, out⟩
theorem ph_live {n : Nat} {ob ob' : Ob} (h1 : get hs' n = some (some ob')) (h2 : g (rn r n) = some (some ob)) (q : List (Nat × Nat)) : (ph r hs' g φ out) (n, q) = φ (rn r n, q) := by simp [ph, h1, h2]
theorem ph_some {X : Place} {hd : Hd} (hX : (ph r hs' g φ out) X = some hd) : φ (rn r X.1, X.2) = some hd ∧ ∃ ob', get hs' X.1 = some (some ob') := by
  simp only [ph] at hX
  split at hX
  · rename_i ob' _ h1 _; exact ⟨hX, ob', h1⟩
  · cases hX
theorem nodupB_inj {α : Type} {f : Nat → Nat} : ∀ {l : List (Nat × α)}, nodupB (l.map fun x => f x.1) = true → ∀ {m n : Nat} {x y : α}, (m, x) ∈ l → (n, y) ∈ l → f m = f n → m = n
  | [], _, _, _, _, _, hm, _, _ => by cases hm
  | z :: l, hd, m, n, x, y, hm, hn, he => by
    simp only [List.map_cons, nodupB] at hd
    cases hb : memN (f z.1) (l.map fun x => f x.1) with
    | true => rw [hb] at hd; cases hd
    | false =>
      rw [hb] at hd
      have no : ∀ {k : Nat} {v : α}, (k, v) ∈ l → f z.1 ≠ f k := fun hk e => by
        have : f z.1 ∈ l.map fun x => f x.1 := List.mem_map.2 ⟨_, hk, e.symm⟩
        rw [memN_iff.2 this] at hb; cases hb
      rcases List.mem_cons.1 hm with rfl | hm2
      · rcases List.mem_cons.1 hn with h | hn2
        · cases h; rfl
        · exact absurd he (no hn2)
      · rcases List.mem_cons.1 hn with rfl | hn2
        · exact absurd he.symm (no hm2)
        · exact nodupB_inj hd hm2 hn2 he
theorem subH_get {fz : Bool} : ∀ {l : Hs}, subH fz r g hs' l → ∀ {n : Nat} {o : Option Ob}, (n, o) ∈ l → tlO fz r g hs' n o
  | [], _, _, _, hm => by cases hm
  | _ :: l, s, n, o, hm => by
    rcases List.mem_cons.1 hm with rfl | hm
    · exact s.1
    · exact subH_get s.2 hm
theorem own_ph (ho : ∀ b, out b → Own φ b) {b : Nat} (h : Own (ph r hs' g φ out) b) : Own φ b := by
  rcases h with h | ⟨X, hd, hX, rfl⟩
  · exact ho b h
  · exact .inr ⟨_, hd, (ph_some hX).1, rfl⟩
theorem frzRow_core (ok : HeapOK h g φ) {O : Nat → Prop} {m lo hi fl wd : Nat} {es : List (List A)} (hn : g m = some (some ⟨fl, wd, es⟩)) (hf4 : fl ≠ 4) {ls : List (List L)} (hf : ((es.take hi).drop lo).length = ls.length ∧ (∀ (i : Nat) e l, ((es.take hi).drop lo)[i]? = some e → ls[i]? = some l → e.length = l.length) ∧ ∀ (i : Nat) e l (j : Nat) x y, ((es.take hi).drop lo)[i]? = some e → ls[i]? = some l → e[j]? = some x → l[j]? = some y → ∀ {X : Place} {u : Value}, RepA h g φ X x u → (∀ q hd, φ (X.1, q ++ X.2) = some hd → ¬ O hd.b) → RepL h O y u) {u : Value} (r : RefRow g φ m lo hi u) (hno : ∀ q hd, φ (m, q) = some hd → ¬ O hd.b) : RepL h O (.sl wd ls) u := by
  obtain ⟨h1, h2, a, cap, hu⟩ := (by
    have r3 := r.2
    rw [hn] at r3
    obtain ⟨h1, h2, r3⟩ := r3
    refine ⟨h1, h2, ?_⟩
    cases hp : φ (m, []) with
    | none =>
      rw [hp] at r3
      obtain ⟨a', rfl⟩ := r3
      exact ⟨a', 0, rfl⟩
    | some hd =>
      rw [hp] at r3
      obtain ⟨a', rfl, _⟩ := r3
      exact ⟨a', 0, rfl⟩ : lo ≤ hi ∧ hi ≤ es.length ∧ ∃ (a : Option Addr) (cap : Nat), u = u)
  have hlen : ((es.take hi).drop lo).length = hi - lo := by simp; omega
  have hl := hf.1
  rw [hlen] at hl
  have r3 := r.2
  rw [hn] at r3
  obtain ⟨_, _, r3⟩ := r3
  dsimp only at r3
  by_cases hne : ls = []
  · subst hne
    cases hp : φ (m, []) with
    | none => rw [hp] at r3; obtain ⟨a, rfl⟩ := r3; exact .nil _ _ _
    | some hd => rw [hp] at r3; obtain ⟨a, rfl, _⟩ := r3; simp only [List.length_nil] at hl; rw [hl]; exact .nil _ _ _
  · have hpos : lo < hi := by
      have : 0 < ls.length := List.length_pos_iff.2 hne
      omega
    rcases ((ok.ob m _ hn).row hf4) with ⟨h0, _⟩ | ⟨hd, c, ty, g1, g2, g3, g4, g5⟩
    · simp only at h0; subst h0; simp at h2; omega
    · rw [g1] at r3
      obtain ⟨a, rfl, ha⟩ := r3
      dsimp only at g3 g5
      rw [ha (.inr hpos), hl]
      refine .sl wd ls hd.b (hd.off + lo * wd) (hd.cap - lo) c ty (0, 0) g3.wd0 hne g2 (hno [] hd g1) (fun l hm => ?_) ?_ (by have := g3.le; omega) fun i l j y hi' hj => ?_
      · obtain ⟨i, hi', rfl⟩ := List.mem_iff_getElem.1 hm
        have hie : i < ((es.take hi).drop lo).length := by omega
        rw [← hf.2.1 i _ ls[i] (List.getElem?_eq_getElem hie) (List.getElem?_eq_getElem hi')]
        exact g3.len _ (List.mem_of_mem_take (List.mem_of_mem_drop (List.getElem_mem _)))
      · rw [g3.size, ← hl, Nat.add_assoc, ← Nat.add_mul]
        exact Nat.add_le_add_left (Nat.mul_le_mul_right _ (by have := g3.le; omega)) _
      · have hil := (List.getElem?_eq_some_iff.1 hi').1
        have hie : i < ((es.take hi).drop lo).length := by omega
        have he := List.getElem?_eq_getElem hie
        have hel := hf.2.1 i _ _ he hi'
        have hjl := (List.getElem?_eq_some_iff.1 hj).1
        have hx : (((es.take hi).drop lo)[i])[j]? = some ((((es.take hi).drop lo)[i])[j]'(by omega)) := List.getElem?_eq_getElem _
        have he2 : es[lo + i]? = some (((es.take hi).drop lo)[i]) := by
          rw [List.getElem?_drop, List.getElem?_take] at he
          split at he
          · exact he
          · cases he
        have := hf.2.2 i _ _ j _ _ he hi' hx hj (g5 (lo + i) _ j _ he2 hx) fun q hd' hq => hno _ hd' hq
        rw [Nat.add_mul] at this
        rw [show hd.off + lo * wd + i * wd + j = hd.off + (lo * wd + i * wd) + j by omega]
        exact this
theorem frzPt_core (ok : HeapOK h g φ) {O : Nat → Prop} {n fl wd : Nat} {es : List (List A)} (hn : g n = some (some ⟨fl, wd, es⟩)) (hf4 : fl ≠ 4) {i off : Nat} {e : List A} {ls : List L} (hne : ls ≠ []) (he : es[i]? = some e) (hlen : ls.length ≤ (e.drop off).length)
    (hfr : ∀ (j : Nat) x y, (e.drop off)[j]? = some x → ls[j]? = some y → ∀ {X : Place} {u : Value}, RepA h g φ X x u → (∀ q hd, φ (X.1, q ++ X.2) = some hd → ¬ O hd.b) → RepL h O y u) {u : Value} (rx : RepE h g φ (.pt n i off) u) (hno : ∀ q hd, φ (n, q) = some hd → ¬ O hd.b) : RepL h O (.pv ls) u := by
  obtain ⟨hd, hp, rfl, c, ty, hb, hrow, hfl, hcell⟩ := ref_row ok hn hf4 rx
  obtain ⟨hel, hin⟩ := hrow.in he
  rw [List.length_drop] at hlen
  have hpos : 0 < ls.length := List.length_pos_iff.2 hne
  refine .pv ls hd.b (hd.off + i * wd + off) c ty (0, 0) hne hb (hno [] hd hp) (by omega) fun j y hj => ?_
  have hjl := (List.getElem?_eq_some_iff.1 hj).1
  have hx : (e.drop off)[j]? = some (e[off + j]'(by omega)) := by rw [List.getElem?_drop]; exact List.getElem?_eq_getElem _
  have hx2 : e[off + j]? = some (e[off + j]'(by omega)) := List.getElem?_eq_getElem _
  rw [Nat.add_assoc]
  exact hfr j _ _ hx hj (hcell i e (off + j) _ he hx2) fun q hd' hq => hno _ hd' hq
theorem frz_ok (ok : HeapOK h g φ) {O : Nat → Prop} (hO : ∀ b, O b → Own φ b) {K : Nat → Ob → Prop} (hK : ∀ m ob, K m ob → g m = some (some ob) ∧ ob.fl ≠ 4 ∧ ∀ q hd, φ (m, q) = some hd → ¬ O hd.b) : ∀ {x : A} {y : L}, Frz K x y → ∀ {X : Place} {u : Value}, RepA h g φ X x u → (∀ q hd, φ (X.1, q ++ X.2) = some hd → ¬ O hd.b) → RepL h O y u := by
  intro x y hf
  induction hf with
  | f x =>
    intro X u r _
    cases r with
    | e _ _ _ r => cases r with
      | f _ _ r => exact r.less hO
  | nl wd =>
    intro X u r _
    cases r with
    | e _ _ _ r => cases r with
      | nl a => exact .nil _ _ _
  | ow wd es ls hlen hl hh ih =>
    intro X u r hn
    cases r with
    | e _ _ _ r => cases r
    | nilo _ _ a hw hX =>
      have : ls = [] := List.eq_nil_of_length_eq_zero hlen.symm
      subst this; exact .nil _ _ _
    | ow _ _ _ hd c ty hX hb okr hr =>
      by_cases hne : ls = []
      · subst hne
        have : es = [] := List.eq_nil_of_length_eq_zero (by simpa using hlen)
        subst this; exact .nil _ _ _
      · rw [hlen]
        refine .sl wd ls hd.b hd.off hd.cap c ty (0, 0) okr.wd0 hne hb (hn [] hd hX) (fun l hm => ?_) ?_ (by rw [← hlen]; exact okr.le) fun i l j y hi hj => ?_
        · obtain ⟨i, hi, rfl⟩ := List.mem_iff_getElem.1 hm
          have hie : i < es.length := by omega
          rw [← hl i es[i] ls[i] (List.getElem?_eq_getElem hie) (List.getElem?_eq_getElem hi)]
          exact okr.len _ (List.getElem_mem _)
        · rw [okr.size, ← hlen]; exact Nat.add_le_add_left (Nat.mul_le_mul_right _ okr.le) _
        · have hil := (List.getElem?_eq_some_iff.1 hi).1
          have hie : i < es.length := by omega
          have he := List.getElem?_eq_getElem hie
          have hel := hl i _ _ he hi
          have hjl := (List.getElem?_eq_some_iff.1 hj).1
          have hx : (es[i])[j]? = some ((es[i])[j]'(by omega)) := List.getElem?_eq_getElem _
          exact ih i _ _ j _ _ he hi hx hj (hr i _ j _ he hx) fun q hd' hq => hn (q ++ [(i, j)]) hd' (by simpa using hq)
  | row m lo hi ob ls hm hlen hl hh ih =>
    intro X u r _
    obtain ⟨g1, g2, g3⟩ := hK m ob hm
    obtain ⟨fl, wd, es⟩ := ob
    cases r with
    | e _ _ _ r => cases r with
      | row _ _ _ _ r => exact frzRow_core ok g1 g2 ⟨hlen, hl, fun i e l j x y h1 h2 h3 h4 => ih i e l j x y h1 h2 h3 h4⟩ r g3
  | pt n i off ob e ls hn hne he hlen hh ih =>
    intro X u r _
    obtain ⟨g1, g2, g3⟩ := hK n ob hn
    obtain ⟨fl, wd, es⟩ := ob
    cases r with
    | e _ _ _ r => exact frzPt_core ok g1 g2 hne he hlen (fun j x y h1 h2 => ih j x y h1 h2) r g3
theorem frzR_ok (ok : HeapOK h g φ) {O : Nat → Prop} (hO : ∀ b, O b → Own φ b) {K : Nat → Ob → Prop} (hK : ∀ m ob, K m ob → g m = some (some ob) ∧ ob.fl ≠ 4 ∧ ∀ q hd, φ (m, q) = some hd → ¬ O hd.b) {m lo hi fl wd : Nat} {es : List (List A)} (hn : g m = some (some ⟨fl, wd, es⟩)) (hf4 : fl ≠ 4) {ls : List (List L)} (hf : FrzR K ((es.take hi).drop lo) ls) {u : Value} (r : RefRow g φ m lo hi u) (hno : ∀ q hd, φ (m, q) = some hd → ¬ O hd.b) : RepL h O (.sl wd ls) u :=
  frzRow_core ok hn hf4 ⟨hf.1, hf.2.1, fun i e l j x y h1 h2 h3 h4 => frz_ok ok hO hK (hf.2.2 i e l j x y h1 h2 h3 h4)⟩ r hno
end
end Go.Proofs.Ytfafehhallbjiaa.Ac
set_option linter.unusedVariables false
set_option linter.unusedSimpArgs false
namespace Go.Proofs.Ytfafehhallbjiaa.Ac
open Go.RowKit
section
variable {fz : Bool} {r : List (Nat × Nat)} {hs' : Hs} {h : Array Obj} {g : Hp} {φ : Phi} {out : Nat → Prop}
structure OutOK (fz : Bool) (r : List (Nat × Nat)) (hs' : Hs) (g : Hp) (φ : Phi) (out : Nat → Prop) : Prop where
  own : ∀ b, out b → Own φ b
  no : ∀ n ob' q hd, get hs' n = some (some ob') → φ (rn r n, q) = some hd → ¬ out hd.b
  fr : fz = true → ∀ X hd, φ X = some hd → ¬ out hd.b
theorem kept_no {m n : Nat} {o : Option Ob} (hk : kept r hs' m = false) (hm : (n, o) ∈ hs') : rn r n ≠ m := by
  intro e
  have : kept r hs' m = true := List.any_eq_true.2 ⟨_, hm, by rw [e]; simp⟩
  rw [this] at hk; cases hk
theorem not_own (ok : HeapOK h g φ) (o : OutOK fz r hs' g φ out) (hfz : fz = true) {m : Nat} (hk : kept r hs' m = false) {q : List (Nat × Nat)} {hd : Hd} (hq : φ (m, q) = some hd) : ¬ Own (ph r hs' g φ out) hd.b := by
  rintro (ho | ⟨X, hd', hX, hb⟩)
  · exact o.fr hfz _ _ hq ho
  · obtain ⟨h1, ob', h2⟩ := ph_some hX
    have := ok.inj _ _ _ _ h1 hq hb
    exact kept_no hk (get_mem h2) (congrArg Prod.fst this)
theorem frzC_at {K : Nat → Ob → Prop} : ∀ {xs : List A} {ls : List L}, frzC K xs ls → ls.length ≤ xs.length ∧ ∀ {j : Nat} {x : A} {l : L}, xs[j]? = some x → ls[j]? = some l → Frz K x l
  | xs, [], _ => ⟨Nat.zero_le _, fun _ h => by simp at h⟩
  | x :: xs, y :: ys, h => by
    obtain ⟨h1, h2⟩ := frzC_at h.2
    refine ⟨Nat.succ_le_succ h1, fun {j} {a} {l} ha hl => ?_⟩
    cases j with
    | zero => cases ha; cases hl; exact h.1
    | succ j => exact h2 ha hl
  | [], _ :: _, h => h.elim
theorem gone_ok (ok : HeapOK h g φ) (o : OutOK fz r hs' g φ out) (hfz : fz = true) (m : Nat) (ob : Ob) (hm : gone r g hs' m ob) : g m = some (some ob) ∧ ob.fl ≠ 4 ∧ ∀ q hd, φ (m, q) = some hd → ¬ Own (ph r hs' g φ out) hd.b :=
  ⟨hm.1, (fun e => by have := hm.2.2; rw [e] at this; cases this), fun q hd hq => not_own ok o hfz hm.2.1 hq⟩
theorem bzA_ok (ok : HeapOK h g φ) (o : OutOK fz r hs' g φ out) (hfz : fz = true) {x : A} {l : L} {u : Value} (hx : bzA r g hs' x l) (rx : RepE h g φ x u) : RepL h (Own (ph r hs' g φ out)) l u := by
  unfold bzA at hx
  split at hx
  · subst hx
    cases rx with
    | f _ _ rx => exact rx.less fun b hb => own_ph o.own hb
  · subst hx
    cases rx; exact .nil _ _ _
  · rename_i m lo hi wd ls
    unfold FrzN at hx
    split at hx
    · rename_i ob hn
      obtain ⟨fl, wd', es⟩ := ob
      obtain ⟨hw, hf4, hf, hk⟩ := hx
      dsimp only at hw hf
      subst hw
      have r2 : RefRow g φ m lo hi u := by cases rx; assumption
      exact frzR_ok ok (fun b hb => own_ph o.own hb) (gone_ok ok o hfz) hn (fun e => by rw [e] at hf4; cases hf4) hf r2 fun q hd hq => not_own ok o hfz hk hq
    · exact hx.elim
  · rename_i n i off ls
    unfold FrzP at hx
    split at hx
    · rename_i ob hn
      obtain ⟨fl, wd, es⟩ := ob
      obtain ⟨hne, hf4, ⟨e, he, hf⟩, hk⟩ := hx
      dsimp only at he
      obtain ⟨hlen, hfr⟩ := frzC_at hf
      exact frzPt_core ok hn (fun e => by rw [e] at hf4; cases hf4) hne he hlen (fun j x y h1 h2 => frz_ok ok (fun b hb => own_ph o.own hb) (gone_ok ok o hfz) (hfr h1 h2)) rx fun q hd hq => not_own ok o hfz hk hq
    · exact hx.elim
  · exact hx.elim
theorem bzC_at : ∀ {xs : List A} {ls : List L}, bzC r g hs' xs ls → xs.length = ls.length ∧ ∀ {j : Nat} {l : L}, ls[j]? = some l → ∃ x, xs[j]? = some x ∧ bzA r g hs' x l
  | [], [], _ => ⟨rfl, fun h => by simp at h⟩
  | x :: xs, y :: ys, h => by
    obtain ⟨h1, h2⟩ := bzC_at h.2
    refine ⟨by simp [h1], fun {j} {l} hl => ?_⟩
    cases j with
    | zero => cases hl; exact ⟨x, rfl, h.1⟩
    | succ j => exact h2 hl
  | [], _ :: _, h => h.elim
  | _ :: _, [], h => h.elim
theorem bzP_at : ∀ {xs : List (Bool × List A)} {ls : List (Bool × List L)}, bzP r g hs' xs ls → xs.length = ls.length ∧ ∀ {i : Nat} {l : Bool × List L}, ls[i]? = some l → ∃ x, xs[i]? = some x ∧ x.1 = l.1 ∧ bzC r g hs' x.2 l.2
  | [], [], _ => ⟨rfl, fun h => by simp at h⟩
  | x :: xs, y :: ys, h => by
    obtain ⟨h1, h2⟩ := bzP_at h.2.2
    refine ⟨by simp [h1], fun {i} {l} hl => ?_⟩
    cases i with
    | zero => cases hl; exact ⟨x, rfl, h.1, h.2.1⟩
    | succ i => exact h2 hl
  | [], _ :: _, h => h.elim
  | _ :: _, [], h => h.elim
mutual
theorem tl_cl : ∀ {x : A}, clA x → tlA fz r g hs' x x
  | .f _, _ => rfl
  | .nl, _ => rfl
  | .un none, _ => trivial
  | .un (some k), _ => rfl
  | .ow wd es, h => (rn_cl r (x := .ow wd es) h).symm
  | .row _ _ _, h => h.elim
  | .pt _ _ _, h => h.elim
  | .mp _, h => h.elim
  | .cl _ _, h => h.elim
theorem tlC_cl : ∀ {l : List A}, clC l → tlC fz r g hs' l l
  | [], _ => trivial
  | x :: l, h => ⟨tl_cl h.1, tlC_cl h.2⟩
theorem tlR_cl : ∀ {l : List (List A)}, clR l → tlR fz r g hs' l l
  | [], _ => trivial
  | e :: l, h => ⟨tlC_cl h.1, tlR_cl h.2⟩
end
theorem tlO_R {ob ob' : Ob} (h : cond (Nat.beq ob'.fl 3) (tlR fz r g hs' ob.es ob'.es) (ob.es = ob'.es ∧ clR ob'.es)) : tlR fz r g hs' ob.es ob'.es := by
  cases hb : Nat.beq ob'.fl 3
  · rw [hb] at h
    obtain ⟨h1, h2⟩ := h
    rw [h1]; exact tlR_cl h2
  · rw [hb] at h; exact h
theorem inO_R {ob ob' : Ob} (hi : inO hs' (some ob') = true) (h : cond (Nat.beq ob'.fl 3) (tlR fz r g hs' ob.es ob'.es) (ob.es = ob'.es ∧ clR ob'.es)) : inR hs' ob'.es = true := by
  dsimp only [inO] at hi
  cases hb : Nat.beq ob'.fl 3
  · rw [hb] at h
    exact inR_cl hs' h.2
  · rw [hb] at hi; exact hi
variable (hH : subH fz r g hs' hs')
include hH
theorem ref_told {n : Nat} (hn : hasN hs' n = true) : (get hs' n = some none ∨ (∃ ob' ob, get hs' n = some (some ob') ∧ g (rn r n) = some (some ob) ∧ ob.wd = ob'.wd ∧ (ob'.fl = 0 ∧ Nat.beq ob.fl 4 = false ∨ ob'.fl = ob.fl) ∧ tlR fz r g hs' ob.es ob'.es ∧ (inO hs' (some ob') = true → inR hs' ob'.es = true) ∧ (ob'.fl = 4 → ob.es = ob'.es)) ∨ ∃ ob', get hs' n = some (some ob') ∧ g (rn r n) = none ∧ ob'.es = [] ∧ ob'.fl = 0 ∧ 0 < ob'.wd) := by
  unfold hasN at hn
  split at hn
  · rename_i o ho
    cases o with
    | none => exact .inl ho
    | some ob' =>
      have := subH_get hH (get_mem ho)
      unfold tlO at this
      dsimp only at this
      split at this
      · rename_i ob hg; exact .inr (.inl ⟨ob', ob, ho, hg, this.1, this.2.1, tlO_R this.2.2, fun h => inO_R h this.2.2, fun h => by have := this.2.2; rw [h] at this; exact this.1⟩)
      · exact this.elim
      · rename_i hg; exact .inr (.inr ⟨ob', ho, hg, this⟩)
  · cases hn
omit hH in
theorem tlR_len : ∀ {xs ys : List (List A)}, tlR fz r g hs' xs ys → xs.length = ys.length
  | [], [], _ => rfl
  | _ :: _, _ :: _, h => congrArg (· + 1) (tlR_len h.2)
  | [], _ :: _, h => h.elim
  | _ :: _, [], h => h.elim
omit hH in
theorem tlR_at : ∀ {xs ys : List (List A)}, tlR fz r g hs' xs ys → ∀ {i : Nat} {y : List A}, ys[i]? = some y → ∃ x, xs[i]? = some x ∧ tlC fz r g hs' x y
  | x :: xs, y :: ys, h, 0, _, hy => by cases hy; exact ⟨x, rfl, h.1⟩
  | x :: xs, y :: ys, h, i + 1, _, hy => tlR_at h.2 (i := i) hy
  | [], [], _, _, _, hy => by simp at hy
  | [], _ :: _, h, _, _, _ => h.elim
  | _ :: _, [], h, _, _, _ => h.elim
omit hH in
theorem tlC_at : ∀ {xs ys : List A}, tlC fz r g hs' xs ys → xs.length = ys.length ∧ ∀ {i : Nat} {y : A}, ys[i]? = some y → ∃ x, xs[i]? = some x ∧ tlA fz r g hs' x y
  | [], [], _ => ⟨rfl, fun h => by simp at h⟩
  | x :: xs, y :: ys, h => by
    obtain ⟨h1, h2⟩ := tlC_at h.2
    refine ⟨by simp [h1], fun {i} {l} hl => ?_⟩
    cases i with
    | zero => cases hl; exact ⟨x, rfl, h.1⟩
    | succ i => exact h2 hl
  | [], _ :: _, h => h.elim
  | _ :: _, [], h => h.elim
theorem refRow_told {n lo hi : Nat} {u : Value} (hn : hasN hs' n = true) (rr : RefRow g φ (rn r n) lo hi u) : RefRow (get hs') (ph r hs' g φ out) n lo hi u := by
  refine ⟨rr.1, ?_⟩
  have r2 := rr.2
  rcases ref_told hH hn with h0 | ⟨ob', ob, h1, h2, h3, h4, h5, _⟩ | ⟨ob', h1, h2, h3⟩
  · rw [h0]; trivial
  · rw [h1]
    rw [h2] at r2
    obtain ⟨a1, a2, a3⟩ := r2
    dsimp only at a3 ⊢
    refine ⟨a1, by rw [← tlR_len h5]; exact a2, ?_⟩
    rw [ph_live h1 h2, ← h3]; exact a3
  · rw [h2] at r2; exact r2.elim
theorem refPt_told {n i off : Nat} {u : Value} (hn : hasN hs' n = true) (rr : RefPt g φ (rn r n) i off u) : RefPt (get hs') (ph r hs' g φ out) n i off u := by
  refine ⟨rr.1, ?_⟩
  have r2 := rr.2
  rcases ref_told hH hn with h0 | ⟨ob', ob, h1, h2, h3, h4, h5, _⟩ | ⟨ob', h1, h2, h3⟩
  · rw [h0]; trivial
  · rw [h1]
    rw [h2] at r2
    obtain ⟨hd, a1, a2⟩ := r2
    dsimp only
    exact ⟨hd, (ph_live h1 h2 _).trans a1, by rw [← h3]; exact a2⟩
  · rw [h2] at r2; exact r2.elim
theorem refMp_told {n : Nat} {u : Value} (hn : hasN hs' n = true) (rr : RefMp g φ (rn r n) u) : RefMp (get hs') (ph r hs' g φ out) n u := by
  refine ⟨rr.1, ?_⟩
  have r2 := rr.2
  rcases ref_told hH hn with h0 | ⟨ob', ob, h1, h2, h3, h4, h5, _⟩ | ⟨ob', h1, h2, h3⟩
  · rw [h0]; trivial
  · rw [h1]
    rw [h2] at r2
    obtain ⟨hd, a1, a2⟩ := r2
    exact ⟨hd, (ph_live h1 h2 _).trans a1, a2⟩
  · rw [h2] at r2; exact r2.elim
theorem repE_rn (o : OutOK fz r hs' g φ out) : ∀ {x' : A} {u : Value}, RepE h g φ x' u → ∀ {y : A}, x' = rnA r y → inA hs' y = true → RepE h (get hs') (ph r hs' g φ out) y u := by
  intro x' u rx
  induction rx with
  | f x u rx =>
    intro y hy hi
    cases y <;> simp only [rnA] at hy <;> cases hy
    exact .f _ _ (rx.less fun b hb => own_ph o.own hb)
  | nl a => intro y hy hi; cases y <;> simp only [rnA] at hy <;> cases hy; exact .nl a
  | un k u h1 h2 => intro y hy hi; cases y <;> simp only [rnA] at hy <;> cases hy; exact .un k u h1 h2
  | row n lo hi u rr =>
    intro y hy hi
    cases y <;> simp only [rnA] at hy <;> cases hy
    exact .row _ _ _ _ (refRow_told hH (by simpa [inA] using hi) rr)
  | pt n i off u rr =>
    intro y hy hi
    cases y <;> simp only [rnA] at hy <;> cases hy
    exact .pt _ _ _ _ (refPt_told hH (by simpa [inA] using hi) rr)
  | mp n u rr =>
    intro y hy hi
    cases y <;> simp only [rnA] at hy <;> cases hy
    exact .mp _ _ (refMp_told hH (by simpa [inA] using hi) rr)
  | cl f caps cap hs hw hr ih =>
    intro y hy hi
    cases y <;> simp only [rnA] at hy <;> cases hy
    rename_i caps'
    rw [rnP_map] at hs hw hr ih
    simp only [inA] at hi
    refine .cl f caps' cap (by simpa using hs) (fun i x hx => ?_) fun i x j y hx hy => ?_
    · have := hw i (x.1, x.2.map (rnA r)) (by rw [List.getElem?_map, hx]; rfl)
      simpa using this
    · exact ih i (x.1, x.2.map (rnA r)) j (rnA r y) (by rw [List.getElem?_map, hx]; rfl) (by rw [List.getElem?_map, hy]; rfl) rfl (inC_all hs' (inP_all hs' hi x (List.mem_of_getElem? hx)) y (List.mem_of_getElem? hy))
theorem repE_tl (ok : HeapOK h g φ) (o : OutOK fz r hs' g φ out) {x y : A} {u : Value} (hx : tlA fz r g hs' x y) (hi : inA hs' y = true) (rx : RepE h g φ x u) : RepE h (get hs') (ph r hs' g φ out) y u := by
  have cz : ∀ {p : Prop}, cond fz p False → fz = true ∧ p := fun {p} hp => by
    cases fz
    · exact hp.elim
    · exact ⟨rfl, hp⟩
  unfold tlA at hx
  split at hx
  · exact .un _ _ rx.one fun n h => by cases h
  · subst hx
    cases rx with
    | f _ _ rx => exact .f _ _ (rx.less fun b hb => own_ph o.own hb)
  · obtain ⟨hfz, rfl, hp⟩ := cz hx
    cases rx with
    | cl _ _ cap hs hw hr =>
      obtain ⟨h1, h2⟩ := bzP_at hp
      refine .f _ _ (.cl _ _ cap (by rw [hs, h1]) (fun i l hl => ?_) fun i l j y hl hy => ?_)
      · obtain ⟨x, hx, h3, h4⟩ := h2 hl
        have := hw i x hx
        rw [h3, (bzC_at h4).1] at this
        exact this
      · obtain ⟨x, hx, h3, h4⟩ := h2 hl
        obtain ⟨z, hz, h5⟩ := (bzC_at h4).2 hy
        have := hr i x j z hx hz
        rw [h3] at this
        exact bzA_ok ok o hfz h5 this
  · obtain ⟨hfz, hp⟩ := cz hx
    exact .f _ _ (bzA_ok ok o hfz hp rx)
  · rename_i n lo hi2
    obtain ⟨rfl, rfl, hg⟩ := hx
    cases rx with
    | nl a =>
      refine .row _ _ _ _ ⟨rfl, ?_⟩
      rcases ref_told hH (by simpa [inA] using hi) with h0 | ⟨ob', ob, h1, h2, _⟩ | ⟨ob', h1, h2, h3⟩
      · rw [h0]; trivial
      · rw [hg] at h2; cases h2
      · rw [h1]
        refine ⟨Nat.le_refl _, Nat.zero_le _, ?_⟩
        have : (ph r hs' g φ out) (n, []) = none := by simp [ph, h1, h2]
        rw [this]; exact ⟨a, rfl⟩
  · obtain ⟨rfl, hm⟩ := hx
    split at hm
    · rename_i ob hn
      cases rx with
      | row _ _ _ _ rr =>
        obtain ⟨fl, wd, es⟩ := ob
        obtain ⟨_, _, a, cap, rfl⟩ := row_len ok hn (fun e => by rw [e] at hm; cases hm) rr
        exact .un _ _ rfl fun k hk => by cases hk; exact ⟨a, cap, rfl⟩
    · exact hm.elim
  · exact repE_rn hH o rx hx hi
theorem repA_rn (o : OutOK fz r hs' g φ out) (ok : HeapOK h g φ) {n' : Nat} {ob' ob : Ob} (h1 : get hs' n' = some (some ob')) (h2 : g (rn r n') = some (some ob)) : ∀ {X : Place} {x' : A} {u : Value}, RepA h g φ X x' u → X.1 = rn r n' → ∀ {y : A}, x' = rnA r y → inA hs' y = true →
    RepA h (get hs') (ph r hs' g φ out) (n', X.2) y u := by
  intro X x' u rx
  induction rx with
  | e X x u rx => exact fun hX y hy hi => .e _ _ _ (repE_rn hH o rx hy hi)
  | nilo X wd a hw hX0 =>
    intro hX y hy hi
    cases y <;> simp only [rnA, A.ow.injEq, reduceCtorEq] at hy
    rename_i es'
    obtain ⟨rfl, hes⟩ := hy
    have : es' = [] := by rw [rnR_map] at hes; simpa using hes
    subst this
    refine .nilo _ wd a hw ?_
    rw [ph_live h1 h2, ← hX]; exact hX0
  | ow X wd es hd c ty hX0 hb okr hr ih =>
    intro hX y hy hi
    cases y <;> simp only [rnA] at hy <;> cases hy
    rename_i es'
    rw [rnR_map] at okr hr ih
    simp only [inA] at hi
    have e1 : (es'.map (·.map (rnA r))).length = es'.length := by simp
    rw [rnR_map, e1]
    refine .ow _ wd es' hd c ty ?_ hb ⟨okr.wd0, fun e he => ?_, by rw [← e1]; exact okr.le, okr.cap, okr.size, okr.one⟩ fun i e j x hi' hj => ?_
    · rw [ph_live h1 h2, ← hX]; exact hX0
    · have := okr.len (e.map (rnA r)) (List.mem_map.2 ⟨e, he, rfl⟩)
      simpa using this
    · exact ih i (e.map (rnA r)) j (rnA r x) (by rw [List.getElem?_map, hi']; rfl) (by rw [List.getElem?_map, hj]; rfl) hX rfl (inC_all hs' (inR_all hs' hi e (List.mem_of_getElem? hi')) x (List.mem_of_getElem? hj))
theorem repA_tl (o : OutOK fz r hs' g φ out) (ok : HeapOK h g φ) {n' : Nat} {ob' ob : Ob} (h1 : get hs' n' = some (some ob')) (h2 : g (rn r n') = some (some ob)) {q : List (Nat × Nat)} {x y : A} {u : Value} (hx : tlA fz r g hs' x y) (hi : inA hs' y = true) (rx : RepA h g φ (rn r n', q) x u) :
    RepA h (get hs') (ph r hs' g φ out) (n', q) y u := by
  by_cases how : isOw x = true
  · cases x with
    | ow wd es =>
      unfold tlA at hx
      split at hx
      · exact .e _ _ _ (.un _ _ rx.one fun n h => by cases h)
      · rename_i heq; cases heq
      · rename_i heq; cases heq
      · rename_i l
        exfalso
        cases fz <;> exact hx.elim
      · rename_i heq; cases heq
      · rename_i heq; cases heq
      · exact repA_rn hH o ok h1 h2 rx rfl hx hi
    | _ => cases how
  · exact .e _ _ _ (repE_tl hH ok o hx hi (rx.toE (by simpa using how)))
theorem ob_tl (o : OutOK fz r hs' g φ out) (ok : HeapOK h g φ) (hO : hs'.all (fun x => inO hs' x.2) = true) {n' : Nat} {ob' : Ob} (h1 : get hs' n' = some (some ob')) : ObOK h (get hs') (ph r hs' g φ out) n' ob' := by
  rcases ref_told hH (show hasN hs' n' = true by unfold hasN; rw [h1]) with h0 | ⟨ob2, ob, g1, g2, g3, g4, g5, g6⟩ | ⟨ob2, g1, g2, g3, g4, g5⟩
  · rw [h1] at h0; cases h0
  · rw [h1] at g1
    cases g1
    have hin := List.all_eq_true.1 hO _ (get_mem h1)
    have hlen := tlR_len g5
    have a0 := (ok.ob _ _ g2).1
    obtain ⟨g6, g7⟩ := g6
    by_cases h4 : ob.fl = 4
    · have h4' : ob'.fl = 4 := by
        rcases g4 with h | h
        · rw [h4] at h; exact absurd h.2 (by decide)
        · rw [h, h4]
      obtain ⟨hd, es, ck, l, b1, b2, b3⟩ := (ok.ob _ _ g2).2.2 h4
      exact ⟨by rw [← g3]; exact a0, fun h => absurd h4' h, fun _ => ⟨hd, es, ck, l, (ph_live h1 g2 _).trans b1, b2, by rw [← g7 h4']; exact b3⟩⟩
    have h4' : ob'.fl ≠ 4 := by
      rcases g4 with h | h
      · rw [h.1]; decide
      · rw [h]; exact h4
    have g4 : ob'.fl = 0 ∨ ob'.fl = ob.fl := g4.imp (fun h => h.1) id
    have hin := g6 hin
    rcases ((ok.ob _ _ g2).row h4) with ⟨a1, a2⟩ | ⟨hd, c, ty, a1, a2, a3, a4, a5⟩
    · exact obRow (by rw [← g3]; exact a0) h4' (.inl ⟨List.eq_nil_of_length_eq_zero (by rw [← hlen, a1]; rfl), (ph_live h1 g2 _).trans a2⟩)
    · refine obRow (by rw [← g3]; exact a3.wd0) h4' (.inr ⟨hd, c, ty, (ph_live h1 g2 _).trans a1, a2, ⟨by rw [← g3]; exact a3.wd0, fun e he => ?_, by rw [← hlen]; exact a3.le, a3.cap, by rw [← g3]; exact a3.size, a3.one⟩, fun hf => ?_, fun i e j x hi hj => ?_⟩)
      · obtain ⟨i, hi, rfl⟩ := List.mem_iff_getElem.1 he
        obtain ⟨x, hx, h6⟩ := tlR_at g5 (List.getElem?_eq_getElem hi)
        rw [← (tlC_at h6).1, a3.len x (List.mem_of_getElem? hx), g3]
      · rw [← hlen]
        refine a4 ?_
        rcases g4 with h | h
        · exact absurd h hf
        · rw [← h]; exact hf
      · obtain ⟨e0, he0, h6⟩ := tlR_at g5 hi
        obtain ⟨x0, hx0, h7⟩ := (tlC_at h6).2 hj
        rw [← g3]
        exact repA_tl hH o ok h1 g2 h7 (inC_all hs' (inR_all hs' hin e (List.mem_of_getElem? hi)) x (List.mem_of_getElem? hj)) (a5 i e0 j x0 he0 hx0)
  · rw [h1] at g1
    cases g1
    exact obRow g5 (by rw [g4]; decide) (.inl ⟨g3, by simp [ph, h1, g2]⟩)
theorem heap_tl (o : OutOK fz r hs' g φ out) (ok : HeapOK h g φ) (hO : hs'.all (fun x => inO hs' x.2) = true) (hd : nodupB (hs'.map fun x => rn r x.1) = true) : HeapOK h (get hs') (ph r hs' g φ out) := by
  refine ⟨fun n ob hn => ob_tl hH o ok hO hn, fun X hd hX => ok.lt _ _ (ph_some hX).1, fun X hd hX ho => ?_, fun b hb => ok.own_lt (o.own b hb), fun X Y hd1 hd2 hX hY hb => ?_⟩
  · obtain ⟨h1, ob', h2⟩ := ph_some hX
    exact o.no X.1 ob' X.2 hd h2 h1 ho
  · obtain ⟨h1, ob1, h2⟩ := ph_some hX
    obtain ⟨h3, ob2, h4⟩ := ph_some hY
    have := ok.inj _ _ _ _ h1 h3 hb
    simp only [Prod.mk.injEq] at this
    have := nodupB_inj hd (get_mem h2) (get_mem h4) this.1
    exact Prod.ext this (by simp_all)
theorem repC_tl (o : OutOK fz r hs' g φ out) (ok : HeapOK h g φ) : ∀ {xs ys : List A} {us : List Value}, tlC fz r g hs' xs ys → inC hs' ys = true → RepC h g φ xs us → RepC h (get hs') (ph r hs' g φ out) ys us
  | [], [], [], _, _, _ => trivial
  | x :: xs, y :: ys, u :: us, ht, hi, hr => by
    simp only [inC, Bool.and_eq_true] at hi
    exact ⟨repE_tl hH ok o ht.1 hi.1 hr.1, repC_tl o ok ht.2 hi.2 hr.2⟩
  | [], [], _ :: _, _, _, hr => hr.elim
  | _ :: _, _ :: _, [], _, _, hr => hr.elim
  | [], _ :: _, _, ht, _, _ => ht.elim
  | _ :: _, [], _, ht, _, _ => ht.elim
theorem repV_tl (o : OutOK fz r hs' g φ out) (ok : HeapOK h g φ) {ag : Bool} {xs ys : List A} {u : Value} (ht : tlC fz r g hs' xs ys) (hi : inC hs' ys = true) (hr : RepV h g φ ag xs u) : RepV h (get hs') (ph r hs' g φ out) ag ys u := by
  cases ag with
  | true => obtain ⟨c, rfl, hc⟩ := hr; exact ⟨c, rfl, repC_tl hH o ok ht hi hc⟩
  | false =>
    obtain ⟨x, rfl, hx⟩ := hr
    match ys, ht with
    | [y], ht =>
      simp only [inC, Bool.and_true] at hi
      exact ⟨y, rfl, repE_tl hH ok o ht.1 hi hx⟩
    | [], ht => exact ht.elim
    | _ :: _ :: _, ht => exact ht.2.elim
theorem repVs_tl (o : OutOK fz r hs' g φ out) (ok : HeapOK h g φ) : ∀ {xs ys : List (Bool × List A)} {us : List Value}, tlVs fz r g hs' xs ys → inP hs' ys = true → RepVs h g φ xs us → RepVs h (get hs') (ph r hs' g φ out) ys us
  | [], [], [], _, _, _ => trivial
  | x :: xs, (ag, cs) :: ys, u :: us, ht, hi, hr => by
    simp only [inP, Bool.and_eq_true] at hi
    refine ⟨?_, repVs_tl o ok ht.2.2 hi.2 hr.2⟩
    have := repV_tl hH o ok ht.2.1 hi.1 hr.1
    rw [ht.1] at this
    exact this
  | [], [], _ :: _, _, _, hr => hr.elim
  | _ :: _, _ :: _, [], _, _, hr => hr.elim
  | [], _ :: _, _, ht, _, _ => ht.elim
  | _ :: _, [], _, ht, _, _ => ht.elim
theorem repT_tl (o : OutOK fz r hs' g φ out) (ok : HeapOK h g φ) {x y : T} {u : Value} (ht : tlT fz r g hs' x y) (hi : inT hs' y = true) (hr : RepT h g φ x u) : RepT h (get hs') (ph r hs' g φ out) y u := by
  unfold tlT at ht
  split at ht
  · trivial
  · obtain ⟨rfl, ht⟩ := ht
    exact repV_tl hH o ok ht hi hr
  · obtain ⟨us, rfl, hr⟩ := hr
    exact ⟨us, rfl, repVs_tl hH o ok ht hi hr⟩
  · exact ht.elim
end
end Go.Proofs.Ytfafehhallbjiaa.Ac
set_option linter.unusedVariables false
set_option linter.unusedSimpArgs false
namespace Go.Proofs.Ytfafehhallbjiaa.Ac
open Go.RowKit
section
variable {P : Program} {w₀ : World} {H₀ : Hp} {φ₀ : Phi} {N : Nat} {a : Act} {w : World} {fp : List Nat}
theorem SimS.tell {r : List (Nat × Nat)} {es' : Es} {hs' : Hs} {e : Env} {g : Hp} (q : Sub fp r es' hs' e g) (hfp : ∀ n x, H₀ n = some x → n ∈ fp) (s : SimS w₀ H₀ φ₀ N e g a w) : SimS w₀ H₀ φ₀ N (get es') (get hs') a w := by
  obtain ⟨φ, s⟩ := s
  obtain ⟨q1, q2, q3⟩ := q
  simp only [subB, Bool.and_eq_true] at q1
  obtain ⟨⟨⟨a1, a2⟩, a3⟩, a4⟩ := q1
  have o : OutOK true r hs' g φ φ.out := ⟨fun b hb => .inl hb, fun n ob' q hd _ h => s.ok.apart _ hd h, fun _ X hd h => s.ok.apart X hd h⟩
  have hE : ∀ {l : Es}, subE true r g hs' e l → ∀ {t : Nat} {y : T}, (t, y) ∈ l → ∃ x, e t = some x ∧ tlT true r g hs' x y := by
    intro l
    induction l with
    | nil => intro _ t y hm; cases hm
    | cons z l ih =>
      intro hs t y hm
      rcases List.mem_cons.1 hm with rfl | hm
      · have := hs.1
        split at this
        · rename_i x hx; exact ⟨x, hx, this⟩
        · exact this.elim
      · exact ih hs.2 hm
  have fpk : ∀ n x, H₀ n = some x → hasN hs' n = true ∧ rn r n = n := fun n x hx => by
    have := List.all_eq_true.1 a4 n (hfp n x hx)
    simp only [Bool.and_eq_true] at this
    exact ⟨this.1, Nat.eq_of_beq_eq_true this.2⟩
  refine ⟨ph r hs' g φ φ.out, fun t y hy => ?_, s.sz, s.dfr, heap_tl q3 o s.ok a2 a3, ⟨s.turn.out, fun b hb hO => ?_, fun n hn => ?_, fun n ob hn => ?_⟩, s.os, s.tape, s.output, s.size⟩
  · obtain ⟨x, hx, ht⟩ := hE q2 (get_mem hy)
    exact repT_tl q3 o s.ok ht (List.all_eq_true.1 a1 _ (get_mem hy)) (s.env t x hx)
  · obtain ⟨h1, h2⟩ := s.turn.blk0 b hb hO
    refine ⟨?_, h2⟩
    rintro ⟨X, hd, hX, rfl⟩
    exact h1 ⟨_, hd, (ph_some hX).1, rfl⟩
  · have hg := s.turn.dead n hn
    obtain ⟨k1, k2⟩ := fpk n _ hn
    rcases ref_told q3 k1 with h0 | ⟨ob', ob, h1, h2, _⟩ | ⟨ob', h1, h2, _⟩
    · exact h0
    · rw [k2, hg] at h2; cases h2
    · rw [k2, hg] at h2; cases h2
  · obtain ⟨k1, k2⟩ := fpk n _ hn
    rcases ref_told q3 k1 with h0 | ⟨ob', ob2, h1, h2, h3, h4, h5, _⟩ | ⟨ob', h1, h2, _⟩
    · exact .inl h0
    · rcases s.turn.live n ob hn with hd | ⟨ob3, g1, g2, g3, g4⟩
      · rw [k2, hd] at h2; cases h2
      · rw [k2, g1] at h2
        cases h2
        refine .inr ⟨ob', h1, ?_, h3.symm.trans g3, by rw [← tlR_len h5]; exact g4⟩
        have := ph_live (φ := φ) (out := φ.out) h1 (show g (rn r n) = some (some ob2) by rw [k2]; exact g1) []
        rw [this, k2]; exact g2
    · rcases s.turn.live n ob hn with hd | ⟨ob3, g1, _⟩
      · rw [k2, hd] at h2; cases h2
      · rw [k2, g1] at h2; cases h2
def impO (m n i j : Nat) : Out := aliveO n fun fl wd es => aliveO m fun _ wd' ys => elO fl es i fun e => segK e j 1 fun seg => match seg with
  | [.row m' lo len] => cond (Nat.beq m m' && !Nat.beq m n && Nat.beq lo 0) (.ex (fun ys' : List (List A) => ys.take len = ys') fun ys' => spliceK e j [.ow wd' ys'] fun e' => setO fl wd es i e' fun ob => .ok .bot [(n, some ob), (m, none)]) .no
  | _ => .no
def ghK : List (Nat × Nat × Nat × Nat) → Hs → (Hs → Prop) → Prop
  | [], hs, k => k hs
  | (m, n, i, j) :: l, hs, k => (impO m n i j).K true (get hs) [] fun ε => match ε with
    | ⟨_, _, u⟩ => ghK l (u ++ hs) k
theorem imp_step {e : Env} {g : Hp} {φ : Phi} {m n i j : Nat} {k : Eff → Prop} (s : Sim w₀ H₀ φ₀ N e g φ a w) (h : (impO m n i j).K true g [] k) : ∃ ε, k ε ∧ SimS w₀ H₀ φ₀ N e (putH ε.upd g) a w := by
  unfold impO at h
  obtain ⟨fl, wd, es, hn, hf4, h1⟩ := alive_elim h
  obtain ⟨fl', wd', ys, hm, hm4, h2⟩ := alive_elim h1
  obtain ⟨e0, he, h3, h4⟩ := el_elim h2
  obtain ⟨hj, h5⟩ := seg_elim h4
  clear h h1 h2 h4
  have hlt : j < e0.length := by omega
  have e1 : (e0.drop j).take 1 = [e0[j]] := by rw [List.drop_eq_getElem_cons hlt]; rfl
  rw [e1] at h5
  split at h5
  · rename_i m' lo len heq
    have hx : e0[j] = .row m' lo len := by simpa using heq
    obtain ⟨hb, h6⟩ := cond_K h5
    simp only [Bool.and_eq_true, Bool.not_eq_true'] at hb
    have em := Nat.eq_of_beq_eq_true hb.1.1
    have el := Nat.eq_of_beq_eq_true hb.2
    subst em el
    have hmn : n ≠ m := fun e => by subst e; simp at hb
    obtain ⟨ys', rfl, h7⟩ := h6
    obtain ⟨_, h8⟩ := splice_elim h7
    have h9 := set_elim h3 h8
    have ej : e0.take j ++ [.ow wd' (ys.take len)] ++ e0.drop (j + [A.ow wd' (ys.take len)].length) = e0.set j (.ow wd' (ys.take len)) := by
      rw [List.set_eq_take_append_cons_drop, if_pos hlt]; simp
    rw [ej] at h9
    obtain ⟨φ', ok', t', _⟩ := imp_ok s.ok hn hf4 hm hm4 hmn he (show e0[j]? = some (.row m 0 len) by rw [List.getElem?_eq_getElem hlt, hx])
    refine ⟨_, h9, φ', ?_⟩
    dsimp only
    rw [putH_cons, putH_one]
    exact ⟨fun t x hx => (s.env t x hx).mono fun _ _ r => r.turn t', s.sz, s.dfr, ok', s.turn.trans t', s.os, s.tape, s.output, s.size⟩
  · exact h5.elim
theorem gh_ok {e : Env} : ∀ {l : List (Nat × Nat × Nat × Nat)} {hs : Hs} {k : Hs → Prop}, ghK l hs k → SimS w₀ H₀ φ₀ N e (get hs) a w → ∃ hs', k hs' ∧ SimS w₀ H₀ φ₀ N e (get hs') a w
  | [], hs, k, h, s => ⟨hs, h, s⟩
  | (m, n, i, j) :: l, hs, k, h, ⟨φ, s⟩ => by
    obtain ⟨⟨v, rd, u⟩, h1, s1⟩ := imp_step s h
    dsimp only at h1 s1
    rw [putH_get] at s1
    exact gh_ok h1 s1
def Tell (fp : List Nat) (gl : List (Nat × Nat × Nat × Nat)) (r : List (Nat × Nat)) (es' : Es) (hs' : Hs) (es : Es) (hs : Hs) : Prop := ghK gl hs fun hs1 => Sub fp r es' hs' (get es) (get hs1)
theorem SimS.told {gl : List (Nat × Nat × Nat × Nat)} {r : List (Nat × Nat)} {es es' : Es} {hs hs' : Hs} (q : Tell fp gl r es' hs' es hs) (hfp : ∀ n x, H₀ n = some x → n ∈ fp) (s : SimS w₀ H₀ φ₀ N (get es) (get hs) a w) : SimS w₀ H₀ φ₀ N (get es') (get hs') a w := by
  obtain ⟨hs1, h1, s1⟩ := gh_ok q s
  exact s1.tell h1 hfp
end
def RepR (h : Array Obj) (H : Hp) (φ : Phi) : List (Bool × List A) → Value → Prop
  | [x], u => RepV h H φ x.1 x.2 u
  | xs, u => ∃ us, u = .tuple us ∧ RepVs h H φ xs us.toList
def resT : List (Bool × List A) → T
  | [x] => .val x.1 x.2
  | xs => .tu xs
theorem RepR.t {h : Array Obj} {H : Hp} {φ : Phi} : ∀ {xs : List (Bool × List A)} {u : Value}, RepR h H φ xs u → RepT h H φ (resT xs) u
  | [], _, r => r
  | [x], _, r => r
  | _ :: _ :: _, _, r => r
def ClH (hs : Hs) : Prop := ∀ n ob, (n, some ob) ∈ hs → Nat.beq ob.fl 3 = false → clR ob.es
def IsFn (P : Program) (f : FuncId) : Prop := ∃ fn, P.funcs[f]? = some fn ∧ (fn.name == "runtime.NumGoroutine") = false ∧ fn.body.isNone = false
structure GCalls (P : Program) (f : FuncId) (H0 : Hs) (args : List (Bool × List A)) (H1 : Hs) (res : List (Bool × List A)) : Prop where
  isFn : IsFn P f
  cl : ClH H1
  dom : ∀ n, hasN H0 n = true → hasN H1 n = true
  inn : inP H1 res = true ∧ H1.all (fun x => inO H1 x.2) = true
  calls : ∀ (φ : Phi) (w : World) (us : List Value), HeapOK w.heap (get H0) φ → RepVs w.heap (get H0) φ args us → Calls P f us.toArray w fun e w' => ∃ v φ', e = .returned v ∧ RepR w'.heap (get H1) φ' res v ∧ HeapOK w'.heap (get H1) φ' ∧
    Turn w.heap (get H0) φ w'.heap (get H1) φ' ∧ w'.os = w.os ∧ w'.tape = w.tape ∧ w'.output = w.output ∧ w.heap.size ≤ w'.heap.size
def fzL (args : List (Bool × List L)) : List (Bool × List A) := args.map fun x => (x.1, x.2.map .f)
def FC (P : Program) (f : FuncId) (args : List (Bool × List L)) (H1 : Hs) (res : List (Bool × List A)) : Prop := GCalls P f [] (fzL args) H1 res
end Go.Proofs.Ytfafehhallbjiaa.Ac
set_option linter.unusedVariables false
set_option linter.unusedSimpArgs false
namespace Go.Proofs.Ytfafehhallbjiaa.Ac
open Go.RowKit
mutual
/-- A cell in which nothing hangs on memory, but for rows. -/
def plA : A → Prop
  | .f (.v _) => True
  | .f (.sl _ []) => True
  | .f _ => False
  | .nl => True
  | .un _ => True
  | .row _ _ _ => True
  | .pt _ _ _ => True
  | .mp _ => False
  | .ow _ es => plR es
  | .cl _ _ => False
def plC : List A → Prop
  | [] => True
  | x :: l => plA x ∧ plC l
def plR : List (List A) → Prop
  | [] => True
  | e :: l => plC e ∧ plR l
end
def plVs : List (Bool × List A) → Prop
  | [] => True
  | x :: l => plC x.2 ∧ plVs l
def plH : Hs → Prop
  | [] => True
  | (_, some ob) :: l => plR ob.es ∧ plH l
  | (_, none) :: l => plH l
theorem plC_at : ∀ {l : List A}, plC l → ∀ {x : A}, x ∈ l → plA x
  | [], _, _, hx => by cases hx
  | y :: l, h, x, hx => by
    rcases List.mem_cons.1 hx with rfl | hx
    · exact h.1
    · exact plC_at h.2 hx
theorem plR_at : ∀ {l : List (List A)}, plR l → ∀ {x : List A}, x ∈ l → plC x
  | [], _, _, hx => by cases hx
  | y :: l, h, x, hx => by
    rcases List.mem_cons.1 hx with rfl | hx
    · exact h.1
    · exact plR_at h.2 hx
theorem plH_at : ∀ {l : Hs}, plH l → ∀ {n : Nat} {ob : Ob}, (n, some ob) ∈ l → plR ob.es
  | [], _, _, _, hx => by cases hx
  | (m, some o) :: l, h, n, ob, hx => by
    rcases List.mem_cons.1 hx with hx | hx
    · cases hx; exact h.1
    · exact plH_at h.2 hx
  | (m, none) :: l, h, n, ob, hx => by
    rcases List.mem_cons.1 hx with hx | hx
    · cases hx
    · exact plH_at (l := l) h hx
def rnOb (r : List (Nat × Nat)) (o : Option Ob) : Option Ob := o.map fun ob => ⟨ob.fl, ob.wd, rnR r ob.es⟩
def rnH (r : List (Nat × Nat)) (H : Hs) : Hs := H.map fun x => (rn r x.1, rnOb r x.2)
section
variable {P : Program} {fz : Bool} {r r1 : List (Nat × Nat)} {H0 H1 : Hs} {h h' : Array Obj} {g : Hp} {φ φ1 : Phi} {out : Nat → Prop}
structure CallOK (fz : Bool) (r r1 : List (Nat × Nat)) (H0 H1 : Hs) (g : Hp) (φ : Phi) (out : Nat → Prop) : Prop where
  o : OutOK fz r H0 g φ out
  outs : ∀ b, φ.out b → out b
  rest : fz = false → ∀ X hd, φ X = some hd → (∀ n ob, get H0 n = some (some ob) → rn r n ≠ X.1) → out hd.b
  same : ∀ n, hasN H0 n = true → rn r1 n = rn r n
  fresh : ∀ n, hasN H1 n = true → hasN H0 n = false → g (rn r1 n) = none
  inj : nodupB (H1.map fun x => rn r1 x.1) = true
  dom : ∀ n, hasN H0 n = true → hasN H1 n = true
open Classical in
noncomputable def phC (r1 : List (Nat × Nat)) (H1 : Hs) (φ φ1 : Phi) : Phi := ⟨fun X => if hc : ∃ c, hasN H1 c = true ∧ rn r1 c = X.1 then (match get H1 hc.choose with
  | some (some _) => φ1 (hc.choose, X.2)
  | _ => none) else φ X, φ.out⟩
variable (k : CallOK fz r r1 H0 H1 g φ out)
include k
theorem nm_inj {m n : Nat} (hm : hasN H1 m = true) (hn : hasN H1 n = true) (e : rn r1 m = rn r1 n) : m = n := by
  unfold hasN at hm hn
  split at hm
  · rename_i o1 h1
    split at hn
    · rename_i o2 h2
      exact nodupB_inj k.inj (get_mem h1) (get_mem h2) e
    · cases hn
  · cases hm
theorem phC_at {c : Nat} (hc : hasN H1 c = true) (q : List (Nat × Nat)) : (phC r1 H1 φ φ1) (rn r1 c, q) = match get H1 c with
    | some (some _) => φ1 (c, q)
    | _ => none := by
  have ex : ∃ c', hasN H1 c' = true ∧ rn r1 c' = rn r1 c := ⟨c, hc, rfl⟩
  have hch := ex.choose_spec
  have e : ex.choose = c := nm_inj k hch.1 hc hch.2
  simp only [phC, dif_pos ex, e]
omit k in
theorem phC_ne {X : Place} (hX : ∀ c, hasN H1 c = true → rn r1 c ≠ X.1) : (phC r1 H1 φ φ1) X = φ X := by
  have : ¬ ∃ c, hasN H1 c = true ∧ rn r1 c = X.1 := fun ⟨c, h1, h2⟩ => hX c h1 h2
  simp only [phC, dif_neg this]
theorem phC_some {X : Place} {hd : Hd} (hX : (phC r1 H1 φ φ1) X = some hd) : (∃ c ob, get H1 c = some (some ob) ∧ rn r1 c = X.1 ∧ φ1 (c, X.2) = some hd) ∨ ((∀ c, hasN H1 c = true → rn r1 c ≠ X.1) ∧ φ X = some hd) := by
  by_cases hc : ∃ c, hasN H1 c = true ∧ rn r1 c = X.1
  · obtain ⟨c, h1, h2⟩ := hc
    have := phC_at (φ := φ) (φ1 := φ1) k h1 X.2
    rw [h2] at this
    rw [show (phC r1 H1 φ φ1) X = _ from this] at hX
    split at hX
    · rename_i ob hg; exact .inl ⟨c, ob, hg, h2, hX⟩
    · cases hX
  · have hn : ∀ c, hasN H1 c = true → rn r1 c ≠ X.1 := fun c h1 h2 => hc ⟨c, h1, h2⟩
    rw [phC_ne hn] at hX
    exact .inr ⟨hn, hX⟩
omit k in
theorem get_rnH {n : Nat} (hn : ∀ c, hasN H1 c = true → rn r1 c ≠ n) : get (rnH r1 H1) n = none := by
  refine get_none fun hm => ?_
  simp only [rnH, List.map_map] at hm
  obtain ⟨x, hx, e⟩ := List.mem_map.1 hm
  refine hn x.1 ?_ e
  unfold hasN
  cases hg : get H1 x.1 with
  | some _ => rfl
  | none =>
    exfalso
    have : ∀ (l : Hs), x ∈ l → get l x.1 ≠ none := by
      intro l
      induction l with
      | nil => intro h; cases h
      | cons y l ih =>
        intro h
        simp only [get]
        cases hb : Nat.beq y.1 x.1
        · rcases List.mem_cons.1 h with rfl | h
          · simp at hb
          · exact ih h
        · simp
    exact this H1 hx hg
omit k in
theorem get_rnH_at (hinj : nodupB (H1.map fun x => rn r1 x.1) = true) {c : Nat} {o : Option Ob} (hc : get H1 c = some o) : get (rnH r1 H1) (rn r1 c) = some (rnOb r1 o) := by
  have : ∀ (l : Hs), (∀ x ∈ l, x ∈ H1) → get l c = some o → get (rnH r1 l) (rn r1 c) = some (rnOb r1 o) := by
    intro l
    induction l with
    | nil => intro _ h; cases h
    | cons y l ih =>
      intro hl h
      simp only [rnH, List.map_cons, get] at h ⊢
      cases hb : Nat.beq y.1 c
      · rw [hb] at h
        have hne : rn r1 y.1 ≠ rn r1 c := fun e => by
          have := nodupB_inj hinj (hl y List.mem_cons_self) (get_mem hc) e
          rw [this] at hb; simp at hb
        rw [beq_false hne]
        exact ih (fun x hx => hl x (List.mem_cons_of_mem _ hx)) h
      · rw [hb] at h
        have := Nat.eq_of_beq_eq_true hb
        rw [this, Nat.beq_refl]
        simp only [cond_true, Option.some.injEq] at h ⊢
        rw [h]
  exact this H1 (fun x hx => hx) hc
theorem putH_at {c : Nat} {o : Option Ob} (hc : get H1 c = some o) : putH (rnH r1 H1) g (rn r1 c) = some (rnOb r1 o) := by
  simp only [putH, get_rnH_at k.inj hc]
omit k in
theorem putH_off {n : Nat} (hn : ∀ c, hasN H1 c = true → rn r1 c ≠ n) : putH (rnH r1 H1) g n = g n := by
  simp only [putH, get_rnH hn]
omit k in
theorem has_of {c : Nat} {o : Option Ob} (hc : get H1 c = some o) : hasN H1 c = true := by unfold hasN; rw [hc]
variable (ok : HeapOK h g φ) (hH : subH fz r g H0 H0) (ok1 : HeapOK h' (get H1) φ1) (t : Turn h (get H0) (ph r H0 g φ out) h' (get H1) φ1)
include ok hH ok1 t
omit hH ok1 in
theorem off_keep {X : Place} {hd : Hd} (hX : φ X = some hd) (hn : ∀ c, hasN H1 c = true → rn r1 c ≠ X.1) : ¬ Own0 φ1 hd.b ∧ h'[hd.b]? = h[hd.b]? := by
  refine t.blk0 hd.b (ok.lt X hd hX) ?_
  rintro ⟨Y, hd2, hY, hb⟩
  obtain ⟨h1, ob', h2⟩ := ph_some hY
  have := ok.inj _ _ _ _ h1 hX hb
  have h0 : hasN H0 Y.1 = true := by unfold hasN; rw [h2]
  exact hn Y.1 (k.dom _ h0) (by rw [k.same _ h0]; exact congrArg Prod.fst this)
omit ok ok1 in
theorem turnC : Turn h g φ h' (putH (rnH r1 H1) g) (phC r1 H1 φ φ1) := by
  refine ⟨rfl, fun b hb hO => ?_, fun n hn => ?_, fun n ob hn => ?_⟩
  · have hOc : ¬ Own0 (ph r H0 g φ out) b := by
      rintro ⟨X, hd, hX, rfl⟩
      exact hO ⟨_, hd, (ph_some hX).1, rfl⟩
    obtain ⟨h1, h2⟩ := t.blk0 b hb hOc
    refine ⟨?_, h2⟩
    rintro ⟨X, hd, hX, rfl⟩
    rcases phC_some k hX with ⟨c, ob, _, _, h5⟩ | ⟨_, h5⟩
    · exact h1 ⟨_, hd, h5, rfl⟩
    · exact hO ⟨_, hd, h5, rfl⟩
  · by_cases hc : ∃ c, hasN H1 c = true ∧ rn r1 c = n
    · obtain ⟨c, h1, rfl⟩ := hc
      have h0 : hasN H0 c = true := by
        cases h0 : hasN H0 c with
        | true => rfl
        | false => rw [k.fresh c h1 h0] at hn; cases hn
      rw [k.same c h0] at hn
      have hd0 : get H0 c = some none := by
        rcases ref_told hH h0 with h2 | ⟨ob', ob, h2, h3, _⟩ | ⟨ob', h2, h3, _⟩
        · exact h2
        · rw [hn] at h3; cases h3
        · rw [hn] at h3; cases h3
      have := t.dead c hd0
      rw [putH_at k this]; rfl
    · rw [putH_off fun c h1 h2 => hc ⟨c, h1, h2⟩]; exact hn
  · by_cases hc : ∃ c, hasN H1 c = true ∧ rn r1 c = n
    · obtain ⟨c, h1, rfl⟩ := hc
      have h0 : hasN H0 c = true := by
        cases h0 : hasN H0 c with
        | true => rfl
        | false => rw [k.fresh c h1 h0] at hn; cases hn
      rcases ref_told hH h0 with h2 | ⟨ob', ob2, h2, h3, h4, h5, h6, _⟩ | ⟨ob', h2, h3, _⟩
      · have := t.dead c h2
        exact .inl (by rw [putH_at k this]; rfl)
      · rw [← k.same c h0, hn] at h3
        cases h3
        rcases t.live c ob' h2 with hd | ⟨ob'', g1, g2, g3, g4⟩
        · exact .inl (by rw [putH_at k hd]; rfl)
        · refine .inr ⟨_, (putH_at k g1).trans rfl, ?_, g3.trans h4.symm, ?_⟩
          · rw [phC_at k h1, g1]
            dsimp only
            rw [g2, ph_live h2 (by rw [← k.same c h0]; exact hn), k.same c h0]
          · dsimp only
            rw [rnR_map, List.length_map, tlR_len h6]
            exact g4
      · rw [← k.same c h0, hn] at h3; cases h3
    · have hne : ∀ c, hasN H1 c = true → rn r1 c ≠ n := fun c h1 h2 => hc ⟨c, h1, h2⟩
      exact .inr ⟨ob, (putH_off hne).trans hn, phC_ne hne, rfl, Nat.le_refl _⟩
variable (hout : φ1.out = out)
include hout
omit ok hH ok1 t in
theorem own_phC (hfz : fz = false) {b : Nat} (h : Own (phC r1 H1 φ φ1) b) : Own φ1 b := by
  rcases h with h | ⟨X, hd, hX, rfl⟩
  · exact .inl (by rw [hout]; exact k.outs b h)
  · rcases phC_some k hX with ⟨c, ob, _, _, h5⟩ | ⟨h4, h5⟩
    · exact .inr ⟨_, hd, h5, rfl⟩
    · refine .inl ?_
      rw [hout]
      refine k.rest hfz X hd h5 fun n ob hn e => ?_
      have h0 : hasN H0 n = true := by unfold hasN; rw [hn]
      exact h4 n (k.dom n h0) (by rw [k.same n h0]; exact e)
omit ok hH ok1 t in
theorem repL_C {x : L} {u : Value} (hp : fz = true → plA (.f x)) (rx : RepL h' (Own φ1) x u) : RepL h' (Own (phC r1 H1 φ φ1)) x u := by
  cases fz with
  | false => exact rx.less fun b hb => own_phC k hout rfl hb
  | true =>
    have := hp rfl
    cases rx with
    | v _ hx => exact .v _ hx
    | nil wd a cap => exact .nil wd a cap
    | sl wd es b off cap c ty fr hw he =>
      cases es with
      | nil => exact absurd rfl he
      | cons e es => exact this.elim
    | pv => exact this.elim
    | cl => exact this.elim
omit ok hH ok1 t in
theorem repE_C : ∀ {x : A} {u : Value}, RepE h' (get H1) φ1 x u → inA H1 x = true → (fz = true → plA x) → RepE h' (putH (rnH r1 H1) g) (phC r1 H1 φ φ1) (rnA r1 x) u := by
  intro x u rx
  induction rx with
  | f x u rx => exact fun _ hp => .f _ _ (repL_C k hout hp rx)
  | nl a => exact fun _ _ => .nl a
  | un m u h1 h2 => exact fun _ _ => .un m u h1 h2
  | row n lo hi u rr =>
    intro hi' _
    refine .row _ _ _ _ ⟨rr.1, ?_⟩
    have r2 := rr.2
    simp only [inA] at hi'
    unfold hasN at hi'
    split at hi'
    · rename_i o ho
      rw [putH_at k ho]
      rw [ho] at r2
      cases o with
      | none => trivial
      | some ob =>
        dsimp only [rnOb, Option.map_some] at r2 ⊢
        obtain ⟨a1, a2, a3⟩ := r2
        refine ⟨a1, by rw [rnR_map, List.length_map]; exact a2, ?_⟩
        rw [phC_at k (has_of ho), ho]; exact a3
    · cases hi'
  | pt n i off u rr =>
    intro hi' _
    refine .pt _ _ _ _ ⟨rr.1, ?_⟩
    have r2 := rr.2
    simp only [inA] at hi'
    unfold hasN at hi'
    split at hi'
    · rename_i o ho
      rw [putH_at k ho]
      rw [ho] at r2
      cases o with
      | none => trivial
      | some ob =>
        dsimp only [rnOb, Option.map_some] at r2 ⊢
        obtain ⟨hd, a1, a2⟩ := r2
        refine ⟨hd, ?_, a2⟩
        rw [phC_at k (has_of ho), ho]; exact a1
    · cases hi'
  | mp n u rr =>
    intro hi' _
    refine .mp _ _ ⟨rr.1, ?_⟩
    have r2 := rr.2
    simp only [inA] at hi'
    unfold hasN at hi'
    split at hi'
    · rename_i o ho
      rw [putH_at k ho]
      rw [ho] at r2
      cases o with
      | none => trivial
      | some ob =>
        dsimp only [rnOb, Option.map_some] at r2 ⊢
        obtain ⟨hd, a1, a2⟩ := r2
        refine ⟨hd, ?_, a2⟩
        rw [phC_at k (has_of ho), ho]; exact a1
    · cases hi'
  | cl f caps cap hs hw hr ih =>
    intro hi' hp
    simp only [inA] at hi'
    have hfz : fz = false := by
      cases fz with
      | false => rfl
      | true => exact (hp rfl).elim
    refine .cl f (rnP r1 caps) cap (by rw [rnP_map]; simpa using hs) (fun i x hx => ?_) fun i x j y hx hy => ?_
    · rw [rnP_map, List.getElem?_map] at hx
      cases hq : caps[i]? with
      | none => rw [hq] at hx; cases hx
      | some x0 => rw [hq] at hx; cases hx; simpa using hw i x0 hq
    · rw [rnP_map, List.getElem?_map] at hx
      cases hq : caps[i]? with
      | none => rw [hq] at hx; cases hx
      | some x0 =>
        rw [hq] at hx
        cases hx
        rw [List.getElem?_map] at hy
        cases hq2 : x0.2[j]? with
        | none => rw [hq2] at hy; cases hy
        | some y0 =>
          rw [hq2] at hy
          cases hy
          exact ih i x0 j y0 hq hq2 (inC_all H1 (inP_all H1 hi' x0 (List.mem_of_getElem? hq)) y0 (List.mem_of_getElem? hq2)) fun h => by rw [hfz] at h; cases h
omit ok hH ok1 t in
theorem repA_C {c : Nat} {ob0 : Ob} (hc : get H1 c = some (some ob0)) : ∀ {X : Place} {x : A} {u : Value}, RepA h' (get H1) φ1 X x u → X.1 = c → inA H1 x = true → (fz = true → plA x) → RepA h' (putH (rnH r1 H1) g) (phC r1 H1 φ φ1) (rn r1 c, X.2) (rnA r1 x) u := by
  have hat : ∀ q, (phC r1 H1 φ φ1) (rn r1 c, q) = φ1 (c, q) := fun q => by rw [phC_at k (has_of hc), hc]
  intro X x u rx
  induction rx with
  | e X x u rx => exact fun _ hi hp => .e _ _ _ (repE_C k hout rx hi hp)
  | nilo X wd a hw hX => exact fun hX1 _ _ => .nilo _ wd a hw (by rw [hat, ← hX1]; exact hX)
  | ow X wd es hd cc ty hX hb okr hr ih =>
    intro hX1 hi hp
    simp only [inA] at hi
    have e1 : (rnR r1 es).length = es.length := by rw [rnR_map]; simp
    rw [← e1]
    refine .ow _ wd (rnR r1 es) hd cc ty (by rw [hat, ← hX1]; exact hX) hb ⟨okr.wd0, fun e he => ?_, by rw [e1]; exact okr.le, okr.cap, okr.size, okr.one⟩ fun i e j x hi' hj => ?_
    · rw [rnR_map] at he
      obtain ⟨e0, he0, rfl⟩ := List.mem_map.1 he
      simpa using okr.len e0 he0
    · rw [rnR_map, List.getElem?_map] at hi'
      cases hq : es[i]? with
      | none => rw [hq] at hi'; cases hi'
      | some e0 =>
        rw [hq] at hi'
        cases hi'
        rw [List.getElem?_map] at hj
        cases hq2 : e0[j]? with
        | none => rw [hq2] at hj; cases hj
        | some x0 =>
          rw [hq2] at hj
          cases hj
          exact ih i e0 j x0 hq hq2 hX1 (inC_all H1 (inR_all H1 hi e0 (List.mem_of_getElem? hq)) x0 (List.mem_of_getElem? hq2)) fun h => plC_at (plR_at (hp h) (List.mem_of_getElem? hq)) (List.mem_of_getElem? hq2)
theorem heapC (hin : H1.all (fun x => inO H1 x.2) = true) (hcl : ClH H1) (hp : fz = true → plH H1) : HeapOK h' (putH (rnH r1 H1) g) (phC r1 H1 φ φ1) := by
  have tC := turnC k hH t
  have hsz : h.size ≤ h'.size ∨ True := .inr trivial
  refine ⟨fun n ob hn => ?_, fun X hd hX => ?_, fun X hd hX ho => ?_, fun b hb => ?_, fun X Y hd1 hd2 hX hY hb => ?_⟩
  · by_cases hc : ∃ c, hasN H1 c = true ∧ rn r1 c = n
    · obtain ⟨c, h1, rfl⟩ := hc
      unfold hasN at h1
      split at h1
      · rename_i o ho
        rw [putH_at k ho] at hn
        cases o with
        | none => cases hn
        | some ob1 =>
          cases hn
          have hat : ∀ q, (phC r1 H1 φ φ1) (rn r1 c, q) = φ1 (c, q) := fun q => by rw [phC_at k (has_of ho), ho]
          have hin1 : inR H1 ob1.es = true := by
            have := List.all_eq_true.1 hin _ (get_mem ho)
            simp only [inO] at this
            cases hb : Nat.beq ob1.fl 3
            · exact inR_cl H1 (hcl c ob1 (get_mem ho) hb)
            · rw [hb] at this; exact this
          have hob := ok1.ob c ob1 ho
          have e1 : (rnR r1 ob1.es).length = ob1.es.length := by rw [rnR_map]; simp
          refine ⟨hob.1, fun h4 => ?_, fun h4 => ?_⟩
          rotate_left
          · obtain ⟨hd, es, ck, l, b1, b2, b3, b4⟩ := hob.2.2 h4
            exact ⟨hd, es, ck, l, (hat _).trans b1, b2, by dsimp only; rw [b3]; exact rnR_cl r1 (cl_mp l), b4⟩
          rcases (hob.row h4) with ⟨a1, a2⟩ | ⟨hd, cc, ty, a1, a2, a3, a4, a5⟩
          · exact .inl ⟨List.eq_nil_of_length_eq_zero (by dsimp only; rw [e1, a1]; rfl), (hat _).trans a2⟩
          · refine .inr ⟨hd, cc, ty, (hat _).trans a1, a2, ⟨a3.wd0, fun e he => ?_, by dsimp only; rw [e1]; exact a3.le, a3.cap, a3.size, a3.one⟩, fun hf => by dsimp only; rw [e1]; exact a4 hf, fun i e j x hi' hj => ?_⟩
            · dsimp only at he
              rw [rnR_map] at he
              obtain ⟨e0, he0, rfl⟩ := List.mem_map.1 he
              simpa using a3.len e0 he0
            · dsimp only at hi'
              rw [rnR_map, List.getElem?_map] at hi'
              cases hq : ob1.es[i]? with
              | none => rw [hq] at hi'; cases hi'
              | some e0 =>
                rw [hq] at hi'
                cases hi'
                rw [List.getElem?_map] at hj
                cases hq2 : e0[j]? with
                | none => rw [hq2] at hj; cases hj
                | some x0 =>
                  rw [hq2] at hj
                  cases hj
                  exact repA_C k hout ho (a5 i e0 j x0 hq hq2) rfl (inC_all H1 (inR_all H1 hin1 e0 (List.mem_of_getElem? hq)) x0 (List.mem_of_getElem? hq2)) fun h => plC_at (plR_at (plH_at (hp h) (get_mem ho)) (List.mem_of_getElem? hq)) (List.mem_of_getElem? hq2)
      · cases h1
    · have hne : ∀ c, hasN H1 c = true → rn r1 c ≠ n := fun c h1 h2 => hc ⟨c, h1, h2⟩
      rw [putH_off hne] at hn
      exact (ok.ob n ob hn).keep (fun _ _ r => r.turn tC) (fun q => phC_ne hne) fun q hd hq => (off_keep k ok t hq hne).2
  · rcases phC_some k hX with ⟨c, ob, _, _, h5⟩ | ⟨h4, h5⟩
    · exact ok1.lt _ hd h5
    · exact lt_of_same (ok.lt X hd h5) (off_keep k ok t h5 h4).2
  · rcases phC_some k hX with ⟨c, ob, _, _, h5⟩ | ⟨h4, h5⟩
    · exact ok1.apart _ hd h5 (by rw [hout]; exact k.outs _ ho)
    · exact ok.apart _ hd h5 ho
  · have hO0 : ¬ Own0 (ph r H0 g φ out) b := by
      rintro ⟨X, hd, hX, rfl⟩
      exact ok.apart _ hd (ph_some hX).1 hb
    exact lt_of_same (ok.old b hb) (t.blk0 b (ok.old b hb) hO0).2
  · rcases phC_some k hX with ⟨c, ob, g1, g2, g3⟩ | ⟨g2, g3⟩ <;> rcases phC_some k hY with ⟨c', ob', g1', g2', g3'⟩ | ⟨g2', g3'⟩
    · have := ok1.inj _ _ _ _ g3 g3' hb
      simp only [Prod.mk.injEq] at this
      refine Prod.ext ?_ this.2
      rw [← g2, ← g2', this.1]
    · exact absurd ⟨_, hd1, g3, hb⟩ (off_keep k ok t g3' g2').1
    · exact absurd ⟨_, hd2, g3', hb.symm⟩ (off_keep k ok t g3 g2).1
    · exact ok.inj _ _ _ _ g3 g3' hb
end
end Go.Proofs.Ytfafehhallbjiaa.Ac
set_option linter.unusedVariables false
set_option linter.unusedSimpArgs false
namespace Go.Proofs.Ytfafehhallbjiaa.Ac
open Go.RowKit
def rdAll : List Nat → Hs → (Hs → Out) → Out
  | [], acc, κ => κ acc
  | n :: l, acc, κ => .rd n fun o => match o with
    | some o => rdAll l ((n, o) :: acc) κ
    | none => rdAll l acc κ
theorem rdAll_elim {sq : Bool} {g : Hp} {q : Eff → Prop} {κ : Hs → Out} : ∀ (l : List Nat) (acc : Hs) (rs : List Nat), (∀ n, get acc n = none ∨ get acc n = g n) → (rdAll l acc κ).K sq g rs q →
    ∃ loc rs', (κ loc).K sq g rs' q ∧ (∀ n, get loc n = none ∨ get loc n = g n) ∧ (∀ n, get acc n ≠ none → get loc n ≠ none) ∧ ∀ n ∈ l, get loc n = g n
  | [], acc, rs, ha, h => ⟨acc, rs, h, ha, fun _ h => h, fun n hn => by cases hn⟩
  | n :: l, acc, rs, ha, h => by
    simp only [rdAll, Out.K] at h
    split at h
    · rename_i o ho
      have ha' : ∀ m, get ((n, o) :: acc) m = none ∨ get ((n, o) :: acc) m = g m := fun m => by
        simp only [get]
        cases hb : Nat.beq n m
        · exact ha m
        · rw [← Nat.eq_of_beq_eq_true hb, ho]; exact .inr rfl
      obtain ⟨loc, rs', h1, h2, h3, h4⟩ := rdAll_elim l _ _ ha' h
      refine ⟨loc, rs', h1, h2, fun m hm => h3 m ?_, fun m hm => ?_⟩
      · simp only [get]
        cases hb : Nat.beq n m
        · exact hm
        · simp
      · rcases List.mem_cons.1 hm with rfl | hm
        · have : get loc m ≠ none := h3 m (by simp [get])
          exact (h2 m).resolve_left this
        · exact h4 m hm
    · rename_i ho
      obtain ⟨loc, rs', h1, h2, h3, h4⟩ := rdAll_elim l _ _ ha h
      refine ⟨loc, rs', h1, h2, h3, fun m hm => ?_⟩
      rcases List.mem_cons.1 hm with rfl | hm
      · rcases h2 m with h | h
        · rw [h, ho]
        · exact h
      · exact h4 m hm
section
variable {fz : Bool} {r : List (Nat × Nat)} {g1 g : Hp} {hs' : Hs} (hg : ∀ n, g1 n = none ∨ g1 n = g n) (hr : ∀ n, hasN hs' n = true → g1 (rn r n) = g (rn r n))
include hg
theorem up_some {n : Nat} {o : Option Ob} (h : g1 n = some o) : g n = some o := by
  rcases hg n with h' | h'
  · rw [h'] at h; cases h
  · rw [← h']; exact h
theorem gone_up {m : Nat} {ob : Ob} (h : gone r g1 hs' m ob) : gone r g hs' m ob := ⟨up_some hg h.1, h.2⟩
omit hg in
theorem Frz.imp {K K' : Nat → Ob → Prop} (hK : ∀ m ob, K m ob → K' m ob) {x : A} {y : L} (h : Frz K x y) : Frz K' x y := by
  induction h with
  | f x => exact .f x
  | nl wd => exact .nl wd
  | ow wd es ls hlen hl hh ih => exact .ow wd es ls hlen hl ih
  | row m lo hi ob ls hm hlen hl hh ih => exact .row m lo hi ob ls (hK _ _ hm) hlen hl ih
  | pt n i off ob e ls hn hne he hlen hh ih => exact .pt n i off ob e ls (hK _ _ hn) hne he hlen ih
omit hg in
theorem frzC.imp {K K' : Nat → Ob → Prop} (hK : ∀ m ob, K m ob → K' m ob) : ∀ {xs : List A} {ys : List L}, frzC K xs ys → frzC K' xs ys
  | _, [], _ => by unfold frzC; trivial
  | x :: xs, y :: ys, h => ⟨h.1.imp hK, frzC.imp hK h.2⟩
  | [], _ :: _, h => h.elim
theorem FrzN_up {m lo hi wd : Nat} {ls : List (List L)} (h : FrzN r g1 hs' m lo hi wd ls) : FrzN r g hs' m lo hi wd ls := by
  unfold FrzN at h ⊢
  split at h
  · rename_i ob hn
    rw [up_some hg hn]
    obtain ⟨h1, h2, h3, h4⟩ := h
    exact ⟨h1, h2, ⟨h3.1, h3.2.1, fun i e l j x y a b c d => (h3.2.2 i e l j x y a b c d).imp fun m ob => gone_up hg⟩, h4⟩
  · exact h.elim
theorem FrzP_up {n i off : Nat} {ls : List L} (h : FrzP r g1 hs' n i off ls) : FrzP r g hs' n i off ls := by
  unfold FrzP at h ⊢
  split at h
  · rename_i ob hn
    rw [up_some hg hn]
    obtain ⟨h1, h2, ⟨e, h3, h4⟩, h5⟩ := h
    exact ⟨h1, h2, ⟨e, h3, h4.imp fun m ob => gone_up hg⟩, h5⟩
  · exact h.elim
theorem bzA_up {x : A} {l : L} (h : bzA r g1 hs' x l) : bzA r g hs' x l := by
  unfold bzA at h ⊢
  split at h
  · exact h
  · exact h
  · exact FrzN_up hg h
  · exact FrzP_up hg h
  · exact h.elim
theorem bzC_up : ∀ {xs : List A} {ls : List L}, bzC r g1 hs' xs ls → bzC r g hs' xs ls
  | [], [], _ => trivial
  | _ :: _, _ :: _, h => ⟨bzA_up hg h.1, bzC_up h.2⟩
  | [], _ :: _, h => h.elim
  | _ :: _, [], h => h.elim
theorem bzP_up : ∀ {xs : List (Bool × List A)} {ls : List (Bool × List L)}, bzP r g1 hs' xs ls → bzP r g hs' xs ls
  | [], [], _ => trivial
  | _ :: _, _ :: _, h => ⟨h.1, bzC_up hg h.2.1, bzP_up h.2.2⟩
  | [], _ :: _, h => h.elim
  | _ :: _, [], h => h.elim
include hr
theorem tlA_up {x y : A} (hi : inA hs' y = true) (h : tlA fz r g1 hs' x y) : tlA fz r g hs' x y := by
  have cz : ∀ {p q : Prop}, (p → q) → cond fz p False → cond fz q False := fun {p q} hpq hp => by
    cases fz
    · exact hp
    · exact hpq hp
  unfold tlA at h ⊢
  split at h
  · trivial
  · exact h
  · exact cz (fun h => ⟨h.1, bzP_up hg h.2⟩) h
  · exact cz (bzA_up hg) h
  · obtain ⟨h1, h2, h3⟩ := h
    exact ⟨h1, h2, (hr _ (by simpa [inA] using hi)).symm.trans h3⟩
  · obtain ⟨h1, h2⟩ := h
    refine ⟨h1, ?_⟩
    split at h2
    · rename_i ob hn; rw [up_some hg hn]; trivial
    · exact h2.elim
  · exact h
theorem tlC_up : ∀ {xs ys : List A}, inC hs' ys = true → tlC fz r g1 hs' xs ys → tlC fz r g hs' xs ys
  | [], [], _, _ => trivial
  | x :: xs, y :: ys, hi, h => by
    simp only [inC, Bool.and_eq_true] at hi
    exact ⟨tlA_up hg hr hi.1 h.1, tlC_up hi.2 h.2⟩
  | [], _ :: _, _, h => h.elim
  | _ :: _, [], _, h => h.elim
theorem tlR_up : ∀ {xs ys : List (List A)}, inR hs' ys = true → tlR fz r g1 hs' xs ys → tlR fz r g hs' xs ys
  | [], [], _, _ => trivial
  | x :: xs, y :: ys, hi, h => by
    simp only [inR, Bool.and_eq_true] at hi
    exact ⟨tlC_up hg hr hi.1 h.1, tlR_up hi.2 h.2⟩
  | [], _ :: _, _, h => h.elim
  | _ :: _, [], _, h => h.elim
theorem tlO_up {n : Nat} {o : Option Ob} (hn : hasN hs' n = true) (hi : inO hs' o = true) (h : tlO fz r g1 hs' n o) : tlO fz r g hs' n o := by
  unfold tlO at h ⊢
  cases o with
  | none => trivial
  | some ob' =>
    dsimp only at h ⊢
    rw [← hr n hn]
    split at h
    · rename_i ob hg'
      refine ⟨h.1, h.2.1, ?_⟩
      have h2 := h.2.2
      dsimp only [inO] at hi
      cases hb : Nat.beq ob'.fl 3
      · rw [hb] at h2; exact h2
      · rw [hb] at h2 hi; exact tlR_up hg hr hi h2
    · exact h.elim
    · exact h
theorem subH_up (hO : hs'.all (fun x => inO hs' x.2) = true) : ∀ (l : Hs), (∀ x ∈ l, x ∈ hs') → subH fz r g1 hs' l → subH fz r g hs' l
  | [], _, _ => trivial
  | (n, o) :: l, hl, h => by
    refine ⟨?_, subH_up hO l (fun x hx => hl x (List.mem_cons_of_mem _ hx)) h.2⟩
    have hm := hl _ List.mem_cons_self
    refine tlO_up hg hr ?_ (List.all_eq_true.1 hO _ hm) h.1
    unfold hasN
    cases hgt : get hs' n with
    | some _ => rfl
    | none =>
      exfalso
      have : ∀ (l : Hs), (n, o) ∈ l → get l n ≠ none := by
        intro l
        induction l with
        | nil => intro h; cases h
        | cons y l ih =>
          intro h
          simp only [get]
          cases hb : Nat.beq y.1 n
          · rcases List.mem_cons.1 h with rfl | h
            · simp at hb
            · exact ih h
          · simp
      exact this hs' hm hgt
end
def tlTs (fz : Bool) (r : List (Nat × Nat)) (g : Hp) (hs' : Hs) : List T → List (Bool × List A) → Prop
  | [], [] => True
  | .val ag cs :: xs, y :: ys => ag = y.1 ∧ tlC fz r g hs' cs y.2 ∧ tlTs fz r g hs' xs ys
  | _, _ => False
structure CallD where
  fz : Bool
  r : List (Nat × Nat)
  H0 : Hs
  args : List (Bool × List A)
  H1 : Hs
  res : List (Bool × List A)
def nmL (d : Nat) (H0 : Hs) (r : List (Nat × Nat)) (H1 : Hs) : List (Nat × Nat) := H1.map fun x => (x.1, cond (hasN H0 x.1) (rn r x.1) (16 * (d + 1) + (x.1 - 1000)))
def frK : List Nat → Out → Out
  | [], o => o
  | n :: l, o => .rd n fun x => match x with
    | none => frK l o
    | some _ => .no
mutual
def rnAK {β : Type} (r : List (Nat × Nat)) : A → (A → Out) → Out
  | .f x, κ => κ (.f x)
  | .nl, κ => κ .nl
  | .un k, κ => κ (.un k)
  | .row n lo hi, κ => κ (.row (rn r n) lo hi)
  | .pt n i off, κ => κ (.pt (rn r n) i off)
  | .mp n, κ => κ (.mp (rn r n))
  | .ow wd es, κ => κ (.ow wd (rnR r es))
  | .cl f caps, κ => κ (.cl f (rnP r caps))
end
def rnCK (r : List (Nat × Nat)) : List A → (List A → Out) → Out
  | [], κ => κ []
  | x :: l, κ => rnAK (β := Unit) r x fun y => rnCK r l fun ys => κ (y :: ys)
def rnVK (r : List (Nat × Nat)) : List (Bool × List A) → (List (Bool × List A) → Out) → Out
  | [], κ => κ []
  | (ag, cs) :: l, κ => rnCK r cs fun cs => rnVK r l fun l => κ ((ag, cs) :: l)
def rnHK (r : List (Nat × Nat)) : Hs → (Hs → Out) → Out
  | [], κ => κ []
  | (n, none) :: l, κ => rnHK r l fun l => κ ((rn r n, none) :: l)
  | (n, some ⟨fl, wd, es⟩) :: l, κ => cond (Nat.beq fl 3) (match es with
    | [e] => rnCK r e fun e => rnHK r l fun l => κ ((rn r n, some ⟨fl, wd, [e]⟩) :: l)
    | _ => .no) (rnHK r l fun l => κ ((rn r n, some ⟨fl, wd, es⟩) :: l))
def resO (d : Nat) (H0 : Hs) (r : List (Nat × Nat)) (H1 : Hs) (res : List (Bool × List A)) : Out := cond (nodupB ((nmL d H0 r H1).map (·.2))) (frK ((H1.filter fun x => !hasN H0 x.1).map fun x => 16 * (d + 1) + (x.1 - 1000)) (rnVK (nmL d H0 r H1) res fun res => rnHK (nmL d H0 r H1) H1 fun u => .ok (resT res) u)) .no
def nmA : A → List Nat
  | .row n _ _ => [n]
  | .pt n _ _ => [n]
  | .mp n => [n]
  | .cl _ caps => go caps
  | _ => []
where
  go : List (Bool × List A) → List Nat
    | [] => []
    | (_, cs) :: l => goC cs ++ go l
  goC : List A → List Nat
    | [] => []
    | .row n _ _ :: l => n :: goC l
    | .pt n _ _ :: l => n :: goC l
    | .mp n :: l => n :: goC l
    | _ :: l => goC l
def nmTs : List T → List Nat
  | [] => []
  | .val _ cs :: l => cs.flatMap nmA ++ nmTs l
  | _ :: l => nmTs l
def fzCO : List A → Option (List L)
  | [] => some []
  | .f x :: l => match fzCO l with
    | some r => some (x :: r)
    | none => none
  | _ :: _ => none
def fzTs : List T → Option (List (Bool × List L))
  | [] => some []
  | .val ag cs :: l => match fzCO cs, fzTs l with
    | some c, some r => some ((ag, c) :: r)
    | _, _ => none
  | _ :: _ => none
def callO (P : Program) (f : FuncId) (d : Nat) (vals : List T) : Out := match fzTs vals with
  | some args => .ex (α := Hs × List (Bool × List A)) (fun x => FC P f args x.1 x.2) fun x => resO d [] [] x.1 x.2
  | none => .ex (α := CallD) (fun c => GCalls P f c.H0 c.args c.H1 c.res) fun c => match c with
    | ⟨fz, r, H0, args, H1, res⟩ => cond (inP H0 args && H0.all (fun x => inO H0 x.2) && nodupB (H0.map fun x => rn r x.1)) (rdAll (nmTs vals ++ H0.map fun x => rn r x.1) [] fun loc =>
      .con (tlTs fz r (get loc) H0 vals args ∧ subH fz r (get loc) H0 H0 ∧ cond fz (plVs res ∧ plH H1) True) (resO d H0 r H1 res)) .no
end Go.Proofs.Ytfafehhallbjiaa.Ac
set_option linter.unusedVariables false
set_option linter.unusedSimpArgs false
namespace Go.Proofs.Ytfafehhallbjiaa.Ac
open Go.RowKit
section
variable {P : Program} {tb : Tab} {w₀ : World} {H₀ : Hp} {φ₀ : Phi} {N : Nat} {e : Env} {g : Hp} {φ : Phi} {a : Act} {w : World} {K : Act → World → Prop} {Q : Exit → Act → World → Prop}
theorem fr_elim {sq : Bool} {q : Eff → Prop} {o : Out} : ∀ {l : List Nat} {rs : List Nat}, (frK l o).K sq g rs q → (∀ n ∈ l, g n = none) ∧ ∃ rs', o.K sq g rs' q
  | [], rs, h => ⟨fun n hn => (by cases hn), rs, h⟩
  | n :: l, rs, h => by
    simp only [frK, Out.K] at h
    split at h
    · rename_i hn
      obtain ⟨h1, h2⟩ := fr_elim h
      refine ⟨fun m hm => ?_, h2⟩
      rcases List.mem_cons.1 hm with rfl | hm
      · exact hn
      · exact h1 m hm
    · exact h.elim
theorem rnAK_eq {β : Type} {r : List (Nat × Nat)} {x : A} {κ : A → Out} : rnAK (β := β) r x κ = κ (rnA r x) := by cases x <;> rfl
theorem rnCK_eq {r : List (Nat × Nat)} : ∀ {l : List A} {κ : List A → Out}, rnCK r l κ = κ (rnC r l)
  | [], κ => rfl
  | x :: l, κ => by rw [rnCK, rnAK_eq, rnCK_eq]; rfl
theorem rnVK_eq {r : List (Nat × Nat)} : ∀ {l : List (Bool × List A)} {κ : List (Bool × List A) → Out}, rnVK r l κ = κ (rnP r l)
  | [], κ => rfl
  | (ag, cs) :: l, κ => by rw [rnVK, rnCK_eq, rnVK_eq]; rfl
theorem rnHK_elim {sq : Bool} {q : Eff → Prop} {r : List (Nat × Nat)} : ∀ {H : Hs} {κ : Hs → Out} {rs : List Nat}, ClH H → (rnHK r H κ).K sq g rs q → (κ (rnH r H)).K sq g rs q
  | [], κ, rs, _, h => h
  | (n, none) :: l, κ, rs, hc, h => rnHK_elim (H := l) (κ := fun l => κ ((rn r n, none) :: l)) (fun m ob hm => hc m ob (List.mem_cons_of_mem _ hm)) h
  | (n, some ⟨fl, wd, es⟩) :: l, κ, rs, hc, h => by
    have hc' : ClH l := fun m ob hm => hc m ob (List.mem_cons_of_mem _ hm)
    simp only [rnHK] at h
    cases hb : Nat.beq fl 3
    · rw [hb] at h
      have h2 := rnHK_elim (H := l) (κ := fun l => κ ((rn r n, some ⟨fl, wd, es⟩) :: l)) hc' h
      have hcl := hc n _ List.mem_cons_self hb
      simp only [rnH, List.map_cons, rnOb, Option.map_some]
      rw [rnR_cl r hcl]
      exact h2
    · rw [hb] at h
      dsimp only [cond_true] at h
      split at h
      · rename_i e0
        rw [rnCK_eq] at h
        exact rnHK_elim (H := l) (κ := fun l => κ ((rn r n, some ⟨fl, wd, [rnC r e0]⟩) :: l)) hc' h
      · exact h.elim
theorem fzCO_eq : ∀ {cs : List A} {c : List L}, fzCO cs = some c → cs = c.map .f
  | [], c, h => by cases h; rfl
  | .f x :: l, c, h => by
    simp only [fzCO] at h
    split at h
    · rename_i r hr; cases h; rw [fzCO_eq hr]; rfl
    · cases h
  | .nl :: _, _, h => by cases h
  | .un _ :: _, _, h => by cases h
  | .row .. :: _, _, h => by cases h
  | .pt .. :: _, _, h => by cases h
  | .mp .. :: _, _, h => by cases h
  | .ow .. :: _, _, h => by cases h
  | .cl .. :: _, _, h => by cases h
theorem fzTs_eq : ∀ {vs : List T} {c : List (Bool × List L)}, fzTs vs = some c → vs = (fzL c).map fun x => .val x.1 x.2
  | [], c, h => by cases h; rfl
  | .val ag cs :: l, c, h => by
    simp only [fzTs] at h
    split at h
    · rename_i c1 c2 h1 h2; cases h; rw [fzCO_eq h1, fzTs_eq h2]; rfl
    · cases h
  | .tu _ :: _, _, h => by cases h
  | .bot :: _, _, h => by cases h
def RepTs (h : Array Obj) (H : Hp) (φ : Phi) : List T → List Value → Prop
  | [], [] => True
  | x :: xs, u :: us => RepT h H φ x u ∧ RepTs h H φ xs us
  | _, _ => False
theorem RepTs.tl {fz : Bool} {r : List (Nat × Nat)} {H0 : Hs} {out : Nat → Prop} (hH : subH fz r g H0 H0) (o : OutOK fz r H0 g φ out) (ok : HeapOK w.heap g φ) : ∀ {vs : List T} {ys : List (Bool × List A)} {us : List Value}, tlTs fz r g H0 vs ys → inP H0 ys = true → RepTs w.heap g φ vs us → RepVs w.heap (get H0) (ph r H0 g φ out) ys us
  | [], [], [], _, _, _ => trivial
  | .val ag cs :: vs, (ag', cs') :: ys, u :: us, ht, hi, hr => by
    simp only [inP, Bool.and_eq_true] at hi
    obtain ⟨h1, h2, h3⟩ := ht
    dsimp only at h1 h2
    subst h1
    exact ⟨repV_tl hH o ok h2 hi.1 hr.1, RepTs.tl hH o ok h3 hi.2 hr.2⟩
  | [], [], _ :: _, _, _, hr => hr.elim
  | _ :: _, _ :: _, [], _, _, hr => hr.elim
  | [], _ :: _, _, ht, _, _ => ht.elim
  | .val _ _ :: _, [], _, ht, _, _ => ht.elim
  | .tu _ :: _, _, _ :: _, ht, _, _ => ht.elim
  | .bot :: _, _, _ :: _, ht, _, _ => ht.elim
theorem gcall (s : Sim w₀ H₀ φ₀ N e g φ a w) {f : FuncId} {H0 H1 : Hs} {args res : List (Bool × List A)} (hc : GCalls P f H0 args H1 res) {fz : Bool} {r : List (Nat × Nat)} {vals : List T} {us : List Value} (hv : RepTs w.heap g φ vals us) (ht : tlTs fz r g H0 vals args) (hH : subH fz r g H0 H0)
    (hpl : fz = true → plVs res ∧ plH H1) (hi : inP H0 args = true) (hO : H0.all (fun x => inO H0 x.2) = true) (hnd : nodupB (H0.map fun x => rn r x.1) = true) {d : Nat} {rs : List Nat} {k : Eff → Prop} (h : (resO d H0 r H1 res).K true g rs k) :
    Calls P f us.toArray w fun e' w' => ∃ v, e' = .returned v ∧ ∃ ε, k ε ∧ ∃ φ', RepT w'.heap (putH ε.upd g) φ' ε.val v ∧ HeapOK w'.heap (putH ε.upd g) φ' ∧ Turn w.heap g φ w'.heap (putH ε.upd g) φ' ∧ w'.os = w.os ∧ w'.tape = w.tape ∧ w'.output = w.output ∧ w.heap.size ≤ w'.heap.size := by
  unfold resO at h
  obtain ⟨h0, h1⟩ := cond_K h
  obtain ⟨hfr, rs', h2⟩ := fr_elim h1
  rw [rnVK_eq] at h2
  have h3 := rnHK_elim hc.cl h2
  clear h h1 h2
  let out : Nat → Prop := match fz with
    | true => φ.out
    | false => fun b => Own φ b ∧ ∀ n ob q hd, get H0 n = some (some ob) → φ (rn r n, q) = some hd → hd.b ≠ b
  have houts : ∀ b, φ.out b → out b := by
    intro b hb
    cases fz with
    | true => exact hb
    | false => exact ⟨.inl hb, fun n ob q hd _ hq e => s.ok.apart _ hd hq (e ▸ hb)⟩
  have o : OutOK fz r H0 g φ out := by
    refine ⟨fun b hb => ?_, fun n ob' q hd hn hq hb => ?_, fun hz X hd hX hb => ?_⟩
    · cases fz with
      | true => exact .inl hb
      | false => exact hb.1
    · cases fz with
      | true => exact s.ok.apart _ hd hq hb
      | false => exact hb.2 n ob' q hd hn hq rfl
    · subst hz; exact s.ok.apart X hd hX hb
  have hnm : ∀ c, hasN H1 c = true → rn (nmL d H0 r H1) c = cond (hasN H0 c) (rn r c) (16 * (d + 1) + (c - 1000)) := by
    intro c hcn
    have : ∀ (l : Hs), hasN l c = true → get (nmL d H0 r l) c = some (cond (hasN H0 c) (rn r c) (16 * (d + 1) + (c - 1000))) := by
      intro l
      induction l with
      | nil => intro h; simp [hasN, get] at h
      | cons y l ih =>
        intro hl
        simp only [nmL, List.map_cons, get]
        cases hb : Nat.beq y.1 c
        · refine ih ?_
          simp only [hasN, get, hb, cond_false] at hl
          exact hl
        · rw [Nat.eq_of_beq_eq_true hb]; rfl
    simp only [rn, this H1 hcn, Option.getD_some]
  have hinj : nodupB (H1.map fun x => rn (nmL d H0 r H1) x.1) = true := by
    have : (H1.map fun x => rn (nmL d H0 r H1) x.1) = (nmL d H0 r H1).map (·.2) := by
      simp only [nmL, List.map_map]
      refine List.map_congr_left fun x hx => ?_
      have hx1 : hasN H1 x.1 = true := by
        unfold hasN
        cases hgt : get H1 x.1 with
        | some _ => rfl
        | none =>
          exfalso
          have : ∀ (l : Hs), x ∈ l → get l x.1 ≠ none := by
            intro l
            induction l with
            | nil => intro h; cases h
            | cons y l ih =>
              intro h
              simp only [get]
              cases hb : Nat.beq y.1 x.1
              · rcases List.mem_cons.1 h with rfl | h
                · simp at hb
                · exact ih h
              · simp
          exact this H1 hx hgt
      exact hnm x.1 hx1
    rw [this]; exact h0
  have kk : CallOK fz r (nmL d H0 r H1) H0 H1 g φ out := by
    refine ⟨o, houts, fun hz X hd hX hn => ?_, fun n hn => ?_, fun n hn hn0 => ?_, hinj, hc.dom⟩
    · subst hz
      refine ⟨.inr ⟨X, hd, hX, rfl⟩, fun n ob q hd' hn' hq e => hn n ob hn' ?_⟩
      exact congrArg Prod.fst (s.ok.inj _ _ _ _ hq hX e)
    · rw [hnm n (hc.dom n hn), hn]; rfl
    · rw [hnm n hn, hn0]
      refine hfr _ ?_
      unfold hasN at hn
      split at hn
      · rename_i x hx
        exact List.mem_map.2 ⟨(n, x), List.mem_filter.2 ⟨get_mem hx, by rw [hn0]; rfl⟩, rfl⟩
      · cases hn
  have hheap := heap_tl hH o s.ok hO hnd
  have hargs := RepTs.tl hH o s.ok ht hi hv
  refine (hc.calls _ w us hheap hargs).mono ?_
  rintro e' w' ⟨v, φ1, rfl, hr, ok1, t, a1, a2, a3, a4⟩
  have hout : φ1.out = out := t.out
  have okC := heapC kk s.ok hH ok1 t hout hc.inn.2 hc.cl fun hz => (hpl hz).2
  have tC := turnC kk hH t
  refine ⟨v, rfl, _, h3, _, ?_, okC, tC, a1, a2, a3, a4⟩
  dsimp only
  have key : ∀ {xs : List (Bool × List A)} {us : List Value}, inP H1 xs = true → (fz = true → plVs xs) → RepVs w'.heap (get H1) φ1 xs us → RepVs w'.heap (putH (rnH (nmL d H0 r H1) H1) g) (phC (nmL d H0 r H1) H1 φ φ1) (rnP (nmL d H0 r H1) xs) us := by
    intro xs
    induction xs with
    | nil => intro us _ _ hr; cases us with
      | nil => trivial
      | cons _ _ => exact hr.elim
    | cons x xs ih =>
      intro us hi hp hr
      obtain ⟨ag, cs⟩ := x
      cases us with
      | nil => exact hr.elim
      | cons u us =>
        simp only [inP, Bool.and_eq_true] at hi
        refine ⟨?_, ih hi.2 (fun hz => (hp hz).2) hr.2⟩
        have hcell : ∀ {cs : List A} {us : List Value}, inC H1 cs = true → (fz = true → plC cs) → RepC w'.heap (get H1) φ1 cs us → RepC w'.heap (putH (rnH (nmL d H0 r H1) H1) g) (phC (nmL d H0 r H1) H1 φ φ1) (rnC (nmL d H0 r H1) cs) us := by
          intro cs
          induction cs with
          | nil => intro us _ _ hr; cases us with
            | nil => trivial
            | cons _ _ => exact hr.elim
          | cons y cs ih2 =>
            intro us hi hp hr
            cases us with
            | nil => exact hr.elim
            | cons u us =>
              simp only [inC, Bool.and_eq_true] at hi
              exact ⟨repE_C kk hout hr.1 hi.1 fun hz => (hp hz).1, ih2 hi.2 (fun hz => (hp hz).2) hr.2⟩
        have hr1 := hr.1
        dsimp only at hr1
        cases ag with
        | true => obtain ⟨c, rfl, hc2⟩ := hr1; exact ⟨c, rfl, hcell hi.1 (fun hz => (hp hz).1) hc2⟩
        | false =>
          obtain ⟨y, rfl, hy⟩ := hr1
          simp only [inC, Bool.and_true] at hi
          exact ⟨_, rfl, repE_C kk hout hy hi.1 fun hz => (hp hz).1.1⟩
  match res, hr, hpl, hc.inn.1 with
  | [], hr, hpl, hin =>
    obtain ⟨us', hv', hr2⟩ := hr
    exact ⟨us', hv', key (xs := []) hin (fun hz => (hpl hz).1) hr2⟩
  | [x], hr, hpl, hin =>
    obtain ⟨ag, cs⟩ := x
    have := key (xs := [(ag, cs)]) (us := [v]) hin (fun hz => (hpl hz).1) ⟨hr, trivial⟩
    exact this.1
  | x :: y :: xs, hr, hpl, hin =>
    obtain ⟨us', rfl, hr⟩ := hr
    obtain ⟨ag, cs⟩ := x
    obtain ⟨ag', cs'⟩ := y
    exact ⟨us', rfl, key hin (fun hz => (hpl hz).1) hr⟩
theorem callO_calls (s : Sim w₀ H₀ φ₀ N e g φ a w) {f : FuncId} {d : Nat} {vals : List T} {us : List Value} (hv : RepTs w.heap g φ vals us) {rs : List Nat} {k : Eff → Prop} (h : (callO P f d vals).K true g rs k) :
    IsFn P f ∧ Calls P f us.toArray w fun e' w' => ∃ v, e' = .returned v ∧ ∃ ε, k ε ∧ ∃ φ', RepT w'.heap (putH ε.upd g) φ' ε.val v ∧ HeapOK w'.heap (putH ε.upd g) φ' ∧ Turn w.heap g φ w'.heap (putH ε.upd g) φ' ∧ w'.os = w.os ∧ w'.tape = w.tape ∧ w'.output = w.output ∧ w.heap.size ≤ w'.heap.size := by
  unfold callO at h
  split at h
  · rename_i args hargs
    obtain ⟨⟨H1, res⟩, hc, h⟩ := h
    have hvals := fzTs_eq hargs
    refine ⟨hc.isFn, gcall s hc (fz := false) (r := []) hv ?_ trivial (fun h => by cases h) ?_ rfl rfl h⟩
    · rw [hvals]
      have key : ∀ (l : List (Bool × List L)), tlTs false [] g [] ((fzL l).map fun x => .val x.1 x.2) (fzL l) := by
        intro l
        induction l with
        | nil => trivial
        | cons x l ih =>
          refine ⟨rfl, ?_, ih⟩
          have : ∀ (c : List L), tlC false [] g [] (c.map .f) (c.map .f) := by
            intro c
            induction c with
            | nil => trivial
            | cons y c ih => exact ⟨rfl, ih⟩
          exact this x.2
      exact key args
    · have key : ∀ (l : List (Bool × List L)), inP [] (fzL l) = true := by
        intro l
        induction l with
        | nil => rfl
        | cons x l ih =>
          have : ∀ (c : List L), inC [] (c.map .f) = true := by
            intro c
            induction c with
            | nil => rfl
            | cons y c ih => simp only [List.map_cons, inC, inA, Bool.true_and]; exact ih
          simp only [fzL, List.map_cons, inP, this, Bool.true_and]
          exact ih
      exact key args
  · obtain ⟨⟨fz, r, H0, args, H1, res⟩, hc, h⟩ := h
    dsimp only at hc h
    obtain ⟨h0, h⟩ := cond_K h
    simp only [Bool.and_eq_true] at h0
    obtain ⟨⟨h01, h02⟩, h03⟩ := h0
    obtain ⟨loc, rs', h, g1, _, g2⟩ := rdAll_elim _ _ _ (fun n => .inl rfl) h
    obtain ⟨⟨h1, h2, h3⟩, h⟩ := h
    have hr : ∀ n, hasN H0 n = true → get loc (rn r n) = g (rn r n) := by
      intro n hn
      refine g2 _ (List.mem_append_right _ ?_)
      unfold hasN at hn
      split at hn
      · rename_i x hx
        exact List.mem_map.2 ⟨(n, x), get_mem hx, rfl⟩
      · cases hn
    refine ⟨hc.isFn, gcall s hc hv ?_ (subH_up g1 hr h02 H0 (fun x hx => hx) h2) (fun hz => by subst hz; exact h3) h01 h02 h03 h⟩
    have key : ∀ {vs : List T} {ys : List (Bool × List A)}, inP H0 ys = true → tlTs fz r (get loc) H0 vs ys → tlTs fz r g H0 vs ys := by
      intro vs
      induction vs with
      | nil =>
        intro ys _ h
        cases ys with
        | nil => trivial
        | cons _ _ => exact h.elim
      | cons v vs ih =>
        intro ys hi h
        cases v with
        | val ag cs =>
          cases ys with
          | nil => exact h.elim
          | cons y ys =>
            obtain ⟨ag', cs'⟩ := y
            simp only [inP, Bool.and_eq_true] at hi
            exact ⟨h.1, tlC_up g1 hr hi.1 h.2.1, ih hi.2 h.2.2⟩
        | tu _ => exact h.elim
        | bot => exact h.elim
    exact key h01 h1
def fnO (P : Program) (d : Nat) (fv : T) (vals : List T) : Out := match fv with
  | .val false [.f (.cl f ls)] => callO P f d (vals ++ ls.map fun x => .val x.1 (x.2.map .f))
  | .val false [.cl f caps] => callO P f d (vals ++ caps.map fun x => .val x.1 x.2)
  | _ => .no
def callee (o : Op) : Option (Operand × Array Operand) := match o with
  | .call { callee := .value x, args, .. } => some (x, args)
  | _ => none
def actO (P : Program) (tb : Tab) (o : Op) (d : Nat) (ρ : Operand → T) : Out := match callee o with
  | some (x, args) => fnO P d (ρ x) (args.toList.map ρ)
  | none => opO tb o d ρ
theorem callee_eq {o : Op} {x : Operand} {args : Array Operand} (h : callee o = some (x, args)) : ∃ ts, o = .call { callee := .value x, args := args, argTypes := ts } := by
  unfold callee at h
  split at h
  · cases h; exact ⟨_, rfl⟩
  · cases h
theorem RepTs.app {h : Array Obj} {H : Hp} {φ : Phi} : ∀ {xs : List T} {us : List Value} {ys : List T} {vs : List Value}, RepTs h H φ xs us → RepTs h H φ ys vs → RepTs h H φ (xs ++ ys) (us ++ vs)
  | [], [], _, _, _, r => r
  | _ :: _, _ :: _, _, _, q, r => ⟨q.1, RepTs.app q.2 r⟩
  | [], _ :: _, _, _, q, _ => q.elim
  | _ :: _, [], _, _, q, _ => q.elim
theorem RepTs.of_get {h : Array Obj} {H : Hp} {φ : Phi} : ∀ {xs : List T} {us : List Value}, us.length = xs.length → (∀ (i : Nat) (x : T), xs[i]? = some x → RepT h H φ x (us.getD i undef)) → RepTs h H φ xs us
  | [], [], _, _ => trivial
  | x :: xs, u :: us, hl, hr => ⟨hr 0 x rfl, RepTs.of_get (by simpa using hl) fun i y hy => hr (i + 1) y hy⟩
  | [], _ :: _, hl, _ => by simp at hl
  | _ :: _, [], hl, _ => by simp at hl
theorem RepV.of_wf {h : Array Obj} {H : Hp} {φ : Phi} {ag : Bool} {cs : List A} {u : Value} (hw : wfv ag cs.length u) (hr : ∀ j x, cs[j]? = some x → RepE h H φ x (partv ag u j)) : RepV h H φ ag cs u := by
  cases ag with
  | true =>
    obtain ⟨c, rfl, hc⟩ := hw
    refine ⟨c, rfl, ?_⟩
    have := RepC_of (h := h) (H := H) (φ := φ) (xs := cs) (fun j => c.getD j undef) fun j x hx => by have := hr j x hx; simpa [partv] using this
    have e : (List.range cs.length).map (fun j => c.getD j undef) = c.toList := by
      apply List.ext_getElem?
      intro q
      rw [List.getElem?_map]
      by_cases hq : q < c.size
      · rw [List.getElem?_range (by omega), Array.getElem?_toList]
        simp [hq]
      · rw [List.getElem?_eq_none (by simp; omega), List.getElem?_eq_none (by simp; omega)]; rfl
    rw [e] at this; exact this
  | false =>
    obtain ⟨h1, _⟩ := hw
    match cs, h1 with
    | [x], _ => exact ⟨x, rfl, by have := hr 0 x rfl; cases u <;> exact this⟩
theorem fn_calls (s : Sim w₀ H₀ φ₀ N e g φ a w) {d : Nat} {fv : T} {vf : Value} (hf : RepT w.heap g φ fv vf) {vals : List T} {us : List Value} (hv : RepTs w.heap g φ vals us) {rs : List Nat} {k : Eff → Prop} (h : (fnO P d fv vals).K true g rs k) :
    ∃ f cap, vf = .func (.func f) #[] cap ∧ IsFn P f ∧ Calls P f (us ++ cap.toList).toArray w fun e' w' => ∃ v, e' = .returned v ∧ ∃ ε, k ε ∧ ∃ φ', RepT w'.heap (putH ε.upd g) φ' ε.val v ∧ HeapOK w'.heap (putH ε.upd g) φ' ∧ Turn w.heap g φ w'.heap (putH ε.upd g) φ' ∧ w'.os = w.os ∧ w'.tape = w.tape ∧ w'.output = w.output ∧ w.heap.size ≤ w'.heap.size := by
  unfold fnO at h
  split at h
  · rename_i f ls
    have r := rep_one hf
    cases r with
    | f _ _ r =>
    cases r with
    | cl _ _ cap hs hw hr =>
      obtain ⟨h1, h2⟩ := callO_calls s (hv.app (RepTs.of_get (us := cap.toList) (by simpa using hs) fun i x hx => by
        rw [List.getElem?_map] at hx
        cases hq : ls[i]? with
        | none => rw [hq] at hx; cases hx
        | some y =>
          rw [hq] at hx
          cases hx
          have e1 : cap.toList.getD i undef = cap.getD i undef := by simp [List.getD_eq_getElem?_getD]
          rw [e1]
          refine RepV.of_wf (by simpa using hw i y hq) fun j x hx => ?_
          rw [List.getElem?_map] at hx
          cases hq2 : y.2[j]? with
          | none => rw [hq2] at hx; cases hx
          | some z => rw [hq2] at hx; cases hx; exact .f _ _ (hr i y j z hq hq2))) h
      exact ⟨f, cap, rfl, h1, h2⟩
  · rename_i f caps
    have r := rep_one hf
    cases r with
    | cl _ _ cap hs hw hr =>
      obtain ⟨h1, h2⟩ := callO_calls s (hv.app (RepTs.of_get (us := cap.toList) (by simpa using hs) fun i x hx => by
        rw [List.getElem?_map] at hx
        cases hq : caps[i]? with
        | none => rw [hq] at hx; cases hx
        | some y =>
          rw [hq] at hx
          cases hx
          have e1 : cap.toList.getD i undef = cap.getD i undef := by simp [List.getD_eq_getElem?_getD]
          rw [e1]
          exact RepV.of_wf (hw i y hq) fun j x hx => hr i y j x hq hx)) h
      exact ⟨f, cap, rfl, h1, h2⟩
  · exact h.elim
theorem RepTs.map (s : Sim w₀ H₀ φ₀ N e g φ a w) : ∀ {xs : List Operand}, (∀ x ∈ xs, operOK x = true) → RepTs w.heap g φ (xs.map (evT e)) (xs.map a.eval)
  | [], _ => trivial
  | x :: xs, h => ⟨ev_ok s (h x List.mem_cons_self), RepTs.map s fun y hy => h y (List.mem_cons_of_mem _ hy)⟩
theorem act_wp (hT : TabOK P tb) (s : Sim w₀ H₀ φ₀ N e g φ a w) {o : Oper} {d : Nat} (hop : o.op.operands.all operOK = true) (hd : ∀ x, o.dst = some x → x < N) {rs : List Nat} {k : Eff → Prop} (h : (actO P tb o.op d (evT e)).K true g rs k)
    (hK : ∀ ε, k ε → ∀ a' w', SimS w₀ H₀ φ₀ N (putE o.dst ε.val e) (putH ε.upd g) a' w' → K a' w') : o.wp P a w K Q := by
  unfold actO at h
  split at h
  · rename_i x args hc
    obtain ⟨ts, hop'⟩ := callee_eq hc
    have hx : operOK x = true := Array.all_eq_true_iff_forall_mem.1 hop x (by rw [hop']; simp [Op.operands, Call.operands])
    have hargs : ∀ y ∈ args.toList, operOK y = true := fun y hy => Array.all_eq_true_iff_forall_mem.1 hop y (by rw [hop']; simp [Op.operands, Call.operands]; exact .inr (by simpa using hy))
    obtain ⟨f, cap, hvf, ⟨fn, f1, f2, f3⟩, hcalls⟩ := fn_calls s (ev_ok s hx) (RepTs.map s hargs) h
    have hrun : (execOp a.eval o).run P w = .ok (.enter f (args.toList.map a.eval ++ cap.toList).toArray) w := by
      unfold execOp
      simp only [hop', resolve, hvf, Deferred.ofValue, Sem.run_bind, Sem.run_pure, Result.andThen_ok, invoke, callFunc, run_program, f1, f2, f3]
      simp
    unfold Oper.wp
    rw [hrun, Oper.upon_enter]
    refine Calls.mono hcalls ?_
    rintro e' w' ⟨v, rfl, ε, hk, φ', hr, ok', t', a1, a2, a3, a4⟩
    exact hK ε hk _ _ ⟨φ', s.next t' ok' a1 a2 a3 a4 hd fun _ => hr⟩
  · obtain ⟨ε, h1, h2⟩ := opO_does hT s hop rs k h
    exact h2.wp s hd fun a' w' hs => hK ε h1 a' w' hs
end
end Go.Proofs.Ytfafehhallbjiaa.Ac
set_option linter.unusedVariables false
set_option linter.unusedSimpArgs false
namespace Go.Proofs.Ytfafehhallbjiaa.Ac
open Go.RowKit
section
variable (P : Program) (tb : Tab) (N : Nat) (ops : Array Oper)
def operOK' (o : Oper) : Bool := o.op.operands.toList.all operOK && match o.dst with
  | some d => Nat.blt d N
  | none => true
def gate (o : Oper) (e : Env) : Option Bool := match o.guard with
  | none => some true
  | some (j, want) => match (dsts ops j).bind e with
    | some (.val false [.f (.v (.bool true))]) => some want
    | some (.val false [.f (.v (.bool false))]) => some (!want)
    | some (.tu []) => some false
    | _ => none
def stepR (i : Nat) (e : Env) (g : Hp) (ε : Eff) : Prop := ∃ o, ops[i]? = some o ∧ operOK' N o = true ∧ ((gate ops o e = some true ∧ (actO P tb o.op (o.dst.getD 0) (evT e)).K false g [] (fun ε' => ε' = ε)) ∨ (gate ops o e = some false ∧ ε = ⟨.tu [], [], []⟩))
def stepK (sq : Bool) (o : Oper) (e : Env) (g : Hp) (k : Eff → Prop) : Prop := cond (operOK' N o) (match gate ops o e with
  | some true => (actO P tb o.op (o.dst.getD 0) (evT e)).K sq g [] k
  | some false => k ⟨.tu [], [], []⟩
  | none => False) False
def regK (sq : Bool) : List Oper → Es → Hs → List Eff → (Es → Hs → List Eff → Prop) → Prop
  | [], es, hs, acc, k => k es hs acc
  | o :: os, es, hs, acc, k => stepK P tb N ops sq o (get es) (get hs) fun ε => match ε with
    | ⟨v, rd, u⟩ => match o.dst, u with
      | some d, [] => regK sq os ((d, v) :: es) hs (⟨v, rd, []⟩ :: acc) k
      | some d, x :: u => regK sq os ((d, v) :: es) (x :: u ++ hs) (⟨v, rd, x :: u⟩ :: acc) k
      | none, u => regK sq os es (u ++ hs) (⟨v, rd, u⟩ :: acc) k
end
section
variable {P : Program} {tb : Tab} {N : Nat} {ops : Array Oper}
theorem cond_elim' {b : Bool} {p : Prop} (h : cond b p False) : b = true ∧ p := by
  cases b
  · exact h.elim
  · exact ⟨rfl, h⟩
theorem stepK_elim {i : Nat} {o : Oper} (ho : ops[i]? = some o) {e : Env} {g : Hp} {k : Eff → Prop} (h : stepK P tb N ops false o e g k) : ∃ ε, stepR P tb N ops i e g ε ∧ k ε := by
  obtain ⟨h0, h⟩ := cond_elim' h
  split at h
  · rename_i hg
    obtain ⟨ε, h1, h2⟩ := Out.elim _ _ h
    exact ⟨ε, ⟨o, ho, h0, .inl ⟨hg, h1⟩⟩, h2⟩
  · rename_i hg
    exact ⟨_, ⟨o, ho, h0, .inr ⟨hg, rfl⟩⟩, h⟩
  · exact h.elim
theorem evT_congr {e e' : Env} {x : Operand} (h : ∀ t, x = .tmp t → e' t = e t) : evT e' x = evT e x := by
  cases x with
  | tmp t => simp only [evT]; rw [h t rfl]
  | _ => rfl
theorem stepR_local : Local ops (stepR P tb N ops) := by
  rintro i o e g ε e' g' ho ⟨o', ho', h0, h⟩ he hg
  rw [ho] at ho'
  cases ho'
  have hgate : gate ops o e' = gate ops o e := by
    unfold gate
    cases hgd : o.guard with
    | none => rfl
    | some p =>
      obtain ⟨j, want⟩ := p
      dsimp only
      cases hd : dsts ops j with
      | none => rfl
      | some t =>
        have : e' t = e t := he t (by
          simp only [dsts] at hd
          simp [Oper.looksAt, hgd, hd])
        simp only [Option.bind_some, this]
  have hev : ∀ x ∈ o.op.operands, evT e' x = evT e x := fun x hx => evT_congr fun t ht => he t (by
    subst ht
    exact List.mem_append_left _ (List.mem_filterMap.2 ⟨.tmp t, by simpa using hx, rfl⟩))
  refine ⟨o, ho, h0, ?_⟩
  rw [hgate]
  rcases h with ⟨h1, h2⟩ | ⟨h1, h2⟩
  · refine .inl ⟨h1, ?_⟩
    have hact : actO P tb o.op (o.dst.getD 0) (evT e') = actO P tb o.op (o.dst.getD 0) (evT e) := by
      unfold actO
      split
      · rename_i x args hc
        obtain ⟨ts, hop⟩ := callee_eq hc
        have hm : args.toList.map (evT e') = args.toList.map (evT e) := List.map_congr_left fun x hx => hev x (by rw [hop]; simp [Op.operands, Call.operands]; exact .inr (by simpa using hx))
        rw [hm, hev x (by rw [hop]; simp [Op.operands, Call.operands])]
      · exact opO_congr hev
    rw [hact]
    exact Out.local hg _ _ h2
  · exact .inr ⟨h1, h2⟩
variable {w₀ : World} {H₀ : Hp} {φ₀ : Phi} {e : Env} {g : Hp} {φ : Phi} {a : Act} {w : World} {ε : Eff} {K : Act → World → Prop} {Q : Exit → Act → World → Prop}
theorem gate_wanted (s : Sim w₀ H₀ φ₀ N e g φ a w) {o : Oper} {b : Bool} (h : gate ops o e = some b) : Region.wanted o (yielded ops a.tmps) = b := by
  unfold gate at h
  unfold Region.wanted
  cases hgd : o.guard with
  | none => rw [hgd] at h; cases h; rfl
  | some p =>
    obtain ⟨j, want⟩ := p
    rw [hgd] at h
    dsimp only at h ⊢
    have key : ∀ x, (dsts ops j).bind e = some (.val false [.f (.v (.bool x))]) → yielded ops a.tmps j = some x := by
      intro x hx
      cases hd : dsts ops j with
      | none => rw [hd] at hx; cases hx
      | some t =>
        rw [hd] at hx
        have hv : a.eval (.tmp t) = .bool x := v_rep (s.env t _ hx)
        simp only [Act.eval] at hv
        have ht : a.tmps[t]? = some (.bool x) := by
          cases hq : a.tmps[t]? with
          | none => simp [hq, undef] at hv
          | some y => simp [hq] at hv; rw [hv]
        simp only [dsts] at hd
        unfold yielded
        rw [hd]
        simp [ht]
    split at h
    · rename_i hx
      cases h
      rw [key true hx]; cases b <;> rfl
    · rename_i hx
      cases h
      rw [key false hx]; cases want <;> rfl
    · rename_i hx
      cases h
      have : yielded ops a.tmps j = none := by
        cases hd : dsts ops j with
        | none => rw [hd] at hx; cases hx
        | some t =>
          rw [hd] at hx
          obtain ⟨us, hu, _⟩ := s.env t _ hx
          simp only [Act.eval] at hu
          simp only [dsts] at hd
          unfold yielded
          rw [hd]
          cases hq : a.tmps[t]? with
          | none => simp [hq]
          | some y => simp [hq] at hu; simp [hq, hu]
      rw [this]; rfl
    · cases h
theorem stepK_wp (hT : TabOK P tb) {i : Nat} {o : Oper} (ho : ops[i]? = some o) {k : Eff → Prop} (h : stepK P tb N ops true o e g k) (s : Sim w₀ H₀ φ₀ N e g φ a w) (hK : ∀ ε, k ε → ∀ a' w', SimS w₀ H₀ φ₀ N (putE o.dst ε.val e) (putH ε.upd g) a' w' → K a' w') : wpOp P ops Q i K a w := by
  obtain ⟨h0, h⟩ := cond_elim' h
  simp only [operOK', Bool.and_eq_true] at h0
  rw [Array.all_toList] at h0
  have hd : ∀ x, o.dst = some x → x < N := fun x hx => by
    have := h0.2
    rw [hx] at this
    simpa [Nat.blt, Nat.lt_iff_add_one_le] using this
  unfold wpOp
  rw [ho]
  dsimp only
  split at h
  · rename_i hg
    rw [if_pos (gate_wanted s hg)]
    exact .inl (act_wp hT s h0.1 hd h hK)
  · rename_i hg
    rw [if_neg (by rw [gate_wanted s hg]; simp)]
    refine hK _ h _ _ ⟨φ, ?_⟩
    exact s.next (Turn.refl _ _ _) s.ok rfl rfl rfl (Nat.le_refl _) hd fun _ => ⟨#[], rfl, trivial⟩
  · exact h.elim
theorem stepR_sound (hT : TabOK P tb) : Sound P ops Q (stepR P tb N ops) (SimS w₀ H₀ φ₀ N) := by
  rintro i e g ε a w K ⟨o, ho, h0, h⟩ ⟨φ, s⟩ hK
  have hdst : dsts ops i = o.dst := by simp [dsts, ho]
  rw [hdst] at hK
  refine stepK_wp hT ho (k := fun ε' => ε' = ε) ?_ s fun ε' he a' w' hs => by subst he; exact hK a' w' hs
  unfold stepK
  rw [h0]
  dsimp only [cond_true]
  rcases h with ⟨hg, h⟩ | ⟨hg, h⟩
  · rw [hg]; exact Out.seq _ _ h
  · rw [hg]; exact h.symm
def nums : Nat → List Eff → List (Nat × Eff)
  | _, [] => []
  | i, ε :: l => (i, ε) :: nums (i + 1) l
theorem regK_run : ∀ (os : List Oper) (i : Nat) (es : Es) (hs : Hs) (acc : List Eff) (k : Es → Hs → List Eff → Prop), (∀ j, os[j]? = ops[i + j]? ∨ os.length ≤ j) → regK P tb N ops false os es hs acc k →
    ∃ l es' hs', l.length = os.length ∧ Run ops (stepR P tb N ops) (nums i l) (get es) (get hs) ∧ finE ops (nums i l) (get es) = get es' ∧ finH (nums i l) (get hs) = get hs' ∧ k es' hs' (l.reverse ++ acc)
  | [], i, es, hs, acc, k, _, h => ⟨[], es, hs, rfl, trivial, rfl, rfl, h⟩
  | o :: os, i, es, hs, acc, k, ho, h => by
    have ho0 : ops[i]? = some o := by
      rcases ho 0 with h | h
      · exact h.symm
      · simp at h
    obtain ⟨ε, h1, h2'⟩ := stepK_elim (P := P) (tb := tb) (N := N) ho0 h
    have h2 : regK P tb N ops false os (addE o.dst ε.val es) (ε.upd ++ hs) (ε :: acc) k := by
      obtain ⟨v, rd, u⟩ := ε
      dsimp only at h2'
      split at h2'
      · rename_i hd; rw [hd]; exact h2'
      · rename_i hd; rw [hd]; exact h2'
      · rename_i hd; rw [hd]; exact h2'
    obtain ⟨l, es', hs', g1, g2, g3, g4, g5⟩ := regK_run os (i + 1) _ _ _ k (fun j => by
      rcases ho (j + 1) with h | h
      · exact .inl (by rw [← Nat.add_assoc, Nat.add_right_comm] at h; exact h)
      · exact .inr (by simp at h; omega)) h2
    have hd : dsts ops i = o.dst := by simp [dsts, ho0]
    refine ⟨ε :: l, es', hs', by simp [g1], ⟨h1, ?_⟩, ?_, ?_, by simpa using g5⟩
    · rw [hd, putE_get, putH_get]; exact g2
    · show finE ops (nums (i + 1) l) (putE (dsts ops i) ε.val (get es)) = _
      rw [hd, putE_get]; exact g3
    · show finH (nums (i + 1) l) (putH ε.upd (get hs)) = _
      rw [putH_get]; exact g4
theorem nums_map : ∀ (i : Nat) (l : List Eff), (nums i l).map (·.1) = List.range' i l.length
  | _, [] => rfl
  | i, ε :: l => by simp [nums, List.range'_succ, nums_map (i + 1) l]
theorem sim_drew {e : Env} {g : Hp} (h : SimS w₀ H₀ φ₀ N e g a w) : SimS w₀ H₀ φ₀ N e g a { w with drawn := w.drawn + 1 } := by
  obtain ⟨φ, s⟩ := h
  exact ⟨φ, s.env, s.sz, s.dfr, s.ok, s.turn, s.os, s.tape, s.output, s.size⟩
abbrev Post := Exit → Es → Hs → Prop
def Post.at (Q : Post) (w₀ : World) (H₀ : Hp) (φ₀ : Phi) (N : Nat) : Exit → Act → World → Prop := fun x a w => ∃ es hs, Q x es hs ∧ SimS w₀ H₀ φ₀ N (get es) (get hs) a w
theorem regK_seq (hT : TabOK P tb) : ∀ (os : List Oper) (i : Nat) (es : Es) (hs : Hs) (acc : List Eff) (k : Es → Hs → List Eff → Prop) (a : Act) (w : World), (∀ j, os[j]? = ops[i + j]? ∨ os.length ≤ j) → regK P tb N ops true os es hs acc k → SimS w₀ H₀ φ₀ N (get es) (get hs) a w →
    (∀ es' hs' acc' a' w', k es' hs' acc' → SimS w₀ H₀ φ₀ N (get es') (get hs') a' w' → Q .normal a' w') → wpOps P ops Q (List.range' i os.length) a w
  | [], i, es, hs, acc, k, a, w, _, h, s, hQ => hQ _ _ _ _ _ h s
  | o :: os, i, es, hs, acc, k, a, w, ho, h, ⟨φ, s⟩, hQ => by
    have ho0 : ops[i]? = some o := by
      rcases ho 0 with h | h
      · exact h.symm
      · simp at h
    rw [List.length_cons, List.range'_succ, wpOps_cons]
    refine stepK_wp hT ho0 h s fun ε hk a' w' s' => ?_
    have h2 : regK P tb N ops true os (addE o.dst ε.val es) (ε.upd ++ hs) (ε :: acc) k := by
      obtain ⟨v, rd, u⟩ := ε
      dsimp only at hk
      split at hk
      · rename_i hd; rw [hd]; exact hk
      · rename_i hd; rw [hd]; exact hk
      · rename_i hd; rw [hd]; exact hk
    rw [putE_get, putH_get] at s'
    exact regK_seq hT os (i + 1) _ _ _ k a' w' (fun j => by
      rcases ho (j + 1) with h | h
      · exact .inl (by rw [← Nat.add_assoc, Nat.add_right_comm] at h; exact h)
      · exact .inr (by simp at h; omega)) h2 s' hQ
theorem region_sound (hT : TabOK P tb) {id : Nat} {Q : Post} {es : Es} {hs : Hs} (h : regK P tb N ops true ops.toList es hs [] fun es hs _ => Q .normal es hs) (s : SimS w₀ H₀ φ₀ N (get es) (get hs) a w) :
    (Code.region id ops false).wp P (Q.at w₀ H₀ φ₀ N) a w := by
  refine wp_region ?_
  have := regK_seq (Q := Q.at w₀ H₀ φ₀ N) hT ops.toList 0 es hs [] _ a w (fun j => .inl (by simp)) h s fun es' hs' acc' a' w' hk hs' => ⟨_, _, hk, hs'⟩
  rw [List.range_eq_range']
  simpa using this
theorem nums_lt : ∀ (i : Nat) (l : List Eff), ∀ x ∈ nums i l, x.1 < i + l.length
  | _, [], _, hx => by cases hx
  | i, ε :: l, x, hx => by
    rcases List.mem_cons.1 hx with rfl | hx
    · simp
    · have := nums_lt (i + 1) l x hx
      simp; omega
theorem region_draw_sound (hT : TabOK P tb) (hm : P.follows .mixedOrders = true) {id : Nat} {Q : Post} {es : Es} {hs : Hs} {B : Array Nat} (hB : okB B 0 ops.toList = true)
    (h : regK P tb N ops false ops.toList es hs [] fun es hs acc => pairsOK ops B (nums 0 acc.reverse) = true ∧ Q .normal es hs) (s : SimS w₀ H₀ φ₀ N (get es) (get hs) a w) :
    (Code.region id ops true).wp P (Q.at w₀ H₀ φ₀ N) a w := by
  obtain ⟨l, es', hs', h1, h2, h3, h4, h5, h6⟩ := regK_run ops.toList 0 es hs [] _ (fun j => .inl (by simp)) h
  refine wp_region_any hm ?_
  have hlen : l.length = ops.size := by simpa using h1
  have hnl : (nums 0 l).length = ops.size := by
    have := congrArg List.length (nums_map 0 l)
    simpa [hlen] using this
  rw [← hnl]
  refine any_of_run (R := stepR P tb N ops) (S := SimS w₀ H₀ φ₀ N) stepR_local (stepR_sound hT) hB _ _ _ _ _ a _ rfl ?_ (by simp [hnl]) ?_ ?_ ?_ (by simpa using h5) h2 (sim_drew s) fun a' w' s' => ⟨es', hs', h6, by rw [h3, h4] at s'; exact s'⟩
  · rw [nums_map]; exact List.pairwise_lt_range'
  · intro j hj
    rw [nums_map, hnl]
    simp [hj, hlen]
  · intro x hx
    have := nums_lt 0 l x hx
    omega
  · intro j hj hlj
    rw [hnl] at hlj
    simp [hj] at hlj
end
section
variable (P : Program) (tb : Tab) (N : Nat) (fp : List Nat)
noncomputable def awp (c : Code) : Post → Es → Hs → Prop := Code.rec (motive := fun _ => Post → Es → Hs → Prop)
  (fun Q es hs => Q .normal es hs)
  (fun id ops draw Q es hs => match draw with
    | false => regK P tb N ops true ops.toList es hs [] fun es hs _ => Q .normal es hs
    | true => okB (Region.before ops) 0 ops.toList = true ∧ regK P tb N ops false ops.toList es hs [] fun es hs acc => pairsOK ops (Region.before ops) (nums 0 acc.reverse) = true ∧ Q .normal es hs)
  (fun x y ihx ihy Q es hs => ihx (fun e es hs => match e with
    | .normal => ihy Q es hs
    | e => Q e es hs) es hs)
  (fun c x y ihx ihy Q es hs => match evT (get es) c with
    | .val false [.f (.v (.bool true))] => ihx Q es hs
    | .val false [.f (.v (.bool false))] => ihy Q es hs
    | _ => False)
  (fun id x ihx Q es hs => ihx (fun e es hs => match e with
    | .exit i => cond (Nat.beq i id) (Q .normal es hs) (Q (.exit i) es hs)
    | e => Q e es hs) es hs)
  (fun x ihx Q es hs => ∃ (I : Nat → Es → Hs → Prop), (∃ n gl r es' hs', Tell fp gl r es' hs' es hs ∧ I n es' hs') ∧ ∀ n es hs, I n es hs → ihx (fun e es hs => match e with
    | .normal => ∃ m gl r es' hs', m < n ∧ Tell fp gl r es' hs' es hs ∧ I m es' hs'
    | e => Q e es hs) es hs)
  (fun _ _ _ _ _ _ _ _ _ => False) (fun id Q es hs => Q (.exit id) es hs) (fun _ _ _ _ _ => False) (fun _ _ _ _ => False) (fun _ _ _ _ => False)
  (fun Q es hs => Q .ret es hs) (fun _ _ _ _ => False) c
end
section
variable {P : Program} {tb : Tab} {N : Nat} {fp : List Nat} {w₀ : World} {H₀ : Hp} {φ₀ : Phi}
theorem awp_sound (hT : TabOK P tb) (hm : P.follows .mixedOrders = true) (hfp : ∀ n x, H₀ n = some x → n ∈ fp) : ∀ (c : Code) (Q : Post) (es : Es) (hs : Hs) (a : Act) (w : World), awp P tb N fp c Q es hs → SimS w₀ H₀ φ₀ N (get es) (get hs) a w → c.wp P (Q.at w₀ H₀ φ₀ N) a w := by
  intro c
  induction c with
  | skip => exact fun Q es hs a w h s => wp_skip ⟨es, hs, h, s⟩
  | region id ops draw =>
    intro Q es hs a w h s
    cases draw with
    | false => exact region_sound hT h s
    | true =>
      obtain ⟨hB, h⟩ := h
      exact region_draw_sound hT hm hB h s
  | seq x y ihx ihy =>
    intro Q es hs a w h s
    refine wp_seq (wp_mono (ihx _ es hs a w h s) ?_)
    rintro e a w ⟨es, hs, hq, s⟩
    cases e with
    | normal => exact ihy Q es hs a w hq s
    | _ => exact ⟨es, hs, hq, s⟩
  | cond c x y ihx ihy =>
    intro Q es hs a w h s
    simp only [awp] at h
    have ev : ∀ b, evT (get es) c = .val false [.f (.v (.bool b))] → a.eval c = .bool b := by
      intro b hb
      obtain ⟨φ, s⟩ := s
      cases c with
      | tmp t =>
        have r : RepT w.heap (get hs) φ (.val false [.f (.v (.bool b))]) (a.eval (.tmp t)) := by
          simp only [evT] at hb
          cases ht : get es t with
          | none => rw [ht] at hb; cases hb
          | some v => rw [ht] at hb; cases hb; exact s.env t _ ht
        exact v_rep r
      | const v =>
        simp only [evT, Act.eval] at hb ⊢
        unfold constT at hb
        split at hb
        · cases hb
        · cases hb
        · unfold constA at hb
          split at hb
          · cases hb
          · cases hb; rfl
      | global n => cases hb
      | func f => cases hb
    split at h
    · rename_i hc; exact wp_cond_true (ev true hc) (ihx Q es hs a w h s)
    · rename_i hc; exact wp_cond_false (ev false hc) (ihy Q es hs a w h s)
    · exact h.elim
  | block id x ih =>
    intro Q es hs a w h s
    refine wp_block (wp_mono (ih _ es hs a w h s) ?_)
    rintro e a w ⟨es, hs, hq, s⟩
    cases e with
    | exit i =>
      simp only [Exit.inBlock]
      cases hb : Nat.beq i id with
      | true =>
        dsimp only at hq
        rw [hb] at hq
        rw [if_pos (Nat.eq_of_beq_eq_true hb)]
        exact ⟨es, hs, hq, s⟩
      | false =>
        dsimp only at hq
        rw [hb] at hq
        have : i ≠ id := fun h => by subst h; simp at hb
        rw [if_neg this]
        exact ⟨es, hs, hq, s⟩
    | _ => exact ⟨es, hs, hq, s⟩
  | exit id => exact fun Q es hs a w h s => wp_exit ⟨es, hs, h, s⟩
  | loop x ih =>
    intro Q es hs a w h s
    obtain ⟨I, ⟨n, gl, r, es0, hs0, hsub, h0⟩, h1⟩ := h
    have s0 := SimS.told hsub hfp s
    intro b k cs
    have key : ∀ n es hs a w, I n es hs → SimS w₀ H₀ φ₀ N (get es) (get hs) a w → ∃ e a' w', Q.at w₀ H₀ φ₀ N e a' w' ∧ Arrives P (lone (b.at a (.code x :: .inLoop x :: k)) cs w) b k cs e a' w' := by
      intro n
      induction n using Nat.strongRecOn with
      | _ n ihn =>
        intro es hs a w hI s
        obtain ⟨e, a₁, w₁, ⟨es₁, hs₁, hq, s₁⟩, harr⟩ := ih _ es hs a w (h1 n es hs hI) s b (.inLoop x :: k) cs
        cases e with
        | normal =>
          obtain ⟨m, gl, r, es', hs', hm, hsub, hI'⟩ := hq
          obtain ⟨e₂, a₂, w₂, hq₂, harr₂⟩ := ihn m hm es' hs' a₁ w₁ hI' (SimS.told hsub hfp s₁)
          exact ⟨e₂, a₂, w₂, hq₂, .of_steps (Steps.trans harr (.one step_inLoop)) harr₂⟩
        | exit id => exact ⟨_, a₁, w₁, ⟨es₁, hs₁, hq, s₁⟩, .pass (x := .inLoop x) rfl (fun _ _ => .inl (by simp)) harr⟩
        | goto l => exact ⟨_, a₁, w₁, ⟨es₁, hs₁, hq, s₁⟩, .pass (x := .inLoop x) rfl (fun _ _ => .inl (by simp)) harr⟩
        | ret => exact ⟨_, a₁, w₁, ⟨es₁, hs₁, hq, s₁⟩, .pass (x := .inLoop x) rfl (fun _ _ => .inl (by simp)) harr⟩
        | panic ch => exact ⟨_, a₁, w₁, ⟨es₁, hs₁, hq, s₁⟩, .pass (x := .inLoop x) rfl (fun _ _ => .inl (by simp)) harr⟩
        | outgrown => exact ⟨_, a₁, w₁, ⟨es₁, hs₁, hq, s₁⟩, .pass (x := .inLoop x) rfl (fun _ _ => .inl (by simp)) harr⟩
    obtain ⟨e, a', w', hq, harr⟩ := key n es0 hs0 a w h0 s0
    exact ⟨e, a', w', hq, .of_steps (.one step_loop) harr⟩
  | ret => exact fun Q es hs a w h s => wp_ret ⟨es, hs, h, s⟩
  | _ => intros; rename_i h _; exact h.elim
end
end Go.Proofs.Ytfafehhallbjiaa.Ac
set_option linter.unusedVariables false
set_option linter.unusedSimpArgs false
namespace Go.Proofs.Ytfafehhallbjiaa.Ac
open Go.RowKit
def fdOf (P : Program) (fd : Field) : Option (Nat × Nat × Bool) := match P.info? fd.type, P.underlying fd.type with
  | some inf, some d => some (fd.offset, inf.size, d.aggD)
  | _, _ => none
def EntryOK (P : Program) (i : Nat) : Lay → Prop
  | .w d z bt => P.underlying i = some d ∧ d.aggD = false ∧ (P.info? i).map (·.size) = some 1 ∧ (P.info? i).map (·.bytes) = some bt ∧ ∃ zv, (P.info? i).bind (·.zero) = some zv ∧ zv.oneCell' = true ∧ z = constA zv
  | .st sz z fs bt => ∃ fields zv, P.underlying i = some (.struct fields) ∧ (P.info? i).map (·.size) = some sz ∧ (P.info? i).map (·.bytes) = some bt ∧ (P.info? i).bind (·.zero) = some (.agg zv) ∧ z = zv.toList.map constA ∧ zv.toList.all (·.oneCell') = true ∧ zv.size = sz ∧
    fields.toList.map (fdOf P) = fs.map some ∧ fs.all (fun x => x.2.1 != 0 && Nat.ble (x.1 + x.2.1) sz) = true
def EntriesOK (P : Program) : List (Nat × Lay) → Prop
  | [] => True
  | x :: l => EntryOK P x.1 x.2 ∧ EntriesOK P l
theorem entry_at {P : Program} {l : List (Nat × Lay)} (h : EntriesOK P l) {i : Nat} {x : Lay} (hx : get l i = some x) : EntryOK P i x := by
  induction l with
  | nil => cases hx
  | cons y l ih =>
    obtain ⟨m, v⟩ := y
    simp only [get] at hx
    cases hb : Nat.beq m i
    · rw [hb] at hx; exact ih h.2 hx
    · rw [hb] at hx
      cases hx
      rw [← Nat.eq_of_beq_eq_true hb]; exact h.1
theorem tabOK_of {P : Program} {l : List (Nat × Lay)} (h : EntriesOK P l) : TabOK P (get l) := by
  refine ⟨fun i d z bt hx => ?_, fun i sz z fs bt hx => ?_⟩
  · obtain ⟨h1, h2, h3, h3', zv, h4, h5, h6⟩ := entry_at h hx
    cases hi : P.info? i with
    | none => rw [hi] at h3; cases h3
    | some inf =>
      rw [hi] at h3 h3' h4
      exact ⟨h1, h2, inf, zv, rfl, by simpa using h3, by simpa using h4, h5, h6, by simpa using h3'⟩
  · obtain ⟨fields, zv, h1, h2, h2', h3, h4, h5, h6, h7, h8⟩ := entry_at h hx
    cases hi : P.info? i with
    | none => rw [hi] at h2; cases h2
    | some inf =>
      rw [hi] at h2 h2' h3
      refine ⟨inf, fields, zv, h1, rfl, by simpa using h2, by simpa using h3, h4, h5, h6, by simpa using h2', by have := congrArg List.length h7; simpa using this.symm, fun f x hf => ?_⟩
      have hm : (fields.toList.map (fdOf P))[f]? = some (some x) := by rw [h7, List.getElem?_map, hf]; rfl
      rw [List.getElem?_map] at hm
      cases hfd : fields.toList[f]? with
      | none => rw [hfd] at hm; cases hm
      | some fd =>
        rw [hfd] at hm
        simp only [Option.map_some, Option.some.injEq, fdOf] at hm
        split at hm
        · rename_i inf' d' g1 g2
          cases hm
          have h0 := List.all_eq_true.1 h8 _ (List.mem_of_getElem? hf)
          simp only [Bool.and_eq_true] at h0
          exact ⟨fd, inf', by simpa using hfd, rfl, g1, rfl, by simpa using h0.1, Nat.le_of_ble_eq_true h0.2, d', g2, rfl⟩
        · cases hm
def entry : Nat → List (Bool × List A) → Es
  | _, [] => []
  | i, x :: xs => (i, .val x.1 x.2) :: entry (i + 1) xs
def retK (tb : Tab) (e : Env) (g : Hp) : List ResultVar → (List (Bool × List A) → Prop) → Prop
  | [], k => k []
  | .tmp t :: vs, k => match e t with
    | some (.val ag cs) => retK tb e g vs fun xs => k ((ag, cs) :: xs)
    | _ => False
  | .cell p t :: vs, k => match e p, tb t with
    | some (.val false [.pt n 0 0]), some l => match g n with
      | some (some ⟨fl, _, [cs]⟩) => cond (Nat.beq fl 3 && Nat.beq cs.length l.size && noOw.go cs) (match mkT l cs with
        | .val ag cs => retK tb e g vs fun xs => k ((ag, cs) :: xs)
        | _ => False) False
      | _ => False
    | _, _ => False
def finB (fp : List Nat) (r : List (Nat × Nat)) (res : List (Bool × List A)) (H1 : Hs) : Bool := inP H1 res && H1.all (fun x => inO H1 x.2) && nodupB (H1.map fun x => rn r x.1) && fp.all (fun n => hasN H1 n && Nat.beq (rn r n) n)
def finK (tb : Tab) (fp : List Nat) (vs : List ResultVar) (H1 : Hs) (res : List (Bool × List A)) (x : Exit) (es : Es) (hs : Hs) : Prop := match x with
  | .normal | .ret => ∃ gl r, ghK gl hs fun hs1 => retK tb (get es) (get hs1) vs fun xs => finB fp r res H1 = true ∧ tlVs true r (get hs1) H1 xs res ∧ subH true r (get hs1) H1 H1
  | _ => False
section
variable {P : Program} {tb : Tab} {h : Array Obj} {g : Hp} {φ : Phi} {e : Env} {a : Act} {w : World}
variable {w₀ : World} {H₀ : Hp} {φ₀ : Phi} {N : Nat}
def retM (tmps : Array Value) : ResultVar → Sem Value
  | .tmp t => pure (tmps.getD t undef)
  | .cell p t => do loadVar t (← asAddr (tmps.getD p undef))
theorem results_eq (fn : Func) (tmps : Array Value) : results fn tmps = (do let vs ← fn.results.mapM (retM tmps); pure (if h : vs.size = 1 then vs[0] else .tuple vs)) := by
  unfold results
  refine congrArg (fun F : ResultVar → Sem Value => (do let vs ← fn.results.mapM F; pure (if h : vs.size = 1 then vs[0] else .tuple vs))) ?_
  funext x; cases x <;> rfl
theorem noOw_at : ∀ {cs : List A}, noOw.go cs = true → ∀ x ∈ cs, isOw x = false
  | [], _, x, hx => by cases hx
  | y :: cs, h, x, hx => by
    rcases List.mem_cons.1 hx with rfl | hx
    · cases x <;> first | rfl | cases h
    · have : noOw.go cs = true := by cases y <;> first | exact h | cases h
      exact noOw_at this x hx
theorem ret_ok (hT : TabOK P tb) (s : Sim w₀ H₀ φ₀ N e g φ a w) : ∀ (vs : List ResultVar) (k : List (Bool × List A) → Prop), retK tb e g vs k → ∃ xs, k xs ∧ ∃ us : List Value, (vs.mapM (m := Sem) (retM a.tmps)).run P w = .ok us w ∧ RepVs w.heap g φ xs us
  | [], k, h => ⟨[], h, [], by simp, trivial⟩
  | .tmp t :: vs, k, h => by
    simp only [retK] at h
    split at h
    · rename_i ag cs he
      obtain ⟨xs, hk, us, h1, h2⟩ := ret_ok hT s vs _ h
      exact ⟨_, hk, a.tmps.getD t undef :: us, (by simp only [List.mapM_cons, retM, Sem.run_bind, Sem.run_pure, Result.andThen_ok]; rw [h1]; rfl), s.env t _ he, h2⟩
    · exact h.elim
  | .cell p t :: vs, k, h => by
    simp only [retK] at h
    split at h
    · rename_i n l he hl
      split at h
      · rename_i fl wd cs hn
        obtain ⟨h0, hA⟩ := cond_elim' h
        clear h
        simp only [Bool.and_eq_true] at h0
        have hlen := Nat.eq_of_beq_eq_true h0.1.2
        have hno := noOw_at h0.2
        have hfl := Nat.eq_of_beq_eq_true h0.1.1
        subst hfl
        obtain ⟨hd, hp, hu, c, ty, hb, hrow, _, hcell⟩ := ref_row s.ok hn (by decide) (rep_one (s.env p _ he))
        have hin := (hrow.in (i := 0) (e := cs) rfl)
        simp only [Nat.zero_mul, Nat.add_zero] at hu hin hcell
        have hrep : RepC w.heap g φ cs ((List.range cs.length).map fun j => c.getD (hd.off + j) undef) := RepC_of _ fun j x hx => by
          have := (hcell 0 cs j x rfl hx).toE (hno x (List.mem_of_getElem? hx))
          simpa using this
        obtain ⟨u, hrun, hr⟩ := load_val (P := P) (w := w) hT hl hrep (b := hd.b) (off := hd.off) (fun j v hv => by
          obtain ⟨hj, rfl⟩ := range_get hv
          exact getD_cell hb (by omega)) hlen
        split at hA
        · rename_i ag cs' hmk
          rw [hmk] at hr
          obtain ⟨xs, hk, us, h1, h2⟩ := ret_ok hT s vs _ hA
          simp only [Act.eval] at hu
          have hs : (asAddr (a.tmps.getD p undef)).run P w = .ok ⟨hd.b, hd.off, none⟩ w := by rw [hu]; rfl
          exact ⟨_, hk, u :: us, (by simp only [List.mapM_cons, retM, Sem.run_bind, Sem.run_pure, Result.andThen_ok, hs, hrun]; rw [h1]; rfl), hr, h2⟩
        · exact hA.elim
      · exact h.elim
    · exact h.elim
theorem RepVs.len : ∀ {xs : List (Bool × List A)} {us : List Value}, RepVs h g φ xs us → us.length = xs.length
  | [], [], _ => rfl
  | _ :: _, _ :: _, r => congrArg (· + 1) (RepVs.len r.2)
  | [], _ :: _, r => r.elim
  | _ :: _, [], r => r.elim
theorem entry_ok : ∀ (xs : List (Bool × List A)) (us : List Value) (i : Nat), RepVs h g φ xs us → ∀ t x, get (entry i xs) t = some x → i ≤ t ∧ RepT h g φ x (us.getD (t - i) undef)
  | [], us, i, _, t, x, hx => by cases hx
  | y :: xs, u :: us, i, hr, t, x, hx => by
    simp only [entry, get] at hx
    cases hb : Nat.beq i t
    · rw [hb] at hx
      obtain ⟨h1, h2⟩ := entry_ok xs us (i + 1) hr.2 t x hx
      refine ⟨by omega, ?_⟩
      rw [show t - i = (t - (i + 1)) + 1 by omega]
      exact h2
    · rw [hb] at hx
      cases hx
      have := Nat.eq_of_beq_eq_true hb
      subst this
      refine ⟨Nat.le_refl _, ?_⟩
      rw [Nat.sub_self]
      exact hr.1
  | _ :: _, [], _, hr, _, _, _ => hr.elim
def clHs : Hs → Prop
  | [] => True
  | (_, some ob) :: l => cond (Nat.beq ob.fl 3) True (clR ob.es) ∧ clHs l
  | (_, none) :: l => clHs l
theorem clHs_of : ∀ {l : Hs}, clHs l → ClH l
  | [], _, n, ob, hm, _ => by cases hm
  | (m, some o) :: l, h, n, ob, hm, hf => by
    rcases List.mem_cons.1 hm with hm | hm
    · cases hm
      have := h.1; rw [hf] at this; exact this
    · exact clHs_of h.2 n ob hm hf
  | (m, none) :: l, h, n, ob, hm, hf => by
    rcases List.mem_cons.1 hm with hm | hm
    · cases hm
    · exact clHs_of (l := l) h n ob hm hf
theorem gcalls_of (hT : TabOK P tb) (hm : P.follows .mixedOrders = true) {f : FuncId} {fn : Func} {c : Code} {H0 H1 : Hs} {args res : List (Bool × List A)} (hf : P.funcs[f]? = some fn) (hb : fn.body = some c) (hN : fn.ntmps = N) (hname : (fn.name == "runtime.NumGoroutine") = false)
    (hlen : args.length ≤ N) {vs : List ResultVar} (hres : fn.results.toList = vs) (hB : (inP H1 res && H1.all (fun x => inO H1 x.2) && H0.all (fun x => hasN H1 x.1)) = true) (hcl : clHs H1)
    (h : awp P tb N (H0.map (·.1)) c (finK tb (H0.map (·.1)) vs H1 res) (entry 0 args) H0) : GCalls P f H0 args H1 res := by
  simp only [Bool.and_eq_true] at hB
  refine ⟨⟨fn, hf, hname, by rw [hb]; rfl⟩, clHs_of hcl, fun n hn => ?_, hB.1, fun φ w us hok hr => calls_of_wp hf hb ?_⟩
  · unfold hasN at hn
    split at hn
    · rename_i x hx; exact List.all_eq_true.1 hB.2 _ (get_mem hx)
    · cases hn
  have hul := hr.len
  have s : SimS w (get H0) φ N (get (entry 0 args)) (get H0) { tmps := us.toArray ++ Array.replicate (fn.ntmps - us.toArray.size) undef, defers := [] } w := by
    refine ⟨φ, fun t x hx => ?_, ?_, rfl, hok, Turn.refl _ _ _, rfl, rfl, rfl, Nat.le_refl _⟩
    · obtain ⟨_, q⟩ := entry_ok args us 0 hr t x hx
      have : (us.toArray ++ Array.replicate (fn.ntmps - us.toArray.size) undef).getD t undef = us.getD t undef := by
        by_cases ht : t < us.length
        · simp [ht, Array.getElem?_append]
        · simp only [Array.getD_eq_getD_getElem?, Array.getElem?_append, List.size_toArray, ht, if_false, Array.getElem?_replicate, List.getD_eq_getElem?_getD, List.getElem?_eq_none (Nat.le_of_not_lt ht)]
          split <;> rfl
      rw [Nat.sub_zero] at q
      simp only [Act.eval, this]
      exact q
    · simp; omega
  have hfp : ∀ n x, get H0 n = some x → n ∈ H0.map (·.1) := fun n x hx => List.mem_map.2 ⟨_, get_mem hx, rfl⟩
  refine wp_mono (awp_sound hT hm hfp c _ _ _ _ w h s) ?_
  rintro e a w' ⟨es, hs, hq, s'⟩
  have fin : finK tb (H0.map (·.1)) vs H1 res .ret es hs → a.defers = [] ∧ ∃ v, (results fn a.tmps).run P w' = .ok v w' ∧ ∃ v' φ', Ending.returned v = .returned v' ∧ RepR w'.heap (get H1) φ' res v' ∧ HeapOK w'.heap (get H1) φ' ∧ Turn w.heap (get H0) φ w'.heap (get H1) φ' ∧
      w'.os = w.os ∧ w'.tape = w.tape ∧ w'.output = w.output ∧ w.heap.size ≤ w'.heap.size := by
    rintro ⟨gl, r, hgh⟩
    obtain ⟨hs1, hret, φ1, s1⟩ := gh_ok hgh s'
    refine ⟨s1.dfr, ?_⟩
    obtain ⟨xs, ⟨k1, k2, k3⟩, us', h1, h2⟩ := ret_ok hT s1 vs _ hret
    simp only [finB, Bool.and_eq_true] at k1
    obtain ⟨⟨⟨b1, b2⟩, b3⟩, b4⟩ := k1
    have o : OutOK true r H1 (get hs1) φ1 φ1.out := ⟨fun b hb => .inl hb, fun n ob' q hd _ h => s1.ok.apart _ hd h, fun _ X hd h => s1.ok.apart X hd h⟩
    obtain ⟨φ2, s2⟩ := SimS.tell (fp := H0.map (·.1)) (es' := []) (r := r) (hs' := H1) (by
      refine ⟨?_, trivial, k3⟩
      simp only [subB, Bool.and_eq_true]
      exact ⟨⟨⟨rfl, b2⟩, b3⟩, b4⟩) hfp ⟨φ1, s1⟩
    have hrep := repVs_tl k3 o s1.ok k2 b1 h2
    have hheap := heap_tl k3 o s1.ok b2 b3
    have hlen' := h2.len
    have hrun : (fn.results.mapM (m := Sem) (retM a.tmps)).run P w' = .ok us'.toArray w' := by
      rw [← Array.toArray_toList (xs := fn.results), hres, List.mapM_toArray]
      simp only [Functor.map, Sem.run_map, Sem.run_bind', h1]
      rfl
    -- the state told anew, once more, with the places that the results have
    have tt : Turn w.heap (get H0) φ w'.heap (get H1) (ph r H1 (get hs1) φ1 φ1.out) := by
      have fpk : ∀ n x, get H0 n = some x → hasN H1 n = true ∧ rn r n = n := fun n x hx => by
        have := List.all_eq_true.1 b4 n (hfp n x hx)
        simp only [Bool.and_eq_true] at this
        exact ⟨this.1, Nat.eq_of_beq_eq_true this.2⟩
      refine ⟨s1.turn.out, fun b hb hO => ?_, fun n hn => ?_, fun n ob hn => ?_⟩
      · obtain ⟨h1, h2⟩ := s1.turn.blk0 b hb hO
        refine ⟨?_, h2⟩
        rintro ⟨X, hd, hX, rfl⟩
        exact h1 ⟨_, hd, (ph_some hX).1, rfl⟩
      · have hg := s1.turn.dead n hn
        obtain ⟨k1, k2⟩ := fpk n _ hn
        rcases ref_told k3 k1 with h0 | ⟨ob', ob, h1, h2, _⟩ | ⟨ob', h1, h2, _⟩
        · exact h0
        · rw [k2, hg] at h2; cases h2
        · rw [k2, hg] at h2; cases h2
      · obtain ⟨k1, k2⟩ := fpk n _ hn
        rcases ref_told k3 k1 with h0 | ⟨ob', ob2, h1, h2, h3, h4, h5, _⟩ | ⟨ob', h1, h2, _⟩
        · exact .inl h0
        · rcases s1.turn.live n ob hn with hd | ⟨ob3, g1, g2, g3, g4⟩
          · rw [k2, hd] at h2; cases h2
          · rw [k2, g1] at h2
            cases h2
            refine .inr ⟨ob', h1, ?_, h3.symm.trans g3, by rw [← tlR_len h5]; exact g4⟩
            have := ph_live (φ := φ1) (out := φ1.out) h1 (show get hs1 (rn r n) = some (some ob2) by rw [k2]; exact g1) []
            rw [this, k2]; exact g2
        · rcases s1.turn.live n ob hn with hd | ⟨ob3, g1, _⟩
          · rw [k2, hd] at h2; cases h2
          · rw [k2, g1] at h2; cases h2
    have hle := hrep.len
    rw [results_eq, Sem.run_bind, hrun]
    simp only [Result.andThen_ok, Sem.run_pure]
    refine ⟨_, rfl, _, _, rfl, ?_, hheap, tt, s1.os, s1.tape, s1.output, s1.size⟩
    match res, us', hrep with
    | [], [], _ => exact ⟨#[], rfl, trivial⟩
    | [x], [u], hrep => exact hrep.1
    | x :: y :: xs, u :: v :: us, hrep => exact ⟨_, by simp, hrep⟩
  cases e with
  | normal => exact fin hq
  | ret => exact fin hq
  | _ => exact hq.elim
end
end Go.Proofs.Ytfafehhallbjiaa.Ac
set_option linter.unusedVariables false
namespace Go.Proofs.Ytfafehhallbjiaa.Ac
open Go.RowKit
def tbl : List (Nat × Lay) := [
  (2, .w (.int .i64) (.f (.v (.int .i64 0))) 8),
  (3, .w (.int .i64) (.f (.v (.int .i64 0))) 8),
  (4, .w .bool (.f (.v (.bool false))) 1),
  (5, .w (.int .u8) (.f (.v (.int .u8 0))) 1),
  (6, .w (.int .u8) (.f (.v (.int .u8 0))) 1),
  (7, .st 4 [.f (.v (.int .i64 0)), .f (.v (.int .i64 0)), .f (.v (.bool false)), .f (.v (.int .u8 0))] [(0, 1, false), (1, 1, false), (2, 1, false), (3, 1, false)] 24),
  (8, .st 4 [.f (.v (.int .i64 0)), .f (.v (.int .i64 0)), .f (.v (.bool false)), .f (.v (.int .u8 0))] [(0, 1, false), (1, 1, false), (2, 1, false), (3, 1, false)] 24),
  (9, .w .string (.f (.v (.string ⟨#[]⟩))) 16),
  (10, .w .string (.f (.v (.string ⟨#[]⟩))) 16),
  (11, .w .string (.f (.v (.string ⟨#[]⟩))) 16),
  (12, .w (.int .u64) (.f (.v (.int .u64 0))) 8),
  (13, .st 2 [.f (.v (.string ⟨#[]⟩)), .f (.v (.int .u64 0))] [(0, 1, false), (1, 1, false)] 24),
  (14, .st 2 [.f (.v (.string ⟨#[]⟩)), .f (.v (.int .u64 0))] [(0, 1, false), (1, 1, false)] 24),
  (15, .w (.pointer 183) (.f (.v (.pointer none))) 8),
  (16, .w (.pointer 186) (.f (.v (.pointer none))) 8),
  (17, .w (.pointer 193) (.f (.v (.pointer none))) 8),
  (18, .st 1 [.f (.v (.pointer none))] [(0, 1, false)] 8),
  (19, .st 1 [.f (.v (.pointer none))] [(0, 1, false)] 8),
  (21, .w (.int .i32) (.f (.v (.int .i32 0))) 4),
  (22, .w (.slice 88) (.nl) 24),
  (23, .st 3 [.f (.v (.int .i64 0)), .f (.v (.int .i64 0)), .nl] [(0, 1, false), (1, 1, false), (2, 1, false)] 40),
  (24, .st 3 [.f (.v (.int .i64 0)), .f (.v (.int .i64 0)), .nl] [(0, 1, false), (1, 1, false), (2, 1, false)] 40),
  (30, .st 5 [.f (.v (.int .i64 0)), .f (.v (.int .i64 0)), .f (.v (.int .i64 0)), .f (.v (.int .i64 0)), .nl] [(0, 1, false), (1, 1, false), (2, 3, true)] 56),
  (31, .st 5 [.f (.v (.int .i64 0)), .f (.v (.int .i64 0)), .f (.v (.int .i64 0)), .f (.v (.int .i64 0)), .nl] [(0, 1, false), (1, 1, false), (2, 3, true)] 56),
  (36, .w (.slice 107) (.nl) 24),
  (37, .st 3 [.f (.v (.int .i64 0)), .f (.v (.int .i64 0)), .nl] [(0, 1, false), (1, 1, false), (2, 1, false)] 40),
  (38, .st 3 [.f (.v (.int .i64 0)), .f (.v (.int .i64 0)), .nl] [(0, 1, false), (1, 1, false), (2, 1, false)] 40),
  (40, .w (.slice 3) (.nl) 24),
  (50, .st 5 [.f (.v (.int .i64 0)), .f (.v (.int .i64 0)), .f (.v (.int .i64 0)), .f (.v (.int .i64 0)), .f (.v (.string ⟨#[]⟩))] [(0, 1, false), (1, 1, false), (2, 1, false), (3, 1, false), (4, 1, false)] 48),
  (51, .st 5 [.f (.v (.int .i64 0)), .f (.v (.int .i64 0)), .f (.v (.int .i64 0)), .f (.v (.int .i64 0)), .f (.v (.string ⟨#[]⟩))] [(0, 1, false), (1, 1, false), (2, 1, false), (3, 1, false), (4, 1, false)] 48),
  (54, .st 5 [.f (.v (.int .i64 0)), .f (.v (.int .i64 0)), .f (.v (.int .i64 0)), .f (.v (.int .i64 0)), .f (.v (.string ⟨#[]⟩))] [(0, 1, false), (1, 1, false), (2, 1, false), (3, 1, false), (4, 1, false)] 48),
  (57, .w (.pointer 66) (.f (.v (.pointer none))) 8),
  (65, .st 3 [.f (.v (.string ⟨#[]⟩)), .f (.v (.int .i64 0)), .f (.v (.int .i64 0))] [(0, 1, false), (1, 1, false), (2, 1, false)] 32),
  (66, .st 3 [.f (.v (.string ⟨#[]⟩)), .f (.v (.int .i64 0)), .f (.v (.int .i64 0))] [(0, 1, false), (1, 1, false), (2, 1, false)] 32),
  (73, .w (.pointer 24) (.f (.v (.pointer none))) 8),
  (82, .w (.pointer 84) (.f (.v (.pointer none))) 8),
  (83, .st 3 [.f (.v (.string ⟨#[]⟩)), .f (.v (.int .i64 0)), .f (.v (.int .i64 0))] [(0, 1, false), (1, 1, false), (2, 1, false)] 32),
  (84, .st 3 [.f (.v (.string ⟨#[]⟩)), .f (.v (.int .i64 0)), .f (.v (.int .i64 0))] [(0, 1, false), (1, 1, false), (2, 1, false)] 32),
  (87, .st 5 [.f (.v (.int .i64 0)), .f (.v (.int .i64 0)), .f (.v (.int .i64 0)), .f (.v (.string ⟨#[]⟩)), .nl] [(0, 1, false), (1, 1, false), (2, 1, false), (3, 1, false), (4, 1, false)] 64),
  (88, .st 5 [.f (.v (.int .i64 0)), .f (.v (.int .i64 0)), .f (.v (.int .i64 0)), .f (.v (.string ⟨#[]⟩)), .nl] [(0, 1, false), (1, 1, false), (2, 1, false), (3, 1, false), (4, 1, false)] 64),
  (90, .w (.map 3 4) (.f (.v (.map none))) 8),
  (97, .w (.pointer 100) (.f (.v (.pointer none))) 8),
  (98, .w (.slice 5) (.nl) 24),
  (99, .st 2 [.f (.v (.pointer none)), .nl] [(0, 1, false), (1, 1, false)] 32),
  (100, .st 2 [.f (.v (.pointer none)), .nl] [(0, 1, false), (1, 1, false)] 32),
  (101, .st 2 [.f (.v (.pointer none)), .nl] [(0, 2, true)] 32),
  (102, .st 2 [.f (.v (.pointer none)), .nl] [(0, 2, true)] 32),
  (107, .st 5 [.f (.v (.int .i64 0)), .f (.v (.int .i64 0)), .f (.v (.int .i64 0)), .f (.v (.string ⟨#[]⟩)), .nl] [(0, 1, false), (1, 1, false), (2, 1, false), (3, 1, false), (4, 1, false)] 64),
  (110, .w (.pointer 88) (.f (.v (.pointer none))) 8),
  (131, .w (.pointer 102) (.f (.v (.pointer none))) 8),
  (134, .w (.pointer 5) (.f (.v (.pointer none))) 8),
  (142, .w (.int .u64) (.f (.v (.int .u64 0))) 8),
  (149, .w (.int .i64) (.f (.v (.int .i64 0))) 8),
  (156, .w (.int .u32) (.f (.v (.int .u32 0))) 4),
  (158, .w (.int .u64) (.f (.v (.int .u64 0))) 8),
  (172, .w (.int .u64) (.f (.v (.int .u64 0))) 8),
  (176, .w (.pointer 3) (.f (.v (.pointer none))) 8),
  (180, .w (.pointer 172) (.f (.v (.pointer none))) 8),
  (182, .st 4 [.f (.v (.pointer none)), .f (.v (.pointer none)), .f (.v (.pointer none)), .f (.v (.string ⟨#[]⟩))] [(0, 1, false), (1, 1, false), (2, 1, false), (3, 1, false)] 40),
  (183, .st 4 [.f (.v (.pointer none)), .f (.v (.pointer none)), .f (.v (.pointer none)), .f (.v (.string ⟨#[]⟩))] [(0, 1, false), (1, 1, false), (2, 1, false), (3, 1, false)] 40),
  (187, .w (.int .u8) (.f (.v (.int .u8 0))) 1),
  (188, .w (.int .u8) (.f (.v (.int .u8 0))) 1),
  (190, .w (.int .i32) (.f (.v (.int .i32 0))) 4),
  (191, .w (.int .i32) (.f (.v (.int .i32 0))) 4),
  (192, .st 11 [.f (.v (.int .u64 0)), .f (.v (.int .u64 0)), .f (.v (.int .u32 0)), .f (.v (.int .u8 0)), .f (.v (.int .u8 0)), .f (.v (.int .u8 0)), .f (.v (.int .u8 0)), .f (.v (.nilFunc)), .f (.v (.pointer none)), .f (.v (.int .i32 0)), .f (.v (.int .i32 0))] [(0, 1, false), (1, 1, false), (2, 1, false), (3, 1, false), (4, 1, false), (5, 1, false), (6, 1, false), (7, 1, false), (8, 1, false), (9, 1, false), (10, 1, false)] 48),
  (193, .st 11 [.f (.v (.int .u64 0)), .f (.v (.int .u64 0)), .f (.v (.int .u32 0)), .f (.v (.int .u8 0)), .f (.v (.int .u8 0)), .f (.v (.int .u8 0)), .f (.v (.int .u8 0)), .f (.v (.nilFunc)), .f (.v (.pointer none)), .f (.v (.int .i32 0)), .f (.v (.int .i32 0))] [(0, 1, false), (1, 1, false), (2, 1, false), (3, 1, false), (4, 1, false), (5, 1, false), (6, 1, false), (7, 1, false), (8, 1, false), (9, 1, false), (10, 1, false)] 48)]
theorem tbl_ok : TabOK Try.prog (get tbl) := tabOK_of (
  ⟨⟨Try.underlying2, rfl, by kernel_rfl, by kernel_rfl, .int .i64 0, by kernel_rfl, rfl, rfl⟩,
  ⟨⟨Try.underlying3, rfl, by kernel_rfl, by kernel_rfl, .int .i64 0, by kernel_rfl, rfl, rfl⟩,
  ⟨⟨Try.underlying4, rfl, by kernel_rfl, by kernel_rfl, .bool false, by kernel_rfl, rfl, rfl⟩,
  ⟨⟨Try.underlying5, rfl, by kernel_rfl, by kernel_rfl, .int .u8 0, by kernel_rfl, rfl, rfl⟩,
  ⟨⟨Try.underlying6, rfl, by kernel_rfl, by kernel_rfl, .int .u8 0, by kernel_rfl, rfl, rfl⟩,
  ⟨⟨_, #[.int .i64 0, .int .i64 0, .bool false, .int .u8 0], Try.underlying7, by kernel_rfl, by kernel_rfl, by kernel_rfl, rfl, rfl, rfl, by kernel_rfl, rfl⟩,
  ⟨⟨_, #[.int .i64 0, .int .i64 0, .bool false, .int .u8 0], Try.underlying8, by kernel_rfl, by kernel_rfl, by kernel_rfl, rfl, rfl, rfl, by kernel_rfl, rfl⟩,
  ⟨⟨Try.underlying9, rfl, by kernel_rfl, by kernel_rfl, .string ⟨#[]⟩, by kernel_rfl, rfl, rfl⟩,
  ⟨⟨Try.underlying10, rfl, by kernel_rfl, by kernel_rfl, .string ⟨#[]⟩, by kernel_rfl, rfl, rfl⟩,
  ⟨⟨Try.underlying11, rfl, by kernel_rfl, by kernel_rfl, .string ⟨#[]⟩, by kernel_rfl, rfl, rfl⟩,
  ⟨⟨Try.underlying12, rfl, by kernel_rfl, by kernel_rfl, .int .u64 0, by kernel_rfl, rfl, rfl⟩,
  ⟨⟨_, #[.string ⟨#[]⟩, .int .u64 0], Try.underlying13, by kernel_rfl, by kernel_rfl, by kernel_rfl, rfl, rfl, rfl, by kernel_rfl, rfl⟩,
  ⟨⟨_, #[.string ⟨#[]⟩, .int .u64 0], Try.underlying14, by kernel_rfl, by kernel_rfl, by kernel_rfl, rfl, rfl, rfl, by kernel_rfl, rfl⟩,
  ⟨⟨Try.underlying15, rfl, by kernel_rfl, by kernel_rfl, .pointer none, by kernel_rfl, rfl, rfl⟩,
  ⟨⟨Try.underlying16, rfl, by kernel_rfl, by kernel_rfl, .pointer none, by kernel_rfl, rfl, rfl⟩,
  ⟨⟨Try.underlying17, rfl, by kernel_rfl, by kernel_rfl, .pointer none, by kernel_rfl, rfl, rfl⟩,
  ⟨⟨_, #[.pointer none], Try.underlying18, by kernel_rfl, by kernel_rfl, by kernel_rfl, rfl, rfl, rfl, by kernel_rfl, rfl⟩,
  ⟨⟨_, #[.pointer none], Try.underlying19, by kernel_rfl, by kernel_rfl, by kernel_rfl, rfl, rfl, rfl, by kernel_rfl, rfl⟩,
  ⟨⟨Try.underlying21, rfl, by kernel_rfl, by kernel_rfl, .int .i32 0, by kernel_rfl, rfl, rfl⟩,
  ⟨⟨Try.underlying22, rfl, by kernel_rfl, by kernel_rfl, .slice none 0 0, by kernel_rfl, rfl, rfl⟩,
  ⟨⟨_, #[.int .i64 0, .int .i64 0, .slice none 0 0], Try.underlying23, by kernel_rfl, by kernel_rfl, by kernel_rfl, rfl, rfl, rfl, by kernel_rfl, rfl⟩,
  ⟨⟨_, #[.int .i64 0, .int .i64 0, .slice none 0 0], Try.underlying24, by kernel_rfl, by kernel_rfl, by kernel_rfl, rfl, rfl, rfl, by kernel_rfl, rfl⟩,
  ⟨⟨_, #[.int .i64 0, .int .i64 0, .int .i64 0, .int .i64 0, .slice none 0 0], Try.underlying30, by kernel_rfl, by kernel_rfl, by kernel_rfl, rfl, rfl, rfl, by kernel_rfl, rfl⟩,
  ⟨⟨_, #[.int .i64 0, .int .i64 0, .int .i64 0, .int .i64 0, .slice none 0 0], Try.underlying31, by kernel_rfl, by kernel_rfl, by kernel_rfl, rfl, rfl, rfl, by kernel_rfl, rfl⟩,
  ⟨⟨Try.underlying36, rfl, by kernel_rfl, by kernel_rfl, .slice none 0 0, by kernel_rfl, rfl, rfl⟩,
  ⟨⟨_, #[.int .i64 0, .int .i64 0, .slice none 0 0], Try.underlying37, by kernel_rfl, by kernel_rfl, by kernel_rfl, rfl, rfl, rfl, by kernel_rfl, rfl⟩,
  ⟨⟨_, #[.int .i64 0, .int .i64 0, .slice none 0 0], Try.underlying38, by kernel_rfl, by kernel_rfl, by kernel_rfl, rfl, rfl, rfl, by kernel_rfl, rfl⟩,
  ⟨⟨Try.underlying40, rfl, by kernel_rfl, by kernel_rfl, .slice none 0 0, by kernel_rfl, rfl, rfl⟩,
  ⟨⟨_, #[.int .i64 0, .int .i64 0, .int .i64 0, .int .i64 0, .string ⟨#[]⟩], Try.underlying50, by kernel_rfl, by kernel_rfl, by kernel_rfl, rfl, rfl, rfl, by kernel_rfl, rfl⟩,
  ⟨⟨_, #[.int .i64 0, .int .i64 0, .int .i64 0, .int .i64 0, .string ⟨#[]⟩], Try.underlying51, by kernel_rfl, by kernel_rfl, by kernel_rfl, rfl, rfl, rfl, by kernel_rfl, rfl⟩,
  ⟨⟨_, #[.int .i64 0, .int .i64 0, .int .i64 0, .int .i64 0, .string ⟨#[]⟩], Try.underlying54, by kernel_rfl, by kernel_rfl, by kernel_rfl, rfl, rfl, rfl, by kernel_rfl, rfl⟩,
  ⟨⟨Try.underlying57, rfl, by kernel_rfl, by kernel_rfl, .pointer none, by kernel_rfl, rfl, rfl⟩,
  ⟨⟨_, #[.string ⟨#[]⟩, .int .i64 0, .int .i64 0], Try.underlying65, by kernel_rfl, by kernel_rfl, by kernel_rfl, rfl, rfl, rfl, by kernel_rfl, rfl⟩,
  ⟨⟨_, #[.string ⟨#[]⟩, .int .i64 0, .int .i64 0], Try.underlying66, by kernel_rfl, by kernel_rfl, by kernel_rfl, rfl, rfl, rfl, by kernel_rfl, rfl⟩,
  ⟨⟨Try.underlying73, rfl, by kernel_rfl, by kernel_rfl, .pointer none, by kernel_rfl, rfl, rfl⟩,
  ⟨⟨Try.underlying82, rfl, by kernel_rfl, by kernel_rfl, .pointer none, by kernel_rfl, rfl, rfl⟩,
  ⟨⟨_, #[.string ⟨#[]⟩, .int .i64 0, .int .i64 0], Try.underlying83, by kernel_rfl, by kernel_rfl, by kernel_rfl, rfl, rfl, rfl, by kernel_rfl, rfl⟩,
  ⟨⟨_, #[.string ⟨#[]⟩, .int .i64 0, .int .i64 0], Try.underlying84, by kernel_rfl, by kernel_rfl, by kernel_rfl, rfl, rfl, rfl, by kernel_rfl, rfl⟩,
  ⟨⟨_, #[.int .i64 0, .int .i64 0, .int .i64 0, .string ⟨#[]⟩, .slice none 0 0], Try.underlying87, by kernel_rfl, by kernel_rfl, by kernel_rfl, rfl, rfl, rfl, by kernel_rfl, rfl⟩,
  ⟨⟨_, #[.int .i64 0, .int .i64 0, .int .i64 0, .string ⟨#[]⟩, .slice none 0 0], Try.underlying88, by kernel_rfl, by kernel_rfl, by kernel_rfl, rfl, rfl, rfl, by kernel_rfl, rfl⟩,
  ⟨⟨Try.underlying90, rfl, by kernel_rfl, by kernel_rfl, .map none, by kernel_rfl, rfl, rfl⟩,
  ⟨⟨Try.underlying97, rfl, by kernel_rfl, by kernel_rfl, .pointer none, by kernel_rfl, rfl, rfl⟩,
  ⟨⟨Try.underlying98, rfl, by kernel_rfl, by kernel_rfl, .slice none 0 0, by kernel_rfl, rfl, rfl⟩,
  ⟨⟨_, #[.pointer none, .slice none 0 0], Try.underlying99, by kernel_rfl, by kernel_rfl, by kernel_rfl, rfl, rfl, rfl, by kernel_rfl, rfl⟩,
  ⟨⟨_, #[.pointer none, .slice none 0 0], Try.underlying100, by kernel_rfl, by kernel_rfl, by kernel_rfl, rfl, rfl, rfl, by kernel_rfl, rfl⟩,
  ⟨⟨_, #[.pointer none, .slice none 0 0], Try.underlying101, by kernel_rfl, by kernel_rfl, by kernel_rfl, rfl, rfl, rfl, by kernel_rfl, rfl⟩,
  ⟨⟨_, #[.pointer none, .slice none 0 0], Try.underlying102, by kernel_rfl, by kernel_rfl, by kernel_rfl, rfl, rfl, rfl, by kernel_rfl, rfl⟩,
  ⟨⟨_, #[.int .i64 0, .int .i64 0, .int .i64 0, .string ⟨#[]⟩, .slice none 0 0], Try.underlying107, by kernel_rfl, by kernel_rfl, by kernel_rfl, rfl, rfl, rfl, by kernel_rfl, rfl⟩,
  ⟨⟨Try.underlying110, rfl, by kernel_rfl, by kernel_rfl, .pointer none, by kernel_rfl, rfl, rfl⟩,
  ⟨⟨Try.underlying131, rfl, by kernel_rfl, by kernel_rfl, .pointer none, by kernel_rfl, rfl, rfl⟩,
  ⟨⟨Try.underlying134, rfl, by kernel_rfl, by kernel_rfl, .pointer none, by kernel_rfl, rfl, rfl⟩,
  ⟨⟨Try.underlying142, rfl, by kernel_rfl, by kernel_rfl, .int .u64 0, by kernel_rfl, rfl, rfl⟩,
  ⟨⟨Try.underlying149, rfl, by kernel_rfl, by kernel_rfl, .int .i64 0, by kernel_rfl, rfl, rfl⟩,
  ⟨⟨Try.underlying156, rfl, by kernel_rfl, by kernel_rfl, .int .u32 0, by kernel_rfl, rfl, rfl⟩,
  ⟨⟨Try.underlying158, rfl, by kernel_rfl, by kernel_rfl, .int .u64 0, by kernel_rfl, rfl, rfl⟩,
  ⟨⟨Try.underlying172, rfl, by kernel_rfl, by kernel_rfl, .int .u64 0, by kernel_rfl, rfl, rfl⟩,
  ⟨⟨Try.underlying176, rfl, by kernel_rfl, by kernel_rfl, .pointer none, by kernel_rfl, rfl, rfl⟩,
  ⟨⟨Try.underlying180, rfl, by kernel_rfl, by kernel_rfl, .pointer none, by kernel_rfl, rfl, rfl⟩,
  ⟨⟨_, #[.pointer none, .pointer none, .pointer none, .string ⟨#[]⟩], Try.underlying182, by kernel_rfl, by kernel_rfl, by kernel_rfl, rfl, rfl, rfl, by kernel_rfl, rfl⟩,
  ⟨⟨_, #[.pointer none, .pointer none, .pointer none, .string ⟨#[]⟩], Try.underlying183, by kernel_rfl, by kernel_rfl, by kernel_rfl, rfl, rfl, rfl, by kernel_rfl, rfl⟩,
  ⟨⟨Try.underlying187, rfl, by kernel_rfl, by kernel_rfl, .int .u8 0, by kernel_rfl, rfl, rfl⟩,
  ⟨⟨Try.underlying188, rfl, by kernel_rfl, by kernel_rfl, .int .u8 0, by kernel_rfl, rfl, rfl⟩,
  ⟨⟨Try.underlying190, rfl, by kernel_rfl, by kernel_rfl, .int .i32 0, by kernel_rfl, rfl, rfl⟩,
  ⟨⟨Try.underlying191, rfl, by kernel_rfl, by kernel_rfl, .int .i32 0, by kernel_rfl, rfl, rfl⟩,
  ⟨⟨_, #[.int .u64 0, .int .u64 0, .int .u32 0, .int .u8 0, .int .u8 0, .int .u8 0, .int .u8 0, .nilFunc, .pointer none, .int .i32 0, .int .i32 0], Try.underlying192, by kernel_rfl, by kernel_rfl, by kernel_rfl, rfl, rfl, rfl, by kernel_rfl, rfl⟩,
  ⟨⟨_, #[.int .u64 0, .int .u64 0, .int .u32 0, .int .u8 0, .int .u8 0, .int .u8 0, .int .u8 0, .nilFunc, .pointer none, .int .i32 0, .int .i32 0], Try.underlying193, by kernel_rfl, by kernel_rfl, by kernel_rfl, rfl, rfl, rfl, by kernel_rfl, rfl⟩,
  trivial⟩⟩⟩⟩⟩⟩⟩⟩⟩⟩⟩⟩⟩⟩⟩⟩⟩⟩⟩⟩⟩⟩⟩⟩⟩⟩⟩⟩⟩⟩⟩⟩⟩⟩⟩⟩⟩⟩⟩⟩⟩⟩⟩⟩⟩⟩⟩⟩⟩⟩⟩⟩⟩⟩⟩⟩⟩⟩⟩⟩⟩⟩⟩⟩⟩⟩)
theorem mixed : Try.prog.follows .mixedOrders = true := by kernel_rfl
end Go.Proofs.Ytfafehhallbjiaa.Ac
set_option linter.unusedVariables false
set_option linter.unusedSimpArgs false
namespace Go.Proofs.Ytfafehhallbjiaa.Ac
open Go.RowKit
def I64 (z : Int) : Prop := -2 ^ 63 ≤ z ∧ z < 2 ^ 63
structure Nd where
  id : Int
  kind : Int
  attr : Int
  text : ByteArray
  kids : List Int
structure Dc where
  root : Int
  next : Int
  nodes : List Nd
@[reducible] def iL (z : Int) : L := .v (.int .i64 z)
@[reducible] def bL (b : Bool) : L := .v (.bool b)
@[reducible] def sL (s : ByteArray) : L := .v (.string s)
@[reducible] def intE (z : Int) : List L := [iL z]
@[reducible] def txtE (s : ByteArray) : List L := [sL s]
@[reducible] def intW (z : Int) : List A := [.f (iL z)]
@[reducible] def txtW (s : ByteArray) : List A := [.f (sL s)]
def ints (l : List Int) : L := .sl 1 (l.map intE)
def txts (l : List ByteArray) : L := .sl 1 (l.map txtE)
def ndL (n : Nd) : List L := [iL n.id, iL n.kind, iL n.attr, sL n.text, ints n.kids]
def nds (l : List Nd) : L := .sl 5 (l.map ndL)
def dcL (d : Dc) : List L := [iL d.root, iL d.next, nds d.nodes]
def ndW (n : Nd) : List A := [.f (iL n.id), .f (iL n.kind), .f (iL n.attr), .f (sL n.text), .ow 1 (n.kids.map intW)]
theorem wrap_suc {i : Nat} (h : i < 2 ^ 62) : IntKind.i64.wrap ((i : Int) + 1) = ((i + 1 : Nat) : Int) := by
  rw [IntKind.wrap_i64]; omega
theorem wrap_nat {i : Nat} (h : i < 2 ^ 62) : IntKind.i64.wrap (i : Int) = i := by
  rw [IntKind.wrap_i64]; omega
theorem wrap_id {z : Int} (h : -2 ^ 63 ≤ z ∧ z < 2 ^ 63) : IntKind.i64.wrap z = z := by
  rw [IntKind.wrap_i64]; omega
theorem cl_map {α : Type} {f : α → List A} (hf : ∀ x, clC (f x)) : ∀ l : List α, clR (l.map f)
  | [] => trivial
  | x :: l => ⟨hf x, cl_map hf l⟩
theorem cl_app : ∀ {l l' : List (List A)}, clR l → clR l' → clR (l ++ l')
  | [], _, _, h => h
  | _ :: _, _, h, h' => ⟨h.1, cl_app h.2 h'⟩
theorem cl_ints (l : List Int) : clR (l.map intW) := cl_map (f := intW) (fun _ => ⟨trivial, trivial⟩) l
theorem cl_txts (l : List ByteArray) : clR (l.map txtW) := cl_map (f := txtW) (fun _ => ⟨trivial, trivial⟩) l
theorem cl_nds (l : List Nd) : clR (l.map ndW) := cl_map (f := ndW) (fun n => ⟨trivial, trivial, trivial, trivial, cl_ints n.kids, trivial⟩) l
theorem pl_map {α : Type} {f : α → List A} (hf : ∀ x, plC (f x)) : ∀ l : List α, plR (l.map f)
  | [] => trivial
  | x :: l => ⟨hf x, pl_map hf l⟩
theorem pl_ints (l : List Int) : plR (l.map intW) := pl_map (f := intW) (fun _ => ⟨trivial, trivial⟩) l
theorem pl_txts (l : List ByteArray) : plR (l.map txtW) := pl_map (f := txtW) (fun _ => ⟨trivial, trivial⟩) l
theorem pl_nds (l : List Nd) : plR (l.map ndW) := pl_map (f := ndW) (fun n => ⟨trivial, trivial, trivial, trivial, pl_ints n.kids, trivial⟩) l
theorem frz_map {K : Nat → Ob → Prop} {α : Type} {f : α → List A} {f' : α → List L} (hl : ∀ x, (f x).length = (f' x).length) (hf : ∀ x (j : Nat) a b, (f x)[j]? = some a → (f' x)[j]? = some b → Frz K a b) (l : List α) : FrzR K (l.map f) (l.map f') := by
  refine ⟨by simp, fun i e l' he hl' => ?_, fun i e l' j a b he hl' => ?_⟩ <;> rw [List.getElem?_map] at he hl' <;> cases hq : l[i]? with
  | none => rw [hq] at he; cases he
  | some x =>
    rw [hq] at he hl'
    cases he; cases hl'
    first | exact hl x | exact hf x j a b
theorem frz_ints {K : Nat → Ob → Prop} (l : List Int) : FrzR K (l.map intW) (l.map intE) := frz_map (f := intW) (f' := intE) (fun _ => rfl) (fun x j a b h1 h2 => by
  cases j with
  | zero => cases h1; cases h2; exact .f _
  | succ j => simp at h1) l
theorem frz_txts {K : Nat → Ob → Prop} (l : List ByteArray) : FrzR K (l.map txtW) (l.map txtE) := frz_map (f := txtW) (f' := txtE) (fun _ => rfl) (fun x j a b h1 h2 => by
  cases j with
  | zero => cases h1; cases h2; exact .f _
  | succ j => simp at h1) l
theorem frz_ow {K : Nat → Ob → Prop} {wd : Nat} {es : List (List A)} {ls : List (List L)} (h : FrzR K es ls) : Frz K (.ow wd es) (.sl wd ls) := .ow wd es ls h.1 h.2.1 h.2.2
theorem frz_nds {K : Nat → Ob → Prop} (l : List Nd) : FrzR K (l.map ndW) (l.map ndL) := frz_map (f := ndW) (f' := ndL) (fun _ => rfl) (fun x j a b h1 h2 => by
  match j with
  | 0 => cases h1; cases h2; exact .f _
  | 1 => cases h1; cases h2; exact .f _
  | 2 => cases h1; cases h2; exact .f _
  | 3 => cases h1; cases h2; exact .f _
  | 4 => cases h1; cases h2; exact frz_ow (frz_ints _)
  | j + 5 => simp [ndW] at h1) l
theorem tl_int {fz : Bool} {r : List (Nat × Nat)} {g : Hp} {hs' : Hs} {k : IntKind} {a b : Int} (h : a = b) : tlA fz r g hs' (.f (.v (.int k a))) (.f (.v (.int k b))) := congrArg (fun z => L.v (.int k z)) h
theorem tl_bool {fz : Bool} {r : List (Nat × Nat)} {g : Hp} {hs' : Hs} {a b : Bool} (h : a = b) : tlA fz r g hs' (.f (.v (.bool a))) (.f (.v (.bool b))) := congrArg (fun z => L.v (.bool z)) h
theorem tl_str {fz : Bool} {r : List (Nat × Nat)} {g : Hp} {hs' : Hs} {a b : ByteArray} (h : a = b) : tlA fz r g hs' (.f (.v (.string a))) (.f (.v (.string b))) := congrArg (fun z => L.v (.string z)) h
theorem tl_f {fz : Bool} {r : List (Nat × Nat)} {g : Hp} {hs' : Hs} {a b : L} (h : a = b) : tlA fz r g hs' (.f a) (.f b) := h
theorem tl_row {fz : Bool} {r : List (Nat × Nat)} {g : Hp} {hs' : Hs} {n m lo hi hi' : Nat} (hn : rn r m = n) (h : hi = hi') : tlA fz r g hs' (.row n lo hi) (.row m lo hi') := by
  subst hn; subst h; rfl
theorem app_row {α : Type} (f : α → List A) (l m : List α) : (l.map f).take l.length ++ m.map f = (l ++ m).map f := by
  rw [List.take_of_length_le (by simp), List.map_append]
theorem app_one {α : Type} (f : α → List A) (l : List α) (x : α) : (l.map f).take l.length ++ [f x] = (l ++ [x]).map f := app_row f l [x]
theorem b_true {p : Prop} [Decidable p] (h : p) : true = decide p := (decide_eq_true h).symm
theorem b_false {p : Prop} [Decidable p] (h : ¬ p) : false = decide p := (decide_eq_false h).symm
theorem frzC_map {K : Nat → Ob → Prop} : ∀ x : List L, frzC K (x.map .f) x
  | [] => trivial
  | y :: x => ⟨.f y, frzC_map x⟩
section
variable {r : List (Nat × Nat)} {g : Hp} {hs' : Hs}
theorem tl_pt {n fl wd off : Nat} {e : List A} {x : List L} (hn : g n = some (some ⟨fl, wd, [e]⟩)) (h4 : Nat.beq fl 4 = false) (hk : kept r hs' n = false) (hx : x ≠ []) (hf : frzC (gone r g hs') (e.drop off) x) : tlA true r g hs' (.pt n 0 off) (.f (.pv x)) := by
  show FrzP r g hs' n 0 off x
  unfold FrzP
  rw [hn]
  exact ⟨hx, h4, ⟨e, rfl, hf⟩, hk⟩
theorem tl_pv {n fl wd : Nat} {x : List L} (hn : g n = some (some ⟨fl, wd, [x.map .f]⟩)) (h4 : Nat.beq fl 4 = false) (hk : kept r hs' n = false) (hx : x ≠ []) : tlA true r g hs' (.pt n 0 0) (.f (.pv x)) := tl_pt hn h4 hk hx (frzC_map x)
theorem tl_fz {n fl wd lo hi : Nat} {es : List (List A)} {ls : List (List L)} (hn : g n = some (some ⟨fl, wd, es⟩)) (h4 : Nat.beq fl 4 = false) (hk : kept r hs' n = false) (hf : FrzR (gone r g hs') ((es.take hi).drop lo) ls) : tlA true r g hs' (.row n lo hi) (.f (.sl wd ls)) := by
  show FrzN r g hs' n lo hi wd ls
  unfold FrzN
  rw [hn]
  exact ⟨rfl, h4, hf, hk⟩
theorem take_all {α : Type} {l : List α} {n : Nat} (h : n = l.length) : (l.take n).drop 0 = l := by rw [h, List.take_length, List.drop_zero]
theorem tl_ints {n fl hi : Nat} {l : List Int} (hn : g n = some (some ⟨fl, 1, l.map intW⟩)) (h4 : Nat.beq fl 4 = false) (hk : kept r hs' n = false) (hi' : hi = l.length) : tlA true r g hs' (.row n 0 hi) (.f (ints l)) :=
  tl_fz hn h4 hk (by rw [take_all (by simpa using hi')]; exact frz_ints l)
theorem tl_txts {n fl hi : Nat} {l : List ByteArray} (hn : g n = some (some ⟨fl, 1, l.map txtW⟩)) (h4 : Nat.beq fl 4 = false) (hk : kept r hs' n = false) (hi' : hi = l.length) : tlA true r g hs' (.row n 0 hi) (.f (txts l)) :=
  tl_fz hn h4 hk (by rw [take_all (by simpa using hi')]; exact frz_txts l)
theorem tl_nds {n fl hi : Nat} {l : List Nd} (hn : g n = some (some ⟨fl, 5, l.map ndW⟩)) (h4 : Nat.beq fl 4 = false) (hk : kept r hs' n = false) (hi' : hi = l.length) : tlA true r g hs' (.row n 0 hi) (.f (nds l)) :=
  tl_fz hn h4 hk (by rw [take_all (by simpa using hi')]; exact frz_nds l)
end
end Go.Proofs.Ytfafehhallbjiaa.Ac
set_option linter.unusedVariables false
set_option linter.unusedSimpArgs false
namespace Go.Proofs.Ytfafehhallbjiaa.Ac
open Go.RowKit
def atFrom (id : Int) : Nat → List Nd → Int
  | _, [] => -1
  | i, n :: l => if n.id = id then i else atFrom id (i + 1) l
theorem l02At_ok (d : Dc) (id : Int) (hlen : d.nodes.length < 2 ^ 62) : FC Try.prog 49 [(true, dcL d), (false, [iL id])] [] [(false, [.f (iL (atFrom id 0 d.nodes))])] := by
  refine gcalls_of tbl_ok mixed Try.func49 rfl Try.ntmps49 (by kernel_rfl) (Nat.le_of_ble_eq_true rfl) rfl rfl trivial ?_
  conv => whnf
  refine ⟨fun (n : Nat) (es : Es) (hs : Hs) => ∃ i : Nat, n + i = d.nodes.length ∧ atFrom id i (d.nodes.drop i) = atFrom id 0 d.nodes ∧ es = [(5, .val false [.f (iL i)]), (2, .val false [.pt 48 0 0]), (1, .val false [.f (iL id)])] ∧ hs = [(48, some ⟨3, 3, [(dcL d).map .f]⟩)], ⟨d.nodes.length, [], [], _, _, ⟨?_, ?_, ?_⟩, 0, rfl, rfl, rfl, rfl⟩, ?_⟩
  · rfl
  · (repeat' first | exact trivial | exact rfl | exact tl_pv rfl rfl rfl (List.cons_ne_nil _ _) | exact tl_ints rfl rfl rfl (by simp) | exact tl_txts rfl rfl rfl (by simp) | exact tl_nds rfl rfl rfl (by simp) | ((conv => whnf); first | exact trivial | exact rfl | exact .inr rfl | exact .inl ⟨rfl, rfl⟩ | apply And.intro) | refine tl_int ?_ | refine tl_bool ?_ | refine tl_str ?_ | refine tl_row rfl ?_ | exact cl_ints _ | exact cl_txts _ | exact cl_nds _ | exact cl_mp _ | exact Nat.succ_pos _ | exact pl_ints _ | exact pl_txts _ | exact pl_nds _ | with_reducible refine tl_f ?_)
  · (repeat' first | exact trivial | exact rfl | exact tl_pv rfl rfl rfl (List.cons_ne_nil _ _) | exact tl_ints rfl rfl rfl (by simp) | exact tl_txts rfl rfl rfl (by simp) | exact tl_nds rfl rfl rfl (by simp) | ((conv => whnf); first | exact trivial | exact rfl | exact .inr rfl | exact .inl ⟨rfl, rfl⟩ | apply And.intro) | refine tl_int ?_ | refine tl_bool ?_ | refine tl_str ?_ | refine tl_row rfl ?_ | exact cl_ints _ | exact cl_txts _ | exact cl_nds _ | exact cl_mp _ | exact Nat.succ_pos _ | exact pl_ints _ | exact pl_txts _ | exact pl_nds _ | with_reducible refine tl_f ?_)
  rintro n es hs ⟨i, hn, ht, rfl, rfl⟩
  conv => whnf
  refine ⟨fun h => ?_, fun h => ?_⟩
  · have hi : i < d.nodes.length := by simpa using h
    conv => whnf
    refine ⟨(i, ndL d.nodes[i]), ⟨rfl, by simp [hi]⟩, ?_⟩
    conv => whnf
    refine ⟨fun h => ?_, fun h => ?_⟩
    · conv => whnf
      refine ⟨[], [], ?_⟩
      (repeat' first | exact trivial | exact rfl | exact tl_pv rfl rfl rfl (List.cons_ne_nil _ _) | exact tl_ints rfl rfl rfl (by simp) | exact tl_txts rfl rfl rfl (by simp) | exact tl_nds rfl rfl rfl (by simp) | ((conv => whnf); first | exact trivial | exact rfl | exact .inr rfl | exact .inl ⟨rfl, rfl⟩ | apply And.intro) | refine tl_int ?_ | refine tl_bool ?_ | refine tl_str ?_ | refine tl_row rfl ?_ | exact cl_ints _ | exact cl_txts _ | exact cl_nds _ | exact cl_mp _ | exact Nat.succ_pos _ | exact pl_ints _ | exact pl_txts _ | exact pl_nds _ | with_reducible refine tl_f ?_)
      rw [← ht, List.drop_eq_getElem_cons hi]
      simp [atFrom, h]
    · conv => whnf
      refine ⟨n - 1, [], [], [(5, .val false [.f (iL (i + 1 : Nat))]), (2, .val false [.pt 48 0 0]), (1, .val false [.f (iL id)])], [(48, some ⟨3, 3, [(dcL d).map .f]⟩)], by omega, ⟨?_, ?_, ?_⟩, i + 1, by omega, ?_, rfl, rfl⟩
      · rfl
      · (repeat' first | exact trivial | exact rfl | exact tl_pv rfl rfl rfl (List.cons_ne_nil _ _) | exact tl_ints rfl rfl rfl (by simp) | exact tl_txts rfl rfl rfl (by simp) | exact tl_nds rfl rfl rfl (by simp) | ((conv => whnf); first | exact trivial | exact rfl | exact .inr rfl | exact .inl ⟨rfl, rfl⟩ | apply And.intro) | refine tl_int ?_ | refine tl_bool ?_ | refine tl_str ?_ | refine tl_row rfl ?_ | exact cl_ints _ | exact cl_txts _ | exact cl_nds _ | exact cl_mp _ | exact Nat.succ_pos _ | exact pl_ints _ | exact pl_txts _ | exact pl_nds _ | with_reducible refine tl_f ?_)
        exact wrap_suc (by omega)
      · (repeat' first | exact trivial | exact rfl | exact tl_pv rfl rfl rfl (List.cons_ne_nil _ _) | exact tl_ints rfl rfl rfl (by simp) | exact tl_txts rfl rfl rfl (by simp) | exact tl_nds rfl rfl rfl (by simp) | ((conv => whnf); first | exact trivial | exact rfl | exact .inr rfl | exact .inl ⟨rfl, rfl⟩ | apply And.intro) | refine tl_int ?_ | refine tl_bool ?_ | refine tl_str ?_ | refine tl_row rfl ?_ | exact cl_ints _ | exact cl_txts _ | exact cl_nds _ | exact cl_mp _ | exact Nat.succ_pos _ | exact pl_ints _ | exact pl_txts _ | exact pl_nds _ | with_reducible refine tl_f ?_)
      · rw [← ht, List.drop_eq_getElem_cons hi]
        simp [atFrom, h]
  · have hi : d.nodes.length ≤ i := by simpa using h
    conv => whnf
    refine ⟨[], [], ?_⟩
    (repeat' first | exact trivial | exact rfl | exact tl_pv rfl rfl rfl (List.cons_ne_nil _ _) | exact tl_ints rfl rfl rfl (by simp) | exact tl_txts rfl rfl rfl (by simp) | exact tl_nds rfl rfl rfl (by simp) | ((conv => whnf); first | exact trivial | exact rfl | exact .inr rfl | exact .inl ⟨rfl, rfl⟩ | apply And.intro) | refine tl_int ?_ | refine tl_bool ?_ | refine tl_str ?_ | refine tl_row rfl ?_ | exact cl_ints _ | exact cl_txts _ | exact cl_nds _ | exact cl_mp _ | exact Nat.succ_pos _ | exact pl_ints _ | exact pl_txts _ | exact pl_nds _ | with_reducible refine tl_f ?_)
    rw [← ht, List.drop_eq_nil_of_le hi]; rfl
theorem within_ok (n lo hi : Int) : FC Try.prog 65 [(false, [iL n]), (false, [iL lo]), (false, [iL hi])] [] [(false, [.f (bL (decide (lo ≤ n ∧ n ≤ hi)))])] := by
  refine gcalls_of tbl_ok mixed Try.func65 rfl Try.ntmps65 (by kernel_rfl) (Nat.le_of_ble_eq_true rfl) rfl rfl trivial ?_
  conv => whnf
  refine ⟨fun h => ?_, fun h => ?_⟩
  · conv => whnf
    refine ⟨fun h => ?_, fun h => ?_⟩
    · conv => whnf
      refine ⟨[], [], ?_⟩
      (repeat' first | exact trivial | exact rfl | exact tl_pv rfl rfl rfl (List.cons_ne_nil _ _) | exact tl_ints rfl rfl rfl (by simp) | exact tl_txts rfl rfl rfl (by simp) | exact tl_nds rfl rfl rfl (by simp) | ((conv => whnf); first | exact trivial | exact rfl | exact .inr rfl | exact .inl ⟨rfl, rfl⟩ | apply And.intro) | refine tl_int ?_ | refine tl_bool ?_ | refine tl_str ?_ | refine tl_row rfl ?_ | exact cl_ints _ | exact cl_txts _ | exact cl_nds _ | exact cl_mp _ | exact Nat.succ_pos _ | exact pl_ints _ | exact pl_txts _ | exact pl_nds _ | with_reducible refine tl_f ?_)
      exact b_true (by omega)
    · conv => whnf
      refine ⟨[], [], ?_⟩
      (repeat' first | exact trivial | exact rfl | exact tl_pv rfl rfl rfl (List.cons_ne_nil _ _) | exact tl_ints rfl rfl rfl (by simp) | exact tl_txts rfl rfl rfl (by simp) | exact tl_nds rfl rfl rfl (by simp) | ((conv => whnf); first | exact trivial | exact rfl | exact .inr rfl | exact .inl ⟨rfl, rfl⟩ | apply And.intro) | refine tl_int ?_ | refine tl_bool ?_ | refine tl_str ?_ | refine tl_row rfl ?_ | exact cl_ints _ | exact cl_txts _ | exact cl_nds _ | exact cl_mp _ | exact Nat.succ_pos _ | exact pl_ints _ | exact pl_txts _ | exact pl_nds _ | with_reducible refine tl_f ?_)
      exact b_false (by omega)
  · conv => whnf
    refine ⟨[], [], ?_⟩
    (repeat' first | exact trivial | exact rfl | exact tl_pv rfl rfl rfl (List.cons_ne_nil _ _) | exact tl_ints rfl rfl rfl (by simp) | exact tl_txts rfl rfl rfl (by simp) | exact tl_nds rfl rfl rfl (by simp) | ((conv => whnf); first | exact trivial | exact rfl | exact .inr rfl | exact .inl ⟨rfl, rfl⟩ | apply And.intro) | refine tl_int ?_ | refine tl_bool ?_ | refine tl_str ?_ | refine tl_row rfl ?_ | exact cl_ints _ | exact cl_txts _ | exact cl_nds _ | exact cl_mp _ | exact Nat.succ_pos _ | exact pl_ints _ | exact pl_txts _ | exact pl_nds _ | with_reducible refine tl_f ?_)
    exact b_false (by omega)
theorem within_t {n lo hi : Int} (h : lo ≤ n ∧ n ≤ hi) : FC Try.prog 65 [(false, [iL n]), (false, [iL lo]), (false, [iL hi])] [] [(false, [.f (bL true)])] := by
  have := within_ok n lo hi
  rwa [decide_eq_true h] at this
theorem within_f {n lo hi : Int} (h : ¬ (lo ≤ n ∧ n ≤ hi)) : FC Try.prog 65 [(false, [iL n]), (false, [iL lo]), (false, [iL hi])] [] [(false, [.f (bL false)])] := by
  have := within_ok n lo hi
  rwa [decide_eq_false h] at this
end Go.Proofs.Ytfafehhallbjiaa.Ac
