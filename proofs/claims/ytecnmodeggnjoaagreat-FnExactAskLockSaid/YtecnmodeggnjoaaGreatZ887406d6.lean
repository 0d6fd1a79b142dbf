/- Several of our texts, one behind the other, without what this claim does not need: AcO. -/
import Derived.Test.YtecnmodeggnjoaaGreatZb4f5bea0
import Derived.Laws.BytesString
set_option linter.unusedVariables false
set_option linter.unusedSimpArgs false
namespace Go.Proofs.YtecnmodeggnjoaaGreat.Ac
open Go.RowKit
section
variable {P : Program} {tb : Tab} {g : Hp} {φ : Phi} {w : World} {h : Array Obj} {H : Hp}
theorem put1_same {n : Nat} {ob : Ob} (hn : g n = some (some ob)) : put1 g n (some ob) = g := by
  funext q
  by_cases hq : q = n
  · subst hq; rw [put1_self, hn]
  · rw [put1_ne _ hq]
theorem retag_ok (ok : HeapOK h g φ) {n fl : Nat} {ob : Ob} (hf4 : ob.fl ≠ 4) (hf4' : fl ≠ 4) {ex : List (List A)} (hn : g n = some (some ob)) (hex : ∀ hd, φ (n, []) = some hd → ob.es.length + ex.length ≤ hd.cap ∧ (fl ≠ 0 → ob.es.length + ex.length = hd.cap)) (hw : ∀ e ∈ ex, e.length = ob.wd ∧ ∀ x ∈ e, x = .un none)
    (h0 : φ (n, []) = none → ex = []) : HeapOK h (put1 g n (some ⟨fl, ob.wd, ob.es ++ ex⟩)) φ ∧ Turn h g φ h (put1 g n (some ⟨fl, ob.wd, ob.es ++ ex⟩)) φ := by
  rcases ((ok.ob n _ hn).row hf4) with ⟨hes, hp⟩ | ⟨hd, c, ty, g1, g2, g3, g4, g5⟩
  · have := h0 hp
    subst this
    rw [hes, List.append_nil]
    have t : Turn h g φ h (put1 g n (some ⟨fl, ob.wd, []⟩)) φ := by
      refine ⟨rfl, fun b hb hO => ⟨hO, rfl⟩, fun m hm => ?_, fun m x hm => .inr ?_⟩
      · rw [put1_ne _ fun e => by rw [e, hn] at hm; cases hm]; exact hm
      · by_cases e : m = n
        · subst e
          rw [hn] at hm
          cases hm
          exact ⟨_, put1_self _ _, rfl, rfl, by rw [hes]; exact Nat.le_refl _⟩
        · exact ⟨x, (put1_ne _ e).trans hm, rfl, rfl, Nat.le_refl _⟩
    refine ⟨all_ob (fun m x hm => ?_) ok.lt ok.apart ok.old ok.inj, t⟩
    by_cases e : m = n
    · subst e; rw [put1_self] at hm; cases hm
      exact obRow (ok.ob m _ hn).1 hf4' (.inl ⟨rfl, hp⟩)
    · rw [put1_ne _ e] at hm
      exact (ok.ob m x hm).keep (fun _ _ r => r.turn t) (fun q => rfl) fun _ _ _ => rfl
  · obtain ⟨a1, a2⟩ := hex hd g1
    refine upd_ok (ob' := ⟨fl, ob.wd, ob.es ++ ex⟩) ok hf4' hn g1 (fun _ _ => rfl) g2 rfl (by simp) ⟨g3.wd0, fun e he => ?_, by simpa using a1, g3.cap, g3.size, g3.one⟩ (fun h => by simpa using a2 h) fun i e j x hi hj => ?_
    · rcases List.mem_append.1 he with he | he
      · exact g3.len e he
      · exact (hw e he).1
    · dsimp only at hi ⊢
      by_cases hlt : i < ob.es.length
      · rw [List.getElem?_append_left hlt] at hi
        exact g5 i e j x hi hj
      · rw [List.getElem?_append_right (by omega)] at hi
        obtain ⟨b1, b2⟩ := hw e (List.mem_of_getElem? hi)
        have := b2 x (List.mem_of_getElem? hj)
        subst this
        refine .e _ _ _ (.un none _ (g3.one _ ?_) (fun n h => by cases h))
        have h1 := (List.getElem?_eq_some_iff.1 hi).1
        have h2 := (List.getElem?_eq_some_iff.1 hj).1
        rw [b1] at h2
        have := idx_lt (i := i) (i' := hd.cap) (j := j) (wd := ob.wd) (by omega) h2
        rw [g3.size]; omega
theorem cap_does (hT : TabOK P tb) (ok : HeapOK w.heap g φ) {t : TypeId} {l : Lay} (hl : tb t = some l) {x : T} {u : Value} (hx : RepT w.heap g φ x u) (ty : TypeId) (cn : Array Bool) (rs : List Nat) :
    DoesO P w g φ (builtin .cap #[t] ty cn #[u]) rs (capO l x) := by
  have run : ∀ {el : TypeId} {z : A} {bt : Nat}, l = .w (.slice el) z bt → ∀ {a : Option Addr} {n cap : Nat}, u = .slice a n cap → (builtin .cap #[t] ty cn #[u]).run P w = .ok (.value (.int .i64 cap)) w := by
    rintro el z bt rfl a n cap rfl
    obtain ⟨hu, _⟩ := hT.w t _ z bt hl
    simp [builtin, Builtin.cap_, run_underlying hu, goInt]
  intro k h
  unfold capO at h
  split at h
  · rename_i el z bt wd es
    have r := rep_one hx
    cases r with
    | f _ _ r =>
    cases r with
    | nil => exact ⟨_, h _ (.inr rfl), Does.value ok (run rfl rfl) (tI_rep _ _)⟩
    | sl _ _ b off cap c ty fr hw he hb hO hlen hs hc hr => exact ⟨_, h _ (.inl hc), Does.value ok (run rfl rfl) (tI_rep _ _)⟩
  · have r := rep_one hx
    cases r with
    | nl a => exact ⟨_, h, Does.value ok (run rfl rfl) (tI_rep _ _)⟩
  · rename_i el z bt n lo hi
    obtain ⟨fl, wd, es, hn, hf4, hA⟩ := alive_elim h
    clear h
    have r := rep_one hx
    have r2 : RefRow g φ n lo hi u := by cases r; assumption
    have r3 := r2.2
    rw [hn] at r3
    obtain ⟨h1, h2, r3⟩ := r3
    dsimp only at h2 r3
    split at hA
    · rcases ((ok.ob n _ hn).row hf4) with ⟨hes, hp⟩ | ⟨hd, c, ty', g1, g2, g3, g4, g5⟩
      · rw [hp] at r3
        obtain ⟨a, rfl⟩ := r3
        dsimp only at hes
        subst hes
        refine ⟨_, hA, Does.value ok (u := .int .i64 (0 : Nat)) (run rfl rfl) ?_⟩
        rw [List.length_nil, Nat.zero_sub]; exact tI_rep _ _
      · rw [g1] at r3
        obtain ⟨a, rfl, _⟩ := r3
        have := g4 (show (1 : Nat) ≠ 0 by decide)
        dsimp only at this
        rw [this] at hA
        exact ⟨_, hA, Does.value ok (run rfl rfl) (tI_rep _ _)⟩
    · rcases ((ok.ob n _ hn).row hf4) with ⟨hes, hp⟩ | ⟨hd, c, ty', g1, g2, g3, g4, g5⟩
      · rw [hp] at r3
        obtain ⟨a, rfl⟩ := r3
        dsimp only at hes
        subst hes
        have hK := hA 0 (by simp [maxLen])
        obtain ⟨ok', t'⟩ := retag_ok (fl := 1) (ex := []) ok hf4 (by decide) hn (fun hd h => by rw [hp] at h; cases h) (fun e he => by cases he) fun _ => rfl
        rw [← putH_one] at ok' t'
        refine ⟨_, hK, Does.made (run rfl rfl) ok' t' ?_ rfl rfl rfl (Nat.le_refl _)⟩
        rw [List.length_nil, Nat.zero_add, Nat.zero_sub]; exact tI_rep _ _
      · rw [g1] at r3
        obtain ⟨a, rfl, _⟩ := r3
        have hle := g3.le
        have hcm := g3.cap
        dsimp only at hle
        have hK := hA (hd.cap - es.length) (by omega)
        obtain ⟨ok', t'⟩ := retag_ok (fl := 1) (ex := junk wd (hd.cap - es.length)) ok hf4 (by decide) hn (fun hd' h => by rw [g1] at h; cases h; simp [junk]; omega) (fun e he => by
          have := List.eq_of_mem_replicate he
          subst this
          exact ⟨by simp, fun x hx => List.eq_of_mem_replicate hx⟩) fun h => by rw [g1] at h; cases h
        rw [← putH_one] at ok' t'
        refine ⟨_, hK, Does.made (run rfl rfl) ok' t' ?_ rfl rfl rfl (Nat.le_refl _)⟩
        rw [show es.length + (hd.cap - es.length) - lo = hd.cap - lo by omega]; exact tI_rep _ _
    · exact hA.elim
  · exact h.elim
theorem write_slice (ok : HeapOK w.heap g φ) {n lo hi fl wd m : Nat} {es new : List (List A)} {news : List Value} (hn : g n = some (some ⟨fl, wd, es⟩)) (hf4 : fl ≠ 4) {u : Value} (r : RefRow g φ n lo hi u) (hs : Src w g φ wd new m news) (hm : lo + m ≤ hi) (hpos : 0 < m) :
    ∃ b off c ty cap, u = .slice (some ⟨b, off, none⟩) (hi - lo) cap ∧ w.heap[b]? = some (.cells c ty (0, 0)) ∧ off + news.length ≤ c.size ∧
      HeapOK (w.setRow b (c.toList.take off ++ news ++ c.toList.drop (off + news.length)).toArray).heap (put1 g n (some ⟨fl, wd, es.take lo ++ new ++ es.drop (lo + m)⟩)) φ ∧
      Turn w.heap g φ (w.setRow b (c.toList.take off ++ news ++ c.toList.drop (off + news.length)).toArray).heap (put1 g n (some ⟨fl, wd, es.take lo ++ new ++ es.drop (lo + m)⟩)) φ := by
  have r3 := r.2
  rw [hn] at r3
  obtain ⟨h1, h2, r3⟩ := r3
  dsimp only at h2 r3
  rcases ((ok.ob n _ hn).row hf4) with ⟨hes, hp⟩ | ⟨hd, c, ty', g1, g2, g3, g4, g5⟩
  · dsimp only at hes; subst hes; simp at h2; omega
  · rw [g1] at r3
    obtain ⟨a, rfl, ha⟩ := r3
    rw [ha (.inr (by have := g3.le; dsimp only at this; omega))]
    dsimp only at g3 g4 g5
    have hfit : hd.off + lo * wd + news.length ≤ c.size := by
      rw [g3.size, hs.sz, Nat.add_assoc, ← Nat.add_mul]
      exact Nat.add_le_add_left (Nat.mul_le_mul_right _ (by have := g3.le; omega)) _
    have htl : (es.take lo).length = lo := by simp; omega
    have hl3 : (es.take lo ++ new ++ es.drop (lo + m)).length = es.length := by simp only [List.length_append, htl, hs.len, List.length_drop]; omega
    have hsg := seg_get es lo new (by rw [hs.len]; omega)
    rw [hs.len] at hsg
    refine ⟨_, _, c, ty', _, rfl, g2, hfit, write_ok ok hf4 hn g1 g2 g3 g4 g5 (es' := es.take lo ++ new ++ es.drop (lo + m)) hfit hs.one (fun e he => by
      simp only [List.mem_append] at he
      rcases he with (he | he) | he
      · exact g3.len e (List.mem_of_mem_take he)
      · exact hs.wd e he
      · exact g3.len e (List.mem_of_mem_drop he)) hl3 fun i e j x hi hj => ?_⟩
    rw [hsg] at hi
    split at hi
    · rename_i hii
      have h1 := (List.getElem?_eq_some_iff.1 hi).1
      have h2 := (List.getElem?_eq_some_iff.1 hj).1
      rw [hs.wd e (List.mem_of_getElem? hi)] at h2
      rw [hs.len] at h1
      have h3 : (i - lo) * wd + j < m * wd := idx_lt h1 h2
      have e4 : i * wd = lo * wd + (i - lo) * wd := by rw [← Nat.add_mul]; congr 1; omega
      refine .inl ⟨by omega, by rw [hs.sz]; omega, ?_⟩
      rw [show hd.off + i * wd + j - (hd.off + lo * wd) = (i - lo) * wd + j by omega]
      exact hs.rep _ e j x hi hj
    · rename_i hii
      have h2 := (List.getElem?_eq_some_iff.1 hj).1
      rw [g3.len e (List.mem_of_getElem? hi)] at h2
      refine .inr ⟨?_, e, hi, hj⟩
      rw [hs.sz]
      rintro ⟨a1, a2⟩
      rcases Nat.lt_or_ge i lo with hlt2 | hge2
      · have := idx_lt hlt2 h2; omega
      · have := Nat.mul_le_mul_right wd (show lo + m ≤ i by omega)
        rw [Nat.add_mul] at this; omega
theorem Src.take {size m k : Nat} {new : List (List A)} {news : List Value} (s : Src w g φ size new m news) (hk : k ≤ m) : Src w g φ size (new.take k) k (news.take (k * size)) := by
  refine ⟨by simp [s.len, hk], fun e he => s.wd e (List.mem_of_mem_take he), by rw [List.length_take, s.sz]; exact Nat.min_eq_left (Nat.mul_le_mul_right _ hk), fun x hx => s.one x (List.mem_of_mem_take hx), fun i e j x hi hj => ?_⟩
  rw [List.getElem?_take] at hi
  split at hi
  · rename_i hik
    have h2 := (List.getElem?_eq_some_iff.1 hj).1
    rw [s.wd e (List.mem_of_getElem? hi)] at h2
    have h3 : i * size + j < k * size := idx_lt hik h2
    have := s.rep i e j x hi hj
    rwa [List.getD_eq_getElem?_getD, List.getElem?_take, if_pos h3, ← List.getD_eq_getElem?_getD]
  · cases hi
theorem copy_does (hT : TabOK P tb) (ok : HeapOK w.heap g φ) {t el : TypeId} {z : A} {bt : Nat} {l : Lay} (ht : tb t = some (.w (.slice el) z bt)) (hl : tb el = some l) (hpos : 0 < l.size) {x y : T} {vx vy : Value} (hx : RepT w.heap g φ x vx) (hy : RepT w.heap g φ y vy) (ts : Array TypeId) (hts : ts[0]? = some t) (ty : TypeId) (cn : Array Bool) (rs : List Nat) :
    DoesO P w g φ (builtin .copy ts ty cn #[vx, vy]) rs (copyO l x y) := by
  obtain ⟨ht', _⟩ := hT.w t _ z bt ht
  obtain ⟨inf, hi, hsz, _⟩ := tab_size hT hl
  intro k h
  unfold copyO at h
  obtain ⟨new, rs', m, news, hA, ⟨a, cap, rfl, hf⟩, hs⟩ := src_elim (P := P) ok hpos hy h
  clear h
  rw [← hsz] at hf
  split at hA
  · rename_i n lo hi'
    obtain ⟨fl, wd, es, hn, hf4, hB⟩ := alive_elim hA
    clear hA
    obtain ⟨hb, hB⟩ := cond_K hB
    have e1 := Nat.eq_of_beq_eq_true hb
    subst e1
    obtain ⟨es', hes', h⟩ := hB
    rw [hs.len] at hes' h
    have r := rep_one hx
    have r2 : RefRow g φ n lo hi' vx := by cases r; assumption
    have r3 := r2.2
    rw [hn] at r3
    obtain ⟨h1, h2, r3⟩ := r3
    dsimp only at h2 r3
    have hk : min m (hi' - lo) ≤ m := Nat.min_le_left _ _
    have hfc := (hf w rfl).2 _ hk
    have htake : new.take (hi' - lo) = new.take (min m (hi' - lo)) := by
      rcases Nat.le_total m (hi' - lo) with h | h
      · rw [Nat.min_eq_left h, List.take_of_length_le (by rw [hs.len]; exact h), List.take_of_length_le (by rw [hs.len]; exact Nat.le_refl _)]
      · rw [Nat.min_eq_right h]
    rw [htake] at hes'
    rcases Nat.eq_zero_or_pos (min m (hi' - lo)) with h0 | h0
    · rw [h0] at hes' hfc h
      simp only [List.take_zero, List.append_nil, Nat.add_zero, List.take_append_drop, Nat.zero_mul] at hes' hfc
      subst hes'
      have hvx : ∃ a' cap', vx = .slice a' (hi' - lo) cap' := by
        cases hp : φ (n, []) with
        | none =>
          rw [hp] at r3
          obtain ⟨a', rfl⟩ := r3
          rcases ((ok.ob n _ hn).row hf4) with ⟨h3, _⟩ | ⟨hd', c, ty, g1, _⟩
          · simp only at h3; subst h3; simp at h2
            exact ⟨a', 0, by rw [h2, Nat.zero_sub]⟩
          · rw [hp] at g1; cases g1
        | some hd => rw [hp] at r3; obtain ⟨a', rfl, _⟩ := r3; exact ⟨_, _, rfl⟩
      obtain ⟨a', cap', rfl⟩ := hvx
      have h0' : Nat.min m (hi' - lo) = 0 := h0
      refine ⟨_, h, Does.made (u := .int .i64 (0 : Nat)) (φ' := φ) (w' := w) ?_ ?_ ?_ (tI_rep _ _) rfl rfl rfl (Nat.le_refl _)⟩
      · cases a' <;> simp [builtin, Builtin.copy_, hts, run_underlying ht', sizeOf, typeInfo, hi, Builtin.lenOf, h0', hfc, storeCells, goInt]
      · rw [putH_one, put1_same hn]; exact ok
      · rw [putH_one, put1_same hn]; exact Turn.refl _ _ _
    · obtain ⟨b, off, c, ty', cap', rfl, hbk, hfit, ok', t'⟩ := write_slice ok hn hf4 r2 (hs.take hk) (by have := Nat.min_le_right m (hi' - lo); omega) h0
      rw [hes', ← putH_one] at ok' t'
      have hone := (hs.take hk).one
      have hst := run_storeCells_at P b off ty' (news.take (min m (hi' - lo) * l.size)) 0 c w hbk (by simpa using hfit) hone
      simp only [Nat.add_zero] at hst
      rw [← hsz] at hst
      clear hes' htake
      generalize hkk : min m (hi' - lo) = kk at h hfc hst h0 hk ok' t' hfit hone ⊢
      have hkk' : Nat.min m (hi' - lo) = kk := hkk
      refine ⟨_, h, Does.made (u := .int .i64 (kk : Int)) ?_ ok' t' (tI_rep _ _) rfl rfl rfl (by simp [World.setRow])⟩
      rw [← hsz]
      simp [builtin, Builtin.copy_, hts, run_underlying ht', sizeOf, typeInfo, hi, Builtin.lenOf, hkk', hfc, hst, goInt]
  · have r := rep_one hx
    cases r with
    | nl a' =>
      have hfc := (hf w rfl).2 0 (Nat.zero_le _)
      simp only [Nat.zero_mul, List.take_zero] at hfc
      have h0' : Nat.min m 0 = 0 := Nat.min_zero m
      refine ⟨_, hA, Does.value ok (u := .int .i64 0) ?_ (tI_rep _ _)⟩
      cases a' <;> simp [builtin, Builtin.copy_, hts, run_underlying ht', sizeOf, typeInfo, hi, Builtin.lenOf, h0', hfc, storeCells, goInt]
  · exact hA.elim
end
end Go.Proofs.YtecnmodeggnjoaaGreat.Ac
