/- The spec's source of arguments, and the program's numbers and texts by short names: in plain Lean. -/
import Derived.Test.YtnppmhijoaeibaaPSrcx
import Derived.Test.YtnppmhijoaeibaaPSomex
import Derived.Test.YtnppmhijoaeibaaNumbersP
set_option linter.unusedVariables false
set_option linter.unusedSimpArgs false
namespace Go.Proofs.Ytnppmhijoaeibaa.H
open Go.RowKit Go.Proofs.YtnppmhijoaeibaaW.PrintWords Go.Proofs.YtnppmhijoaeibaaW.PrintLast Go.Proofs.Ytnppmhijoaeibaa.Q

def Bytes (l : List Int) : Prop := ∀ x ∈ l, 0 ≤ x ∧ x ≤ 255
theorem rd_bytes {l : List Int} (h : Bytes l) (i : Int) : 0 ≤ rd l i ∧ rd l i ≤ 255 := by
  unfold rd
  rw [List.getD_eq_getElem?_getD]
  cases hx : l[i.toNat]? with
  | none => simp
  | some x => exact h x (List.mem_of_getElem? hx)
theorem bytes_of {l : List Int} (h : ∀ x ∈ l, (Lit.int .u8 x).wf = true) : Bytes l := fun x hx => by
  have := h x hx
  simp [Lit.wf] at this
  have e0 : IntKind.u8.min = 0 := by decide
  have e1 : IntKind.u8.max = 255 := by decide
  omega
theorem at_some {l : List Int} (hl : l.length ≤ 1048576) (hb : Bytes l) (i n : Int) (hi : 0 ≤ i) (hi' : i ≤ 1000) (hn : 0 < n) : ∃ r, laws_at.f l i n = some r ∧ 0 ≤ r ∧ r < n := by
  unfold laws_at.f
  by_cases h1 : n ≤ 1
  · rw [if_pos h1]; exact ⟨0, rfl, by omega, by omega⟩
  rw [if_neg h1]
  have key : ∀ x : Int, 0 ≤ x → 0 ≤ Int.tmod x n ∧ Int.tmod x n < n := fun x hx => ⟨Int.tmod_nonneg _ hx, by rw [tmodE hx]; exact Int.emod_lt_of_pos _ hn⟩
  by_cases h0 : (l.length : Int) = 0
  · rw [if_pos h0, if_neg (by omega), wid (by omega) (by omega)]
    exact ⟨_, rfl, key _ (by omega)⟩
  have hp : (0 : Int) < l.length := by omega
  have q1 : 0 ≤ Int.tmod i (l.length : Int) := Int.tmod_nonneg _ hi
  have q2 : Int.tmod i (l.length : Int) < l.length := by rw [tmodE hi]; exact Int.emod_lt_of_pos _ hp
  have q3 : 0 ≤ Int.tmod (i + 1) (l.length : Int) := Int.tmod_nonneg _ (by omega)
  have q4 : Int.tmod (i + 1) (l.length : Int) < l.length := by rw [tmodE (by omega)]; exact Int.emod_lt_of_pos _ hp
  have r1 := rd_bytes hb (Int.tmod i (l.length : Int))
  have r2 := rd_bytes hb (Int.tmod (i + 1) (l.length : Int))
  have d1 : 0 ≤ Int.tdiv i (l.length : Int) := Int.tdiv_nonneg hi (by omega)
  have d2 : Int.tdiv i (l.length : Int) ≤ 1000 := by rw [tdivE hi]; exact Int.le_trans (Int.ediv_le_self _ hi) hi'
  have e0 : wrap64 (i + 1) = i + 1 := wid (by omega) (by omega)
  rw [if_neg h0, if_pos q1, if_pos q2, e0, if_pos q3, if_pos q4, if_neg (by omega)]
  generalize rd l (Int.tmod i (l.length : Int)) = x at *
  generalize rd l (Int.tmod (i + 1) (l.length : Int)) = y at *
  generalize Int.tdiv i (l.length : Int) = z at *
  rw [wid (x := x) (by omega) (by omega), wid (x := y) (by omega) (by omega), wid (x := z) (by omega) (by omega), wid (x := x * 31) (by omega) (by omega), wid (x := x * 31 + y) (by omega) (by omega), wid (by omega) (by omega)]
  exact ⟨_, rfl, key _ (by omega)⟩
theorem some_loop {c : List Int} (hb : Bytes c) (hc : c.length ≤ 1048576) (n : Int) (hn : n ≤ 1000000) (d : Nat) : ∀ (i p s : Int) (l : List Int), n - i = d → 0 ≤ i → 0 ≤ p → p + d ≤ 1099511627776 → 0 ≤ s → s < 2147483648 → l.length = i.toNat →
    ∃ r p' s', (∀ k, spec_l00Src_some.l0 (k + d + 1) n l i c p s = some (r, p', s')) ∧ (r.size : Int) = n := by
  induction d with
  | zero =>
    intro i p s l hi h0 hp hp2 hs hs2 hl
    refine ⟨strOfNums l, p, s, fun k => ?_, ?_⟩
    · rw [spec_l00Src_some.l0, if_neg (by omega)]
    · rw [strOfNums_size]; omega
  | succ d ih =>
    intro i p s l hi h0 hp hp2 hs hs2 hl
    have rb := rd_bytes hb p
    have hby : ∃ x s', spec_l00Src_byte.f c p s = some (x, p + 1, s') ∧ 0 ≤ s' ∧ s' < 2147483648 := by
      unfold spec_l00Src_byte.f
      rw [if_pos ⟨hp, by omega, hs, hs2, rb.1, rb.2⟩]
      by_cases g : p < c.length
      · rw [if_pos g]; exact ⟨_, _, rfl, by omega, by omega⟩
      · rw [if_neg g]
        by_cases g2 : 3000 ≤ p
        · rw [if_pos g2]; exact ⟨_, _, rfl, hs, hs2⟩
        · rw [if_neg g2]; exact ⟨_, _, rfl, by omega, by omega⟩
    obtain ⟨x, s', hx, hs1, hs3⟩ := hby
    obtain ⟨r, p', s2, hr, hz⟩ := ih (i + 1) (p + 1) s' (l ++ [x % 256]) (by omega) (by omega) (by omega) (by omega) hs1 hs3 (by simp; omega)
    refine ⟨r, p', s2, fun k => ?_, hz⟩
    rw [spec_l00Src_some.l0, if_pos (by omega), hx]
    simp only [Option.bind_some]
    rw [if_pos (by omega), wid (x := i + 1) (by omega) (by omega)]
    exact hr k
theorem someText {c : List Int} (hb : Bytes c) (hc : c.length ≤ 1048576) (n : Int) (h0 : 0 ≤ n) (hn : n ≤ 1000000) : ∃ r : ByteArray, Ev (fun k => spec_SomeText.f k c n) r ∧ (r.size : Int) = n := by
  obtain ⟨r, p', s', hr, hz⟩ := some_loop hb hc n hn n.toNat 0 0 ((c.length : Int) % 1000) [] (by omega) (by omega) (by omega) (by omega) (by omega) (by omega) rfl
  refine ⟨r, Ev.val (n.toNat + 1) fun k => ?_, hz⟩
  unfold spec_SomeText.f spec_l00Source.f spec_l00Src_some.f
  simp only [Option.bind_some]
  rw [← Nat.add_assoc, hr k]; rfl
theorem putN {n : Int} (h0 : 0 ≤ n) (h1 : n ≤ 999999) : impl_PutNumber.f n = some (putS n, 0) := by
  unfold impl_PutNumber.f impl_within.f; rw [if_pos h0]; simp only [Option.bind_some, decide_eq_true_eq]; rw [if_pos h1, number_eq (by omega)]; rfl
theorem putNs {n : Int} (h0 : 0 ≤ n) (h1 : n ≤ 999999) : Ev (fun k => spec_PutNumber.f k n) (putS n, 0) := by
  refine Ev.congr (fun k => ?_) ((l01Put_eq h0 (by omega)).bind (f := fun _ r => some (r, 0)) (Ev.const rfl))
  unfold spec_PutNumber.f spec_l01In.f; rw [if_pos h0]; simp only [Option.bind_some, decide_eq_true_eq]; rw [if_pos h1]
theorem putNo {n : Int} (h : 999999 < n) : impl_PutNumber.f n = some (noS, 4) := by
  unfold impl_PutNumber.f impl_within.f; rw [if_pos (by omega)]; simp only [Option.bind_some, decide_eq_true_eq]; rw [if_neg (by omega)]; rfl
theorem putT {t : ByteArray} (h : t.size ≤ 65536) : impl_PutText.f t = some (textS t, 0) := by
  unfold impl_PutText.f impl_isLong.f; simp only [Option.bind_some, decide_eq_true_eq]; rw [if_neg (by omega), text_eq (by omega)]; rfl
theorem putTs {t : ByteArray} (h : t.size ≤ 65536) : Ev (fun k => spec_PutText.f k t) (textS t, 0) := by
  refine Ev.congr (fun k => ?_) ((l01PutText_eq (by omega)).bind (f := fun _ r => some (r, 0)) (Ev.const rfl))
  unfold spec_PutText.f; rw [if_neg (by omega)]
theorem takeN {t : ByteArray} {p : Int} (h0 : 0 ≤ p) (h1 : p ≤ t.size) (h : t.size ≤ 65536) : Ev (fun k => impl_TakeNumber.f k t p) ((takeP t p).1, (takeP t p).2.2) := by
  refine Ev.congr (fun k => ?_) ((takeNumber_in h0 h1 (by omega)).bind (f := fun _ r => some (r.1, r.2)) (Ev.const rfl))
  unfold impl_TakeNumber.f impl_isLong.f; simp only [Option.bind_some, decide_eq_true_eq]; rw [if_neg (by omega)]
theorem takeT {t : ByteArray} {p : Int} (h0 : 0 ≤ p) (h1 : p ≤ t.size) (h : t.size ≤ 65536) : Ev (fun k => impl_TakeText.f k t p) (takeTextP t p) := by
  refine Ev.congr (fun k => ?_) ((takeText_in h0 h1 (by omega)).bind (f := fun _ r => some (r.1, r.2.1, r.2.2)) (Ev.const rfl))
  unfold impl_TakeText.f impl_isLong.f; simp only [Option.bind_some, decide_eq_true_eq]; rw [if_neg (by omega)]

end Go.Proofs.Ytnppmhijoaeibaa.H
