/- Several of our texts, one behind the other, without what this claim does not need: Sa, Rx. -/
import Derived.Test.YtecnmodeggnjoaaGreatZ2e4902f1
import Derived.Test.YtecnmodeggnjoaaGreatZe0d619a2
import Derived.Test.YtecnmodeggnjoaaGreatZdc3d02e4
import Derived.Test.YtecnmodeggnjoaaGreatZb0c9fef1
set_option linter.unusedVariables false
set_option linter.unusedSimpArgs false
set_option maxRecDepth 20000
set_option maxHeartbeats 20000000
namespace Go.Proofs.YtecnmodeggnjoaaGreat.Ac
open Go.RowKit
theorem FC.t {P : Program} {f : FuncId} {a : List (Bool × List L)} {H1 : Hs} {p : Prop} [Decidable p] (h : FC P f a H1 [(false, [.f (bL (decide p))])]) (hp : p) : FC P f a H1 [(false, [.f (bL true)])] := by rwa [decide_eq_true hp] at h
theorem FC.n {P : Program} {f : FuncId} {a : List (Bool × List L)} {H1 : Hs} {p : Prop} [Decidable p] (h : FC P f a H1 [(false, [.f (bL (decide p))])]) (hp : ¬ p) : FC P f a H1 [(false, [.f (bL false)])] := by rwa [decide_eq_false hp] at h
@[reducible] def uL (c : Int) : L := .v (.int .u8 c)
def LetP (c : Int) : Prop := 97 ≤ c ∧ c ≤ 122 ∨ 65 ≤ c ∧ c ≤ 90 ∨ c = 95
def DigP (c : Int) : Prop := 48 ≤ c ∧ c ≤ 57
instance (c : Int) : Decidable (LetP c) := by unfold LetP; infer_instance
instance (c : Int) : Decidable (DigP c) := by unfold DigP; infer_instance
theorem isLetter_ok (c : Int) : FC Tryz.prog 373 [(false, [uL c])] [] [(false, [.f (bL (decide (LetP c)))])] := by
  refine gr Tryz.func373 Tryz.ntmps373 trivial ?_
  (repeat' (apply And.intro <;> intro h <;> refine nx ?_)); (all_goals refine ⟨[], [], ?_⟩)
  all_goals (try (repeat' first | exact trivial | exact rfl | exact tl_pv rfl rfl rfl (List.cons_ne_nil _ _) | exact ⟨_, rfl, frzC_map _⟩ | exact tl_ints rfl rfl rfl (by simp) | exact tl_txts rfl rfl rfl (by simp) | exact tl_nds rfl rfl rfl (by simp) | ((conv => whnf); first | exact trivial | exact rfl | exact .inr rfl | exact .inl ⟨rfl, rfl⟩ | apply And.intro) | refine tl_int ?_ | refine tl_bool ?_ | refine tl_str ?_ | refine tl_row rfl ?_ | exact cl_ints _ | exact cl_txts _ | exact cl_nds _ | exact cl_mp _ | exact Nat.succ_pos _ | exact pl_ints _ | exact pl_txts _ | exact pl_nds _ | with_reducible refine tl_f ?_)); all_goals (try first | rfl | assumption | exact q.symm | omega | (rw [IntKind.wrap_i64]; omega) | (simp; done) | (simp; omega))
  all_goals first | exact b_true (by unfold LetP; omega) | exact b_false (by unfold LetP; omega)
theorem l00Letter_ok (c : Int) : FC Tryz.prog 370 [(false, [uL c])] [] [(false, [.f (bL (decide (LetP c)))])] := by
  refine gr Tryz.func370 Tryz.ntmps370 trivial ?_
  (repeat' (apply And.intro <;> intro h <;> refine nx ?_)); (all_goals refine ⟨[], [], ?_⟩)
  all_goals (try (repeat' first | exact trivial | exact rfl | exact tl_pv rfl rfl rfl (List.cons_ne_nil _ _) | exact ⟨_, rfl, frzC_map _⟩ | exact tl_ints rfl rfl rfl (by simp) | exact tl_txts rfl rfl rfl (by simp) | exact tl_nds rfl rfl rfl (by simp) | ((conv => whnf); first | exact trivial | exact rfl | exact .inr rfl | exact .inl ⟨rfl, rfl⟩ | apply And.intro) | refine tl_int ?_ | refine tl_bool ?_ | refine tl_str ?_ | refine tl_row rfl ?_ | exact cl_ints _ | exact cl_txts _ | exact cl_nds _ | exact cl_mp _ | exact Nat.succ_pos _ | exact pl_ints _ | exact pl_txts _ | exact pl_nds _ | with_reducible refine tl_f ?_)); all_goals (try first | rfl | assumption | exact q.symm | omega | (rw [IntKind.wrap_i64]; omega) | (simp; done) | (simp; omega))
  all_goals first | exact b_true (by unfold LetP; omega) | exact b_false (by unfold LetP; omega)
theorem l00Digit_ok (c : Int) : FC Tryz.prog 371 [(false, [uL c])] [] [(false, [.f (bL (decide (DigP c)))])] := by
  refine gr Tryz.func371 Tryz.ntmps371 trivial ?_
  (repeat' (apply And.intro <;> intro h <;> refine nx ?_)); (all_goals refine ⟨[], [], ?_⟩)
  all_goals (try (repeat' first | exact trivial | exact rfl | exact tl_pv rfl rfl rfl (List.cons_ne_nil _ _) | exact ⟨_, rfl, frzC_map _⟩ | exact tl_ints rfl rfl rfl (by simp) | exact tl_txts rfl rfl rfl (by simp) | exact tl_nds rfl rfl rfl (by simp) | ((conv => whnf); first | exact trivial | exact rfl | exact .inr rfl | exact .inl ⟨rfl, rfl⟩ | apply And.intro) | refine tl_int ?_ | refine tl_bool ?_ | refine tl_str ?_ | refine tl_row rfl ?_ | exact cl_ints _ | exact cl_txts _ | exact cl_nds _ | exact cl_mp _ | exact Nat.succ_pos _ | exact pl_ints _ | exact pl_txts _ | exact pl_nds _ | with_reducible refine tl_f ?_)); all_goals (try first | rfl | assumption | exact q.symm | omega | (rw [IntKind.wrap_i64]; omega) | (simp; done) | (simp; omega))
  all_goals first | exact b_true (by unfold DigP; omega) | exact b_false (by unfold DigP; omega)
def WordP (s : ByteArray) : Prop := (1 ≤ s.size ∧ s.size ≤ 12) ∧ ∀ i (h : i < s.size), LetP s[i].toNat ∨ 0 < i ∧ DigP s[i].toNat
noncomputable def dB (p : Prop) : Bool := @decide p (Classical.propDecidable _)
theorem dB_iff {p : Prop} : dB p = true ↔ p := by unfold dB; exact @decide_eq_true_iff _ (Classical.propDecidable _)
theorem dB_yes {p : Prop} (h : p) : dB p = true := dB_iff.2 h
theorem dB_no {p : Prop} (h : ¬ p) : dB p = false := by
  cases e : dB p with
  | false => rfl
  | true => exact absurd (dB_iff.1 e) h
theorem FC.y {P : Program} {f : FuncId} {a : List (Bool × List L)} {H1 : Hs} {p : Prop} (h : FC P f a H1 [(false, [.f (bL (dB p))])]) (hp : p) : FC P f a H1 [(false, [.f (bL true)])] := by rwa [dB_yes hp] at h
theorem FC.x {P : Program} {f : FuncId} {a : List (Bool × List L)} {H1 : Hs} {p : Prop} (h : FC P f a H1 [(false, [.f (bL (dB p))])]) (hp : ¬ p) : FC P f a H1 [(false, [.f (bL false)])] := by rwa [dB_no hp] at h
theorem nameOK_ok (s : ByteArray) (hs : s.size < 2 ^ 62) : FC Tryz.prog 329 [(false, [sL s])] [] [(false, [.f (bL (dB (WordP s)))])] := by
  refine gr Tryz.func329 Tryz.ntmps329 trivial ?_
  refine ⟨fun h => nx ?_, fun h => nx ?_⟩
  (refine ⟨[], [], ?_⟩; rotate_left)
  refine ⟨fun h => nx ?_, fun h => nx ?_⟩
  (refine ⟨[], [], ?_⟩; rotate_left)
  have h0 : 0 < s.size := by omega
  refine ⟨(0, s[0]), ⟨rfl, by simp [h0]⟩, nx ?_⟩
  by_cases k0 : LetP s[0].toNat
  refine ⟨([], _), (isLetter_ok _).t k0, nx ?_⟩
  (refine ⟨fun m es hs => ∃ (i : Nat), (m + i = s.size) ∧ (∀ j (h : j < s.size), j < i → LetP s[j].toNat ∨ 0 < j ∧ DigP s[j].toNat) ∧ es = [(20, .val false [.f (iL i)]), (19, .val false [.f (iL s.size)]), (0, .val false [.f (sL s)])] ∧ hs = [], ⟨s.size, [], [], _, _, ⟨rfl, ?_, ?_⟩, 0, ?_, ?_, rfl, rfl⟩, ?_⟩; rotate_left 4; rintro m _ _ ⟨i, hNA0, hNA1, rfl, rfl⟩; refine nx ?_)
  refine ⟨fun h => nx ?_, fun h => nx ?_⟩
  have hi : i < s.size := by omega
  refine ⟨(i, s[i]), ⟨rfl, by simp [hi]⟩, nx ?_⟩
  by_cases k : LetP s[i].toNat
  refine ⟨([], _), (isLetter_ok _).t k, nx ?_⟩
  (refine ⟨m - 1, [], [], [(20, .val false [.f (iL (i + 1))]), (19, .val false [.f (iL s.size)]), (0, .val false [.f (sL s)])], [], by omega, ⟨rfl, ?_, ?_⟩, (i + 1), ?_, ?_, rfl, rfl⟩; rotate_left 4)
  refine ⟨([], _), (isLetter_ok _).n k, nx ?_⟩
  refine ⟨(i, s[i]), ⟨rfl, by simp [hi]⟩, nx ?_⟩
  refine ⟨fun h => nx ?_, fun h => nx ?_⟩
  (refine ⟨[], [], ?_⟩; rotate_left)
  refine ⟨(i, s[i]), ⟨rfl, by simp [hi]⟩, nx ?_⟩
  refine ⟨fun h => nx ?_, fun h => nx ?_⟩
  (refine ⟨[], [], ?_⟩; rotate_left)
  (refine ⟨m - 1, [], [], [(20, .val false [.f (iL (i + 1))]), (19, .val false [.f (iL s.size)]), (0, .val false [.f (sL s)])], [], by omega, ⟨rfl, ?_, ?_⟩, (i + 1), ?_, ?_, rfl, rfl⟩; rotate_left 4)
  have hi : s.size ≤ i := by omega
  (refine ⟨[], [], ?_⟩; rotate_left)
  refine ⟨([], _), (isLetter_ok _).n k0, nx ?_⟩
  (refine ⟨[], [], ?_⟩; rotate_left)
  all_goals (try (repeat' first | exact trivial | exact rfl | exact tl_pv rfl rfl rfl (List.cons_ne_nil _ _) | exact ⟨_, rfl, frzC_map _⟩ | exact tl_ints rfl rfl rfl (by simp) | exact tl_txts rfl rfl rfl (by simp) | exact tl_nds rfl rfl rfl (by simp) | ((conv => whnf); first | exact trivial | exact rfl | exact .inr rfl | exact .inl ⟨rfl, rfl⟩ | apply And.intro) | refine tl_int ?_ | refine tl_bool ?_ | refine tl_str ?_ | refine tl_row rfl ?_ | exact cl_ints _ | exact cl_txts _ | exact cl_nds _ | exact cl_mp _ | exact Nat.succ_pos _ | exact pl_ints _ | exact pl_txts _ | exact pl_nds _ | with_reducible refine tl_f ?_)); all_goals (try first | rfl | assumption | exact q.symm | omega | (rw [IntKind.wrap_i64]; omega) | (simp; done) | (simp; omega))
  all_goals (try dsimp only at *)
  all_goals first
    | exact (dB_no fun w => by have := w.1; omega).symm
    | exact (dB_no fun w => k0 ((w.2 0 (by omega)).elim id fun q => absurd q.1 (by omega))).symm
    | exact (dB_no fun w => by rcases w.2 i hi with q | ⟨_, q⟩; exact k q; unfold DigP at q; omega).symm
    | exact (dB_yes ⟨by omega, fun j hj => hNA1 j hj (by omega)⟩).symm
    | (intro j hj hji; rcases Nat.lt_succ_iff_lt_or_eq.1 hji with q | rfl; exact hNA1 j hj q; exact .inl k)
    | (intro j hj hji; rcases Nat.lt_succ_iff_lt_or_eq.1 hji with q | rfl; exact hNA1 j hj q; refine .inr ⟨?_, by unfold DigP; omega⟩; rcases Nat.eq_zero_or_pos j with rfl | q; exact absurd k0 k; exact q)
theorem l00Word_ok (s : ByteArray) (hs : s.size < 2 ^ 62) : FC Tryz.prog 326 [(false, [sL s])] [] [(false, [.f (bL (dB (WordP s)))])] := by
  refine gr Tryz.func326 Tryz.ntmps326 trivial ?_
  refine ⟨fun h => nx ?_, fun h => nx ?_⟩
  (refine ⟨[], [], ?_⟩; rotate_left)
  refine ⟨fun h => nx ?_, fun h => nx ?_⟩
  (refine ⟨[], [], ?_⟩; rotate_left)
  have h0 : 0 < s.size := by omega
  refine ⟨(0, s[0]), ⟨rfl, by simp [h0]⟩, nx ?_⟩
  by_cases k0 : LetP s[0].toNat
  refine ⟨([], _), (l00Letter_ok _).t k0, nx ?_⟩
  (refine ⟨fun m es hs => ∃ (i : Nat), (m + i = s.size) ∧ (1 ≤ i) ∧ (∀ j (h : j < s.size), j < i → LetP s[j].toNat ∨ 0 < j ∧ DigP s[j].toNat) ∧ es = [(3, .val false [.f (iL i)]), (0, .val false [.f (sL s)])] ∧ hs = [], ⟨s.size - 1, [], [], _, _, ⟨rfl, ?_, ?_⟩, 1, ?_, ?_, ?_, rfl, rfl⟩, ?_⟩; rotate_left 5; rintro m _ _ ⟨i, hNB0, hNB1, hNB2, rfl, rfl⟩; refine nx ?_)
  refine ⟨fun h => nx ?_, fun h => nx ?_⟩
  have hi : i < s.size := by omega
  refine ⟨(i, s[i]), ⟨rfl, by simp [hi]⟩, nx ?_⟩
  by_cases k : LetP s[i].toNat
  refine ⟨([], _), (l00Letter_ok _).t k, nx ?_⟩
  (refine ⟨m - 1, [], [], [(3, .val false [.f (iL (i + 1))]), (0, .val false [.f (sL s)])], [], by omega, ⟨rfl, ?_, ?_⟩, (i + 1), ?_, ?_, ?_, rfl, rfl⟩; rotate_left 5)
  refine ⟨([], _), (l00Letter_ok _).n k, nx ?_⟩
  refine ⟨(i, s[i]), ⟨rfl, by simp [hi]⟩, nx ?_⟩
  by_cases k1 : DigP s[i].toNat
  refine ⟨([], _), (l00Digit_ok _).t k1, nx ?_⟩
  (refine ⟨m - 1, [], [], [(3, .val false [.f (iL (i + 1))]), (0, .val false [.f (sL s)])], [], by omega, ⟨rfl, ?_, ?_⟩, (i + 1), ?_, ?_, ?_, rfl, rfl⟩; rotate_left 5)
  refine ⟨([], _), (l00Digit_ok _).n k1, nx ?_⟩
  (refine ⟨[], [], ?_⟩; rotate_left)
  have hi : s.size ≤ i := by omega
  (refine ⟨[], [], ?_⟩; rotate_left)
  refine ⟨([], _), (l00Letter_ok _).n k0, nx ?_⟩
  (refine ⟨[], [], ?_⟩; rotate_left)
  all_goals (try (repeat' first | exact trivial | exact rfl | exact tl_pv rfl rfl rfl (List.cons_ne_nil _ _) | exact ⟨_, rfl, frzC_map _⟩ | exact tl_ints rfl rfl rfl (by simp) | exact tl_txts rfl rfl rfl (by simp) | exact tl_nds rfl rfl rfl (by simp) | ((conv => whnf); first | exact trivial | exact rfl | exact .inr rfl | exact .inl ⟨rfl, rfl⟩ | apply And.intro) | refine tl_int ?_ | refine tl_bool ?_ | refine tl_str ?_ | refine tl_row rfl ?_ | exact cl_ints _ | exact cl_txts _ | exact cl_nds _ | exact cl_mp _ | exact Nat.succ_pos _ | exact pl_ints _ | exact pl_txts _ | exact pl_nds _ | with_reducible refine tl_f ?_)); all_goals (try first | rfl | assumption | exact q.symm | omega | (rw [IntKind.wrap_i64]; omega) | (simp; done) | (simp; omega))
  all_goals (try dsimp only at *)
  all_goals first
    | exact (dB_no fun w => by have := w.1; omega).symm
    | exact (dB_no fun w => k0 ((w.2 0 (by omega)).elim id fun q => absurd q.1 (by omega))).symm
    | exact (dB_no fun w => by rcases w.2 i hi with q | ⟨_, q⟩; exact k q; exact k1 q).symm
    | exact (dB_yes ⟨by omega, fun j hj => hNB2 j hj (by omega)⟩).symm
    | (intro j hj hji; rcases Nat.lt_succ_iff_lt_or_eq.1 hji with q | rfl; exact hNB2 j hj q; exact .inl k)
    | (intro j hj hji; rcases Nat.lt_succ_iff_lt_or_eq.1 hji with q | rfl; exact hNB2 j hj q; exact .inr ⟨by omega, k1⟩)
    | (intro j hj hji; obtain rfl : j = 0 := by omega
       exact .inl k0)
end Go.Proofs.YtecnmodeggnjoaaGreat.Ac
set_option linter.unusedVariables false
set_option linter.unusedSimpArgs false
set_option maxRecDepth 20000
set_option maxHeartbeats 20000000
namespace Go.Proofs.YtecnmodeggnjoaaGreat.Ac
open Go.RowKit
def ixP {α : Type} (p : α → Bool) : Nat → List α → Int
  | _, [] => -1
  | i, x :: l => if p x then i else ixP p (i + 1) l
theorem ixP_cons {α : Type} (p : α → Bool) (i : Nat) (x : α) (l : List α) : ixP p i (x :: l) = if p x then (i : Int) else ixP p (i + 1) l := rfl
theorem ixP_any {α : Type} {p : α → Bool} : ∀ (l : List α) (i : Nat), 0 ≤ ixP p i l ↔ ∃ x ∈ l, p x = true
  | [], i => by simp [ixP]
  | x :: l, i => by
    unfold ixP
    by_cases h : p x = true
    · rw [if_pos h]; exact ⟨fun _ => ⟨x, List.mem_cons_self, h⟩, fun _ => Int.natCast_nonneg i⟩
    · rw [if_neg h, ixP_any l (i + 1)]
      exact ⟨fun ⟨y, hy, hp⟩ => ⟨y, List.mem_cons_of_mem _ hy, hp⟩, fun ⟨y, hy, hp⟩ => by
        rcases List.mem_cons.1 hy with rfl | hy
        · exact absurd hp h
        · exact ⟨y, hy, hp⟩⟩
theorem ixP_at {α : Type} {p : α → Bool} : ∀ (l : List α) (i : Nat), (ixP p i l = -1 ∧ ∀ x ∈ l, p x = false) ∨ ∃ j, ∃ h : j < l.length, ixP p i l = ((i + j : Nat) : Int) ∧ p l[j] = true ∧ ∀ k (hk : k < j), p l[k] = false
  | [], i => .inl ⟨rfl, fun x hx => by cases hx⟩
  | x :: l, i => by
    unfold ixP
    by_cases h : p x = true
    · rw [if_pos h]; exact .inr ⟨0, by simp, by simp, h, fun k hk => by omega⟩
    · rw [if_neg h]
      rcases ixP_at l (i + 1) with ⟨h1, h2⟩ | ⟨j, hj, h1, h2, h3⟩
      · exact .inl ⟨h1, fun y hy => by
          rcases List.mem_cons.1 hy with rfl | hy
          · simpa using h
          · exact h2 y hy⟩
      · refine .inr ⟨j + 1, by simpa using hj, by rw [h1]; congr 1; omega, by simpa using h2, fun k hk => ?_⟩
        cases k with
        | zero => simpa using h
        | succ k => simpa using h3 k (by omega)
theorem ixfTerm_ok (l : List Tm) (f : FuncId) (c : L) (p : Tm → Bool) (hl : l.length < 2 ^ 62) (hp : ∀ t ∈ l, FC Tryz.prog f [(true, tmL t), (false, [c])] [] [(false, [.f (bL (p t))])]) : FC Tryz.prog 391 [(false, [tms l]), (false, [.cl f [(false, [c])]])] [] [(false, [.f (iL (ixP p 0 l))])] := by
  refine gr Tryz.func391 Tryz.ntmps391 trivial ?_
  (refine ⟨fun m es hs => ∃ (i : Nat), (m + i = l.length) ∧ (ixP p i (l.drop i) = ixP p 0 l) ∧ es = [(8, .val false [.f (iL i)]), (7, .val false [.f (iL l.length)]), (1, .val false [.f (.cl f [(false, [c])])]), (0, .val false [.f (tms l)])] ∧ hs = [], ⟨l.length, [], [], _, _, don, 0, don, don, rfl, rfl⟩, ?_⟩; rintro m _ _ ⟨i, hIXTm0, hIXTm1, rfl, rfl⟩; refine nx ?_)
  refine ⟨fun h => nx ?_, fun h => nx ?_⟩
  have hi : i < l.length := by omega
  rw [List.drop_eq_getElem_cons hi] at hIXTm1
  rw [ixP_cons] at hIXTm1
  refine ⟨(i, tmL l[i]), ⟨rfl, by simp [hi]⟩, nx ?_⟩
  have hc := hp l[i] (List.getElem_mem _)
  cases hq : p l[i] with
  | true =>
    rw [hq] at hc hIXTm1
    rw [if_pos rfl] at hIXTm1
    refine ⟨([], _), hc, nx ?_⟩
    exact ⟨[], [], don⟩
  | false =>
    rw [hq] at hc hIXTm1
    rw [if_neg (by simp)] at hIXTm1
    refine ⟨([], _), hc, nx ?_⟩
    exact ⟨m - 1, [], [], _, _, by omega, don, (i + 1), don, don, rfl, rfl⟩
  rw [List.drop_eq_nil_of_le (by omega), show ixP p i [] = -1 from rfl] at hIXTm1
  exact ⟨[], [], don⟩
theorem cofTerm_ok (l : List Tm) (f : FuncId) (c : L) (p : Tm → Bool) (hl : l.length < 2 ^ 62) (hp : ∀ t ∈ l, FC Tryz.prog f [(true, tmL t), (false, [c])] [] [(false, [.f (bL (p t))])]) : FC Tryz.prog 374 [(false, [tms l]), (false, [.cl f [(false, [c])]])] [] [(false, [.f (bL (l.any p))])] := by
  have hx := ixfTerm_ok l f c p hl hp
  have ha := ixP_any (p := p) l 0
  rw [← List.any_eq_true] at ha
  refine gr Tryz.func374 Tryz.ntmps374 trivial ?_
  refine ⟨([], _), hx, nx ?_⟩
  refine ⟨fun h => nx ?_, fun h => nx ?_⟩
  have q : l.any p = true := ha.1 h
  exact ⟨[], [], don⟩
  have q : l.any p = false := by cases e : l.any p with
    | false => rfl
    | true => exact absurd (ha.2 e) h
  exact ⟨[], [], don⟩
theorem ixfRule_ok (l : List Ru) (f : FuncId) (c : L) (p : Ru → Bool) (hl : l.length < 2 ^ 62) (hp : ∀ t ∈ l, FC Tryz.prog f [(true, ruL t), (false, [c])] [] [(false, [.f (bL (p t))])]) : FC Tryz.prog 331 [(false, [rus l]), (false, [.cl f [(false, [c])]])] [] [(false, [.f (iL (ixP p 0 l))])] := by
  refine gr Tryz.func331 Tryz.ntmps331 trivial ?_
  (refine ⟨fun m es hs => ∃ (i : Nat), (m + i = l.length) ∧ (ixP p i (l.drop i) = ixP p 0 l) ∧ es = [(8, .val false [.f (iL i)]), (7, .val false [.f (iL l.length)]), (1, .val false [.f (.cl f [(false, [c])])]), (0, .val false [.f (rus l)])] ∧ hs = [], ⟨l.length, [], [], _, _, don, 0, don, don, rfl, rfl⟩, ?_⟩; rintro m _ _ ⟨i, hIXRu0, hIXRu1, rfl, rfl⟩; refine nx ?_)
  refine ⟨fun h => nx ?_, fun h => nx ?_⟩
  have hi : i < l.length := by omega
  rw [List.drop_eq_getElem_cons hi] at hIXRu1
  rw [ixP_cons] at hIXRu1
  refine ⟨(i, ruL l[i]), ⟨rfl, by simp [hi]⟩, nx ?_⟩
  have hc := hp l[i] (List.getElem_mem _)
  cases hq : p l[i] with
  | true =>
    rw [hq] at hc hIXRu1
    rw [if_pos rfl] at hIXRu1
    refine ⟨([], _), hc, nx ?_⟩
    exact ⟨[], [], don⟩
  | false =>
    rw [hq] at hc hIXRu1
    rw [if_neg (by simp)] at hIXRu1
    refine ⟨([], _), hc, nx ?_⟩
    exact ⟨m - 1, [], [], _, _, by omega, don, (i + 1), don, don, rfl, rfl⟩
  rw [List.drop_eq_nil_of_le (by omega), show ixP p i [] = -1 from rfl] at hIXRu1
  exact ⟨[], [], don⟩
theorem ixfSession_ok (l : List Se) (f : FuncId) (c : L) (p : Se → Bool) (hl : l.length < 2 ^ 62) (hp : ∀ t ∈ l, FC Tryz.prog f [(true, seL t), (false, [c])] [] [(false, [.f (bL (p t))])]) : FC Tryz.prog 215 [(false, [ses l]), (false, [.cl f [(false, [c])]])] [] [(false, [.f (iL (ixP p 0 l))])] := by
  refine gr Tryz.func215 Tryz.ntmps215 trivial ?_
  (refine ⟨fun m es hs => ∃ (i : Nat), (m + i = l.length) ∧ (ixP p i (l.drop i) = ixP p 0 l) ∧ es = [(8, .val false [.f (iL i)]), (7, .val false [.f (iL l.length)]), (1, .val false [.f (.cl f [(false, [c])])]), (0, .val false [.f (ses l)])] ∧ hs = [], ⟨l.length, [], [], _, _, don, 0, don, don, rfl, rfl⟩, ?_⟩; rintro m _ _ ⟨i, hIXSe0, hIXSe1, rfl, rfl⟩; refine nx ?_)
  refine ⟨fun h => nx ?_, fun h => nx ?_⟩
  have hi : i < l.length := by omega
  rw [List.drop_eq_getElem_cons hi] at hIXSe1
  rw [ixP_cons] at hIXSe1
  refine ⟨(i, seL l[i]), ⟨rfl, by simp [hi]⟩, nx ?_⟩
  have hc := hp l[i] (List.getElem_mem _)
  cases hq : p l[i] with
  | true =>
    rw [hq] at hc hIXSe1
    rw [if_pos rfl] at hIXSe1
    refine ⟨([], _), hc, nx ?_⟩
    exact ⟨[], [], don⟩
  | false =>
    rw [hq] at hc hIXSe1
    rw [if_neg (by simp)] at hIXSe1
    refine ⟨([], _), hc, nx ?_⟩
    exact ⟨m - 1, [], [], _, _, by omega, don, (i + 1), don, don, rfl, rfl⟩
  rw [List.drop_eq_nil_of_le (by omega), show ixP p i [] = -1 from rfl] at hIXSe1
  exact ⟨[], [], don⟩
theorem ixfHold_ok (l : List Ho) (f : FuncId) (c : L) (p : Ho → Bool) (hl : l.length < 2 ^ 62) (hp : ∀ t ∈ l, FC Tryz.prog f [(true, hoL t), (false, [c])] [] [(false, [.f (bL (p t))])]) : FC Tryz.prog 250 [(false, [hos l]), (false, [.cl f [(false, [c])]])] [] [(false, [.f (iL (ixP p 0 l))])] := by
  refine gr Tryz.func250 Tryz.ntmps250 trivial ?_
  (refine ⟨fun m es hs => ∃ (i : Nat), (m + i = l.length) ∧ (ixP p i (l.drop i) = ixP p 0 l) ∧ es = [(8, .val false [.f (iL i)]), (7, .val false [.f (iL l.length)]), (1, .val false [.f (.cl f [(false, [c])])]), (0, .val false [.f (hos l)])] ∧ hs = [], ⟨l.length, [], [], _, _, don, 0, don, don, rfl, rfl⟩, ?_⟩; rintro m _ _ ⟨i, hIXHo0, hIXHo1, rfl, rfl⟩; refine nx ?_)
  refine ⟨fun h => nx ?_, fun h => nx ?_⟩
  have hi : i < l.length := by omega
  rw [List.drop_eq_getElem_cons hi] at hIXHo1
  rw [ixP_cons] at hIXHo1
  refine ⟨(i, hoL l[i]), ⟨rfl, by simp [hi]⟩, nx ?_⟩
  have hc := hp l[i] (List.getElem_mem _)
  cases hq : p l[i] with
  | true =>
    rw [hq] at hc hIXHo1
    rw [if_pos rfl] at hIXHo1
    refine ⟨([], _), hc, nx ?_⟩
    exact ⟨[], [], don⟩
  | false =>
    rw [hq] at hc hIXHo1
    rw [if_neg (by simp)] at hIXHo1
    refine ⟨([], _), hc, nx ?_⟩
    exact ⟨m - 1, [], [], _, _, by omega, don, (i + 1), don, don, rfl, rfl⟩
  rw [List.drop_eq_nil_of_le (by omega), show ixP p i [] = -1 from rfl] at hIXHo1
  exact ⟨[], [], don⟩
theorem cofHold_ok (l : List Ho) (f : FuncId) (c : L) (p : Ho → Bool) (hl : l.length < 2 ^ 62) (hp : ∀ t ∈ l, FC Tryz.prog f [(true, hoL t), (false, [c])] [] [(false, [.f (bL (p t))])]) : FC Tryz.prog 273 [(false, [hos l]), (false, [.cl f [(false, [c])]])] [] [(false, [.f (bL (l.any p))])] := by
  have hx := ixfHold_ok l f c p hl hp
  have ha := ixP_any (p := p) l 0
  rw [← List.any_eq_true] at ha
  refine gr Tryz.func273 Tryz.ntmps273 trivial ?_
  refine ⟨([], _), hx, nx ?_⟩
  refine ⟨fun h => nx ?_, fun h => nx ?_⟩
  have q : l.any p = true := ha.1 h
  exact ⟨[], [], don⟩
  have q : l.any p = false := by cases e : l.any p with
    | false => rfl
    | true => exact absurd (ha.2 e) h
  exact ⟨[], [], don⟩
theorem ixfEvent_ok (l : List Ev) (f : FuncId) (c : L) (p : Ev → Bool) (hl : l.length < 2 ^ 62) (hp : ∀ t ∈ l, FC Tryz.prog f [(true, evL t), (false, [c])] [] [(false, [.f (bL (p t))])]) : FC Tryz.prog 277 [(false, [evs l]), (false, [.cl f [(false, [c])]])] [] [(false, [.f (iL (ixP p 0 l))])] := by
  refine gr Tryz.func277 Tryz.ntmps277 trivial ?_
  (refine ⟨fun m es hs => ∃ (i : Nat), (m + i = l.length) ∧ (ixP p i (l.drop i) = ixP p 0 l) ∧ es = [(8, .val false [.f (iL i)]), (7, .val false [.f (iL l.length)]), (1, .val false [.f (.cl f [(false, [c])])]), (0, .val false [.f (evs l)])] ∧ hs = [], ⟨l.length, [], [], _, _, don, 0, don, don, rfl, rfl⟩, ?_⟩; rintro m _ _ ⟨i, hIXEv0, hIXEv1, rfl, rfl⟩; refine nx ?_)
  refine ⟨fun h => nx ?_, fun h => nx ?_⟩
  have hi : i < l.length := by omega
  rw [List.drop_eq_getElem_cons hi] at hIXEv1
  rw [ixP_cons] at hIXEv1
  refine ⟨(i, evL l[i]), ⟨rfl, by simp [hi]⟩, nx ?_⟩
  have hc := hp l[i] (List.getElem_mem _)
  cases hq : p l[i] with
  | true =>
    rw [hq] at hc hIXEv1
    rw [if_pos rfl] at hIXEv1
    refine ⟨([], _), hc, nx ?_⟩
    exact ⟨[], [], don⟩
  | false =>
    rw [hq] at hc hIXEv1
    rw [if_neg (by simp)] at hIXEv1
    refine ⟨([], _), hc, nx ?_⟩
    exact ⟨m - 1, [], [], _, _, by omega, don, (i + 1), don, don, rfl, rfl⟩
  rw [List.drop_eq_nil_of_le (by omega), show ixP p i [] = -1 from rfl] at hIXEv1
  exact ⟨[], [], don⟩
theorem cofEvent_ok (l : List Ev) (f : FuncId) (c : L) (p : Ev → Bool) (hl : l.length < 2 ^ 62) (hp : ∀ t ∈ l, FC Tryz.prog f [(true, evL t), (false, [c])] [] [(false, [.f (bL (p t))])]) : FC Tryz.prog 195 [(false, [evs l]), (false, [.cl f [(false, [c])]])] [] [(false, [.f (bL (l.any p))])] := by
  have hx := ixfEvent_ok l f c p hl hp
  have ha := ixP_any (p := p) l 0
  rw [← List.any_eq_true] at ha
  refine gr Tryz.func195 Tryz.ntmps195 trivial ?_
  refine ⟨([], _), hx, nx ?_⟩
  refine ⟨fun h => nx ?_, fun h => nx ?_⟩
  have q : l.any p = true := ha.1 h
  exact ⟨[], [], don⟩
  have q : l.any p = false := by cases e : l.any p with
    | false => rfl
    | true => exact absurd (ha.2 e) h
  exact ⟨[], [], don⟩
end Go.Proofs.YtecnmodeggnjoaaGreat.Ac
