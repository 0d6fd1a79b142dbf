/- Several of our texts, one behind the other, without what this claim does not need: Sb, Sc. -/
import Derived.Test.YtchfpgpboifbeaaGreatZc214b69e
import Derived.Test.YtchfpgpboifbeaaGreatZc0fb2b0b
set_option linter.unusedVariables false
set_option linter.unusedSimpArgs false
set_option maxRecDepth 20000
set_option maxHeartbeats 20000000
namespace Go.Proofs.YtchfpgpboifbeaaGreat.Ac
open Go.RowKit
def KindP (rules : Int) (l : List Int) (i : Nat) (h : i < l.length) : Prop := (1 ≤ l[i] ∧ l[i] ≤ rules) ∧ ∀ j (hj : j + 1 = i), l[j] < l[i]
def TermP (rules : Int) (t : Tm) : Prop := (0 < t.kinds.length ∧ ∀ i (h : i < t.kinds.length), KindP rules t.kinds i h) ∧ 0 ≤ t.many ∧ t.many ≤ 3
theorem kinds_low {rules : Int} {l : List Int} (h : ∀ i (h : i < l.length), KindP rules l i h) : ∀ i (hi : i < l.length), (i : Int) + 1 ≤ l[i]
  | 0, hi => by have := (h 0 hi).1.1; omega
  | i + 1, hi => by
    have h1 := kinds_low h i (by omega)
    have h2 := (h (i + 1) hi).2 i rfl
    omega
theorem TermP.short {rules : Int} {t : Tm} (h : TermP rules t) : (t.kinds.length : Int) ≤ rules := by
  have h1 := kinds_low h.1.2 (t.kinds.length - 1) (by have := h.1.1; omega)
  have h2 := (h.1.2 (t.kinds.length - 1) (by have := h.1.1; omega)).1.2
  have := h.1.1
  omega
theorem ge_idx {α : Type} {l : List α} {z : Int} {i : Nat} (hi : i < l.length) (hz : z = (i : Int)) {f : α → List L} : z = (i : Int) ∧ (l.map f)[i]? = some (f l[i]) := ⟨hz, by simp [hi]⟩
theorem wrap_pre {i : Nat} (h : 0 < i) (h2 : i < 2 ^ 62) : IntKind.i64.wrap ((i : Int) - 1) = ((i - 1 : Nat) : Int) := by rw [IntKind.wrap_i64]; omega
theorem lt_suc {p : Nat → Prop} {n i : Nat} (h : ∀ j, j < i → p j) (hi : p i) : ∀ j, j < i + 1 → p j := fun j hj => by
  rcases Nat.lt_succ_iff_lt_or_eq.1 hj with q | rfl
  · exact h j q
  · exact hi
theorem kind_step {rules : Int} {l : List Int} {i : Nat} (hi : i < l.length) (k : 1 ≤ l[i] ∧ l[i] ≤ rules) (h : 0 < i → l[i - 1] < l[i]) : KindP rules l i hi := ⟨k, fun j hj => by
  have e : j = i - 1 := by omega
  subst e
  exact h (by omega)⟩
theorem isTerm_ok (t : Tm) (rules : Int) (hl : t.kinds.length < 2 ^ 62) : FC Tryz.prog 279 [(true, tmL t), (false, [iL rules])] [] [(false, [.f (bL (dB (TermP rules t)))])] := by
  refine gcalls_run tbl_ok mixed Tryz.func279 rfl Tryz.ntmps279 (by kernel_rfl) (Nat.le_of_ble_eq_true rfl) rfl rfl trivial ?_; (conv => whnf); (repeat (refine ⟨by kernel_rfl, ?_⟩; (conv => whnf)))
  (refine ⟨fun (m : Nat) (es : Es) (hs : Hs) => ∃ (i : Nat), (m + i = t.kinds.length) ∧ (∀ j, j < i → ∀ h : j < t.kinds.length, KindP rules t.kinds j h) ∧ es = [(10, .val false [.f (iL i)]), (9, .val false [.f (iL t.kinds.length)]), (8, .val false [.f (ints t.kinds)]), (2, .val false [.pt 48 0 0]), (1, .val false [.f (iL rules)])] ∧ hs = [(48, some ⟨3, 2, [(tmL t).map .f]⟩)], ⟨t.kinds.length, [], [], _, _, ⟨rfl, ?_, ?_⟩, 0, ?_, ?_, rfl, rfl⟩, ?_⟩; rotate_left 4; rintro m es hs ⟨i, hTA0, hTA1, rfl, rfl⟩; (conv => whnf); (repeat (refine ⟨by kernel_rfl, ?_⟩; (conv => whnf))))
  (refine ⟨fun h => ?_, fun h => ?_⟩ <;> ((conv => whnf); (repeat (refine ⟨by kernel_rfl, ?_⟩; (conv => whnf)))))
  have hi : i < t.kinds.length := by omega
  (refine ⟨(i, intE t.kinds[i]), ge_idx hi rfl, ?_⟩; (conv => whnf); (repeat (refine ⟨by kernel_rfl, ?_⟩; (conv => whnf))))
  by_cases k : 1 ≤ t.kinds[i] ∧ t.kinds[i] ≤ rules
  (refine ⟨([], _), within_t k, ?_⟩; (conv => whnf); (repeat (refine ⟨by kernel_rfl, ?_⟩; (conv => whnf))))
  (refine ⟨fun h => ?_, fun h => ?_⟩ <;> ((conv => whnf); (repeat (refine ⟨by kernel_rfl, ?_⟩; (conv => whnf)))))
  have hp : i - 1 < t.kinds.length := by omega
  (refine ⟨(i - 1, intE t.kinds[i - 1]), ge_idx hp (wrap_pre (by omega) (by omega)), ?_⟩; (conv => whnf); (repeat (refine ⟨by kernel_rfl, ?_⟩; (conv => whnf))))
  (refine ⟨fun h => ?_, fun h => ?_⟩ <;> ((conv => whnf); (repeat (refine ⟨by kernel_rfl, ?_⟩; (conv => whnf)))))
  have q : dB (TermP rules t) = false := dB_no fun w => absurd ((w.1.2 i hi).2 (i - 1) (by omega)) (by omega)
  (refine ⟨[], [], ?_⟩; rotate_left)
  have q := lt_suc (n := 0) hTA1 fun _ => kind_step hi k fun _ => by omega
  (refine ⟨m - 1, [], [], [(10, .val false [.f (iL (i + 1))]), (9, .val false [.f (iL t.kinds.length)]), (8, .val false [.f (ints t.kinds)]), (2, .val false [.pt 48 0 0]), (1, .val false [.f (iL rules)])], [(48, some ⟨3, 2, [(tmL t).map .f]⟩)], by omega, ⟨rfl, ?_, ?_⟩, (i + 1), ?_, ?_, rfl, rfl⟩; rotate_left 4)
  have q := lt_suc (n := 0) hTA1 fun _ => kind_step hi k fun _ => by omega
  (refine ⟨m - 1, [], [], [(10, .val false [.f (iL (i + 1))]), (9, .val false [.f (iL t.kinds.length)]), (8, .val false [.f (ints t.kinds)]), (2, .val false [.pt 48 0 0]), (1, .val false [.f (iL rules)])], [(48, some ⟨3, 2, [(tmL t).map .f]⟩)], by omega, ⟨rfl, ?_, ?_⟩, (i + 1), ?_, ?_, rfl, rfl⟩; rotate_left 4)
  (refine ⟨([], _), within_f k, ?_⟩; (conv => whnf); (repeat (refine ⟨by kernel_rfl, ?_⟩; (conv => whnf))))
  have q : dB (TermP rules t) = false := dB_no fun w => k (w.1.2 i hi).1
  (refine ⟨[], [], ?_⟩; rotate_left)
  have hi : t.kinds.length ≤ i := by omega
  (refine ⟨fun h => ?_, fun h => ?_⟩ <;> ((conv => whnf); (repeat (refine ⟨by kernel_rfl, ?_⟩; (conv => whnf)))))
  by_cases k : 0 ≤ t.many ∧ t.many ≤ 3
  (refine ⟨([], _), within_t k, ?_⟩; (conv => whnf); (repeat (refine ⟨by kernel_rfl, ?_⟩; (conv => whnf))))
  have q : dB (TermP rules t) = true := dB_yes ⟨⟨by rw [List.length_map] at h; omega, fun j hj => hTA1 j (by omega) hj⟩, k⟩
  (refine ⟨[], [], ?_⟩; rotate_left)
  (refine ⟨([], _), within_f k, ?_⟩; (conv => whnf); (repeat (refine ⟨by kernel_rfl, ?_⟩; (conv => whnf))))
  have q : dB (TermP rules t) = false := dB_no fun w => k w.2
  (refine ⟨[], [], ?_⟩; rotate_left)
  have q : dB (TermP rules t) = false := dB_no fun w => by have := w.1.1; rw [List.length_map] at h; omega
  (refine ⟨[], [], ?_⟩; rotate_left)
  all_goals (try (repeat' first | exact trivial | exact rfl | exact tl_pv rfl rfl rfl (List.cons_ne_nil _ _) | exact ⟨_, rfl, frzC_map _⟩ | exact tl_ints rfl rfl rfl (by simp) | exact tl_txts rfl rfl rfl (by simp) | exact tl_nds rfl rfl rfl (by simp) | exact tl_tms rfl rfl rfl (by simp) | exact tl_rus rfl rfl rfl (by simp) | ((conv => whnf); first | exact trivial | exact rfl | exact .inr rfl | exact .inl ⟨rfl, rfl⟩ | apply And.intro) | refine tl_int ?_ | refine tl_bool ?_ | refine tl_str ?_ | refine tl_row rfl ?_ | exact cl_ints _ | exact cl_txts _ | exact cl_nds _ | exact cl_tms _ | exact cl_rus _ | exact cl_mp _ | exact Nat.succ_pos _ | exact pl_ints _ | exact pl_txts _ | exact pl_nds _ | exact pl_tms _ | exact pl_rus _ | with_reducible refine tl_f ?_)); all_goals (try first | rfl | assumption | exact q.symm | omega | (rw [IntKind.wrap_i64]; omega) | (simp; done) | (simp; omega))
theorem l03Many_ok (n : Int) : FC Tryz.prog 273 [(false, [iL n])] [] [(false, [.f (bL (decide (0 ≤ n ∧ n ≤ 3)))])] := by
  by_cases k : 0 ≤ n ∧ n ≤ 3
  · rw [decide_eq_true k]
    refine gcalls_run tbl_ok mixed Tryz.func273 rfl Tryz.ntmps273 (by kernel_rfl) (Nat.le_of_ble_eq_true rfl) rfl rfl trivial ?_; (conv => whnf); (repeat (refine ⟨by kernel_rfl, ?_⟩; (conv => whnf)))
    (refine ⟨([], _), in_t k, ?_⟩; (conv => whnf); (repeat (refine ⟨by kernel_rfl, ?_⟩; (conv => whnf))))
    (refine ⟨[], [], ?_⟩; rotate_left)
    all_goals (try (repeat' first | exact trivial | exact rfl | exact tl_pv rfl rfl rfl (List.cons_ne_nil _ _) | exact ⟨_, rfl, frzC_map _⟩ | exact tl_ints rfl rfl rfl (by simp) | exact tl_txts rfl rfl rfl (by simp) | exact tl_nds rfl rfl rfl (by simp) | exact tl_tms rfl rfl rfl (by simp) | exact tl_rus rfl rfl rfl (by simp) | ((conv => whnf); first | exact trivial | exact rfl | exact .inr rfl | exact .inl ⟨rfl, rfl⟩ | apply And.intro) | refine tl_int ?_ | refine tl_bool ?_ | refine tl_str ?_ | refine tl_row rfl ?_ | exact cl_ints _ | exact cl_txts _ | exact cl_nds _ | exact cl_tms _ | exact cl_rus _ | exact cl_mp _ | exact Nat.succ_pos _ | exact pl_ints _ | exact pl_txts _ | exact pl_nds _ | exact pl_tms _ | exact pl_rus _ | with_reducible refine tl_f ?_)); all_goals (try first | rfl | assumption | exact q.symm | omega | (rw [IntKind.wrap_i64]; omega) | (simp; done) | (simp; omega))
  · rw [decide_eq_false k]
    refine gcalls_run tbl_ok mixed Tryz.func273 rfl Tryz.ntmps273 (by kernel_rfl) (Nat.le_of_ble_eq_true rfl) rfl rfl trivial ?_; (conv => whnf); (repeat (refine ⟨by kernel_rfl, ?_⟩; (conv => whnf)))
    (refine ⟨([], _), in_f k, ?_⟩; (conv => whnf); (repeat (refine ⟨by kernel_rfl, ?_⟩; (conv => whnf))))
    (refine ⟨[], [], ?_⟩; rotate_left)
    all_goals (try (repeat' first | exact trivial | exact rfl | exact tl_pv rfl rfl rfl (List.cons_ne_nil _ _) | exact ⟨_, rfl, frzC_map _⟩ | exact tl_ints rfl rfl rfl (by simp) | exact tl_txts rfl rfl rfl (by simp) | exact tl_nds rfl rfl rfl (by simp) | exact tl_tms rfl rfl rfl (by simp) | exact tl_rus rfl rfl rfl (by simp) | ((conv => whnf); first | exact trivial | exact rfl | exact .inr rfl | exact .inl ⟨rfl, rfl⟩ | apply And.intro) | refine tl_int ?_ | refine tl_bool ?_ | refine tl_str ?_ | refine tl_row rfl ?_ | exact cl_ints _ | exact cl_txts _ | exact cl_nds _ | exact cl_tms _ | exact cl_rus _ | exact cl_mp _ | exact Nat.succ_pos _ | exact pl_ints _ | exact pl_txts _ | exact pl_nds _ | exact pl_tms _ | exact pl_rus _ | with_reducible refine tl_f ?_)); all_goals (try first | rfl | assumption | exact q.symm | omega | (rw [IntKind.wrap_i64]; omega) | (simp; done) | (simp; omega))
theorem l03Term_ok (t : Tm) (rules : Int) (hl : t.kinds.length < 2 ^ 62) : FC Tryz.prog 222 [(true, tmL t), (false, [iL rules])] [] [(false, [.f (bL (dB (TermP rules t)))])] := by
  refine gcalls_run tbl_ok mixed Tryz.func222 rfl Tryz.ntmps222 (by kernel_rfl) (Nat.le_of_ble_eq_true rfl) rfl rfl trivial ?_; (conv => whnf); (repeat (refine ⟨by kernel_rfl, ?_⟩; (conv => whnf)))
  (refine ⟨fun h => ?_, fun h => ?_⟩ <;> ((conv => whnf); (repeat (refine ⟨by kernel_rfl, ?_⟩; (conv => whnf)))))
  have q : dB (TermP rules t) = false := dB_no fun w => by have := w.1.1; simp at h; simp [h] at this
  (refine ⟨[], [], ?_⟩; rotate_left)
  have h0 : 0 < t.kinds.length := by simp at h; exact List.length_pos_iff.2 h
  (refine ⟨fun h => ?_, fun h => ?_⟩ <;> ((conv => whnf); (repeat (refine ⟨by kernel_rfl, ?_⟩; (conv => whnf)))))
  have q : dB (TermP rules t) = false := dB_no fun w => by have := w.short; simp at h; omega
  (refine ⟨[], [], ?_⟩; rotate_left)
  by_cases k3 : 0 ≤ t.many ∧ t.many ≤ 3
  (refine ⟨([], _), (l03Many_ok _).t k3, ?_⟩; (conv => whnf); (repeat (refine ⟨by kernel_rfl, ?_⟩; (conv => whnf))))
  (refine ⟨fun (m : Nat) (es : Es) (hs : Hs) => ∃ (i : Nat), (m + i = t.kinds.length) ∧ (∀ j, j < i → ∀ h : j < t.kinds.length, KindP rules t.kinds j h) ∧ es = [(5, .val false [.f (iL i)]), (2, .val false [.pt 48 0 0]), (1, .val false [.f (iL rules)])] ∧ hs = [(48, some ⟨3, 2, [(tmL t).map .f]⟩)], ⟨t.kinds.length, [], [], _, _, ⟨rfl, ?_, ?_⟩, 0, ?_, ?_, rfl, rfl⟩, ?_⟩; rotate_left 4; rintro m es hs ⟨i, hTB0, hTB1, rfl, rfl⟩; (conv => whnf); (repeat (refine ⟨by kernel_rfl, ?_⟩; (conv => whnf))))
  (refine ⟨fun h => ?_, fun h => ?_⟩ <;> ((conv => whnf); (repeat (refine ⟨by kernel_rfl, ?_⟩; (conv => whnf)))))
  have hi : i < t.kinds.length := by simpa using h
  (refine ⟨(i, intE t.kinds[i]), ge_idx hi rfl, ?_⟩; (conv => whnf); (repeat (refine ⟨by kernel_rfl, ?_⟩; (conv => whnf))))
  by_cases k : 1 ≤ t.kinds[i] ∧ t.kinds[i] ≤ rules
  (refine ⟨([], _), in_t k, ?_⟩; (conv => whnf); (repeat (refine ⟨by kernel_rfl, ?_⟩; (conv => whnf))))
  (refine ⟨fun h => ?_, fun h => ?_⟩ <;> ((conv => whnf); (repeat (refine ⟨by kernel_rfl, ?_⟩; (conv => whnf)))))
  have hp : i - 1 < t.kinds.length := by omega
  (refine ⟨(i, intE t.kinds[i]), ge_idx hi rfl, ?_⟩; (conv => whnf); (repeat (refine ⟨by kernel_rfl, ?_⟩; (conv => whnf))))
  (refine ⟨(i - 1, intE t.kinds[i - 1]), ge_idx hp (wrap_pre (by omega) (by omega)), ?_⟩; (conv => whnf); (repeat (refine ⟨by kernel_rfl, ?_⟩; (conv => whnf))))
  (refine ⟨fun h => ?_, fun h => ?_⟩ <;> ((conv => whnf); (repeat (refine ⟨by kernel_rfl, ?_⟩; (conv => whnf)))))
  have q : dB (TermP rules t) = false := dB_no fun w => absurd ((w.1.2 i hi).2 (i - 1) (by omega)) (by omega)
  (refine ⟨[], [], ?_⟩; rotate_left)
  have q := lt_suc (n := 0) hTB1 fun _ => kind_step hi k fun _ => by omega
  (refine ⟨m - 1, [], [], [(5, .val false [.f (iL (i + 1))]), (2, .val false [.pt 48 0 0]), (1, .val false [.f (iL rules)])], [(48, some ⟨3, 2, [(tmL t).map .f]⟩)], by omega, ⟨rfl, ?_, ?_⟩, (i + 1), ?_, ?_, rfl, rfl⟩; rotate_left 4)
  have q := lt_suc (n := 0) hTB1 fun _ => kind_step hi k fun _ => by omega
  (refine ⟨m - 1, [], [], [(5, .val false [.f (iL (i + 1))]), (2, .val false [.pt 48 0 0]), (1, .val false [.f (iL rules)])], [(48, some ⟨3, 2, [(tmL t).map .f]⟩)], by omega, ⟨rfl, ?_, ?_⟩, (i + 1), ?_, ?_, rfl, rfl⟩; rotate_left 4)
  (refine ⟨([], _), in_f k, ?_⟩; (conv => whnf); (repeat (refine ⟨by kernel_rfl, ?_⟩; (conv => whnf))))
  have q : dB (TermP rules t) = false := dB_no fun w => k (w.1.2 i hi).1
  (refine ⟨[], [], ?_⟩; rotate_left)
  have hi : t.kinds.length ≤ i := by simpa using h
  have q : dB (TermP rules t) = true := dB_yes ⟨⟨h0, fun j hj => hTB1 j (by omega) hj⟩, k3⟩
  (refine ⟨[], [], ?_⟩; rotate_left)
  (refine ⟨([], _), (l03Many_ok _).n k3, ?_⟩; (conv => whnf); (repeat (refine ⟨by kernel_rfl, ?_⟩; (conv => whnf))))
  have q : dB (TermP rules t) = false := dB_no fun w => k3 w.2
  (refine ⟨[], [], ?_⟩; rotate_left)
  all_goals (try (repeat' first | exact trivial | exact rfl | exact tl_pv rfl rfl rfl (List.cons_ne_nil _ _) | exact ⟨_, rfl, frzC_map _⟩ | exact tl_ints rfl rfl rfl (by simp) | exact tl_txts rfl rfl rfl (by simp) | exact tl_nds rfl rfl rfl (by simp) | exact tl_tms rfl rfl rfl (by simp) | exact tl_rus rfl rfl rfl (by simp) | ((conv => whnf); first | exact trivial | exact rfl | exact .inr rfl | exact .inl ⟨rfl, rfl⟩ | apply And.intro) | refine tl_int ?_ | refine tl_bool ?_ | refine tl_str ?_ | refine tl_row rfl ?_ | exact cl_ints _ | exact cl_txts _ | exact cl_nds _ | exact cl_tms _ | exact cl_rus _ | exact cl_mp _ | exact Nat.succ_pos _ | exact pl_ints _ | exact pl_txts _ | exact pl_nds _ | exact pl_tms _ | exact pl_rus _ | with_reducible refine tl_f ?_)); all_goals (try first | rfl | assumption | exact q.symm | omega | (rw [IntKind.wrap_i64]; omega) | (simp; done) | (simp; omega))
end Go.Proofs.YtchfpgpboifbeaaGreat.Ac
set_option linter.unusedVariables false
set_option linter.unusedSimpArgs false
set_option maxRecDepth 20000
set_option maxHeartbeats 20000000
namespace Go.Proofs.YtchfpgpboifbeaaGreat.Ac
open Go.RowKit
def leafW : ByteArray := ⟨#[116, 101, 120, 116]⟩
def TermsP (rules : Int) (l : List Tm) : Prop := l.length ≤ 4 ∧ ∀ t ∈ l, TermP rules t
def RuleP (rules : Int) (r : Ru) : Prop := WordP r.name ∧ r.name ≠ leafW ∧ (r.leaf = true → r.terms.length = 0) ∧ TermsP rules r.terms
def TmB (t : Tm) : Prop := t.kinds.length < 2 ^ 62
def RuB (r : Ru) : Prop := r.name.size < 2 ^ 62 ∧ r.terms.length < 2 ^ 62 ∧ ∀ t ∈ r.terms, TmB t
theorem areTerms1_ok (t : Tm) (rules : Int) (hl : TmB t) : FC Tryz.prog 278 [(true, tmL t), (false, [.pv [iL rules]])] [] [(false, [.f (bL (!dB (TermP rules t)))])] := by
  have h := isTerm_ok t rules hl
  generalize dB (TermP rules t) = b at h
  refine gcalls_run tbl_ok mixed Tryz.func278 rfl Tryz.ntmps278 (by kernel_rfl) (Nat.le_of_ble_eq_true rfl) rfl rfl trivial ?_; (conv => whnf); (repeat (refine ⟨by kernel_rfl, ?_⟩; (conv => whnf)))
  cases b with
  | true =>
    (refine ⟨([], _), h, ?_⟩; (conv => whnf); (repeat (refine ⟨by kernel_rfl, ?_⟩; (conv => whnf))))
    (refine ⟨[], [], ?_⟩; rotate_left)
    all_goals (try (repeat' first | exact trivial | exact rfl | exact tl_pv rfl rfl rfl (List.cons_ne_nil _ _) | exact ⟨_, rfl, frzC_map _⟩ | exact tl_ints rfl rfl rfl (by simp) | exact tl_txts rfl rfl rfl (by simp) | exact tl_nds rfl rfl rfl (by simp) | exact tl_tms rfl rfl rfl (by simp) | exact tl_rus rfl rfl rfl (by simp) | ((conv => whnf); first | exact trivial | exact rfl | exact .inr rfl | exact .inl ⟨rfl, rfl⟩ | apply And.intro) | refine tl_int ?_ | refine tl_bool ?_ | refine tl_str ?_ | refine tl_row rfl ?_ | exact cl_ints _ | exact cl_txts _ | exact cl_nds _ | exact cl_tms _ | exact cl_rus _ | exact cl_mp _ | exact Nat.succ_pos _ | exact pl_ints _ | exact pl_txts _ | exact pl_nds _ | exact pl_tms _ | exact pl_rus _ | with_reducible refine tl_f ?_)); all_goals (try first | rfl | assumption | exact q.symm | omega | (rw [IntKind.wrap_i64]; omega) | (simp; done) | (simp; omega))
  | false =>
    (refine ⟨([], _), h, ?_⟩; (conv => whnf); (repeat (refine ⟨by kernel_rfl, ?_⟩; (conv => whnf))))
    (refine ⟨[], [], ?_⟩; rotate_left)
    all_goals (try (repeat' first | exact trivial | exact rfl | exact tl_pv rfl rfl rfl (List.cons_ne_nil _ _) | exact ⟨_, rfl, frzC_map _⟩ | exact tl_ints rfl rfl rfl (by simp) | exact tl_txts rfl rfl rfl (by simp) | exact tl_nds rfl rfl rfl (by simp) | exact tl_tms rfl rfl rfl (by simp) | exact tl_rus rfl rfl rfl (by simp) | ((conv => whnf); first | exact trivial | exact rfl | exact .inr rfl | exact .inl ⟨rfl, rfl⟩ | apply And.intro) | refine tl_int ?_ | refine tl_bool ?_ | refine tl_str ?_ | refine tl_row rfl ?_ | exact cl_ints _ | exact cl_txts _ | exact cl_nds _ | exact cl_tms _ | exact cl_rus _ | exact cl_mp _ | exact Nat.succ_pos _ | exact pl_ints _ | exact pl_txts _ | exact pl_nds _ | exact pl_tms _ | exact pl_rus _ | with_reducible refine tl_f ?_)); all_goals (try first | rfl | assumption | exact q.symm | omega | (rw [IntKind.wrap_i64]; omega) | (simp; done) | (simp; omega))
theorem areTerms_ok (l : List Tm) (rules : Int) (hl : l.length < 2 ^ 62) (hk : ∀ t ∈ l, TmB t) : FC Tryz.prog 229 [(false, [tms l]), (false, [iL rules])] [] [(false, [.f (bL (dB (TermsP rules l)))])] := by
  have hc := cofTerm_ok l 278 (.pv [iL rules]) (fun t => !dB (TermP rules t)) hl fun t ht => areTerms1_ok t rules (hk t ht)
  refine gcalls_run tbl_ok mixed Tryz.func229 rfl Tryz.ntmps229 (by kernel_rfl) (Nat.le_of_ble_eq_true rfl) rfl rfl trivial ?_; (conv => whnf); (repeat (refine ⟨by kernel_rfl, ?_⟩; (conv => whnf)))
  (refine ⟨fun h => ?_, fun h => ?_⟩ <;> ((conv => whnf); (repeat (refine ⟨by kernel_rfl, ?_⟩; (conv => whnf)))))
  cases hb : l.any fun t => !dB (TermP rules t) with
  | true =>
    rw [hb] at hc
    (refine ⟨⟨true, [], _, _, _, _⟩, hc, ?_⟩; (conv => whnf); (repeat (refine ⟨by kernel_rfl, ?_⟩; (conv => whnf))); refine ⟨⟨?_, ?_, ?_⟩, ?_⟩; rotate_left 3; (conv => whnf); (repeat (refine ⟨by kernel_rfl, ?_⟩; (conv => whnf))))
    have q : dB (TermsP rules l) = false := dB_no fun w => by
      obtain ⟨t, ht, h1⟩ := List.any_eq_true.1 hb
      rw [dB_yes (w.2 t ht)] at h1; cases h1
    (refine ⟨[], [], ?_⟩; rotate_left)
    all_goals (try (repeat' first | exact trivial | exact rfl | exact tl_pv rfl rfl rfl (List.cons_ne_nil _ _) | exact ⟨_, rfl, frzC_map _⟩ | exact tl_ints rfl rfl rfl (by simp) | exact tl_txts rfl rfl rfl (by simp) | exact tl_nds rfl rfl rfl (by simp) | exact tl_tms rfl rfl rfl (by simp) | exact tl_rus rfl rfl rfl (by simp) | ((conv => whnf); first | exact trivial | exact rfl | exact .inr rfl | exact .inl ⟨rfl, rfl⟩ | apply And.intro) | refine tl_int ?_ | refine tl_bool ?_ | refine tl_str ?_ | refine tl_row rfl ?_ | exact cl_ints _ | exact cl_txts _ | exact cl_nds _ | exact cl_tms _ | exact cl_rus _ | exact cl_mp _ | exact Nat.succ_pos _ | exact pl_ints _ | exact pl_txts _ | exact pl_nds _ | exact pl_tms _ | exact pl_rus _ | with_reducible refine tl_f ?_)); all_goals (try first | rfl | assumption | exact q.symm | omega | (rw [IntKind.wrap_i64]; omega) | (simp; done) | (simp; omega))
  | false =>
    rw [hb] at hc
    (refine ⟨⟨true, [], _, _, _, _⟩, hc, ?_⟩; (conv => whnf); (repeat (refine ⟨by kernel_rfl, ?_⟩; (conv => whnf))); refine ⟨⟨?_, ?_, ?_⟩, ?_⟩; rotate_left 3; (conv => whnf); (repeat (refine ⟨by kernel_rfl, ?_⟩; (conv => whnf))))
    have q : dB (TermsP rules l) = true := dB_yes ⟨by rw [List.length_map] at h; omega, fun t ht => by
      have := List.any_eq_false.1 hb t ht
      exact dB_iff.1 (by simpa using this)⟩
    (refine ⟨[], [], ?_⟩; rotate_left)
    all_goals (try (repeat' first | exact trivial | exact rfl | exact tl_pv rfl rfl rfl (List.cons_ne_nil _ _) | exact ⟨_, rfl, frzC_map _⟩ | exact tl_ints rfl rfl rfl (by simp) | exact tl_txts rfl rfl rfl (by simp) | exact tl_nds rfl rfl rfl (by simp) | exact tl_tms rfl rfl rfl (by simp) | exact tl_rus rfl rfl rfl (by simp) | ((conv => whnf); first | exact trivial | exact rfl | exact .inr rfl | exact .inl ⟨rfl, rfl⟩ | apply And.intro) | refine tl_int ?_ | refine tl_bool ?_ | refine tl_str ?_ | refine tl_row rfl ?_ | exact cl_ints _ | exact cl_txts _ | exact cl_nds _ | exact cl_tms _ | exact cl_rus _ | exact cl_mp _ | exact Nat.succ_pos _ | exact pl_ints _ | exact pl_txts _ | exact pl_nds _ | exact pl_tms _ | exact pl_rus _ | with_reducible refine tl_f ?_)); all_goals (try first | rfl | assumption | exact q.symm | omega | (rw [IntKind.wrap_i64]; omega) | (simp; done) | (simp; omega))
  have q : dB (TermsP rules l) = false := dB_no fun w => by have := w.1; rw [List.length_map] at h; omega
  (refine ⟨[], [], ?_⟩; rotate_left)
  all_goals (try (repeat' first | exact trivial | exact rfl | exact tl_pv rfl rfl rfl (List.cons_ne_nil _ _) | exact ⟨_, rfl, frzC_map _⟩ | exact tl_ints rfl rfl rfl (by simp) | exact tl_txts rfl rfl rfl (by simp) | exact tl_nds rfl rfl rfl (by simp) | exact tl_tms rfl rfl rfl (by simp) | exact tl_rus rfl rfl rfl (by simp) | ((conv => whnf); first | exact trivial | exact rfl | exact .inr rfl | exact .inl ⟨rfl, rfl⟩ | apply And.intro) | refine tl_int ?_ | refine tl_bool ?_ | refine tl_str ?_ | refine tl_row rfl ?_ | exact cl_ints _ | exact cl_txts _ | exact cl_nds _ | exact cl_tms _ | exact cl_rus _ | exact cl_mp _ | exact Nat.succ_pos _ | exact pl_ints _ | exact pl_txts _ | exact pl_nds _ | exact pl_tms _ | exact pl_rus _ | with_reducible refine tl_f ?_)); all_goals (try first | rfl | assumption | exact q.symm | omega | (rw [IntKind.wrap_i64]; omega) | (simp; done) | (simp; omega))
theorem ruleOK_ok (r : Ru) (rules : Int) (hr : RuB r) : FC Tryz.prog 155 [(true, ruL r), (false, [iL rules])] [] [(false, [.f (bL (dB ((1 ≤ rules ∧ rules ≤ 8) ∧ RuleP rules r)))])] := by
  have hn := nameOK_ok r.name hr.1
  have ht := areTerms_ok r.terms rules hr.2.1 hr.2.2
  have hlen : (r.terms.map tmL).length = r.terms.length := List.length_map ..
  refine gcalls_run tbl_ok mixed Tryz.func155 rfl Tryz.ntmps155 (by kernel_rfl) (Nat.le_of_ble_eq_true rfl) rfl rfl trivial ?_; (conv => whnf); (repeat (refine ⟨by kernel_rfl, ?_⟩; (conv => whnf)))
  by_cases k1 : 1 ≤ rules ∧ rules ≤ 8
  (refine ⟨([], _), within_t k1, ?_⟩; (conv => whnf); (repeat (refine ⟨by kernel_rfl, ?_⟩; (conv => whnf))))
  by_cases k2 : WordP r.name
  (refine ⟨([], _), hn.y k2, ?_⟩; (conv => whnf); (repeat (refine ⟨by kernel_rfl, ?_⟩; (conv => whnf))))
  by_cases k3 : r.name = leafW
  (refine ⟨fun h => absurd h (fun h => h k3), fun h => ?_⟩; (conv => whnf); (repeat (refine ⟨by kernel_rfl, ?_⟩; (conv => whnf))))
  have q : dB ((1 ≤ rules ∧ rules ≤ 8) ∧ RuleP rules r) = false := dB_no fun w => w.2.2.1 k3
  (refine ⟨[], [], ?_⟩; rotate_left)
  (refine ⟨fun h => ?_, fun h => absurd h (fun h => h k3)⟩; (conv => whnf); (repeat (refine ⟨by kernel_rfl, ?_⟩; (conv => whnf))))
  by_cases k6 : TermsP rules r.terms
  cases k4 : r.leaf with
  | true =>
    (conv => whnf); (repeat (refine ⟨by kernel_rfl, ?_⟩; (conv => whnf)))
    by_cases k5 : r.terms.length = 0
    (refine ⟨fun h => ?_, fun h => absurd h (fun h => h (by omega))⟩; (conv => whnf); (repeat (refine ⟨by kernel_rfl, ?_⟩; (conv => whnf))))
    (refine ⟨([], _), ht.y k6, ?_⟩; (conv => whnf); (repeat (refine ⟨by kernel_rfl, ?_⟩; (conv => whnf))))
    have q : dB ((1 ≤ rules ∧ rules ≤ 8) ∧ RuleP rules r) = true := dB_yes ⟨k1, k2, k3, fun _ => k5, k6⟩
    (refine ⟨[], [], ?_⟩; rotate_left)
    (refine ⟨fun h => absurd h (fun h => k5 (by omega)), fun h => ?_⟩; (conv => whnf); (repeat (refine ⟨by kernel_rfl, ?_⟩; (conv => whnf))))
    have q : dB ((1 ≤ rules ∧ rules ≤ 8) ∧ RuleP rules r) = false := dB_no fun w => k5 (w.2.2.2.1 k4)
    (refine ⟨[], [], ?_⟩; rotate_left)
    all_goals (try (repeat' first | exact trivial | exact rfl | exact tl_pv rfl rfl rfl (List.cons_ne_nil _ _) | exact ⟨_, rfl, frzC_map _⟩ | exact tl_ints rfl rfl rfl (by simp) | exact tl_txts rfl rfl rfl (by simp) | exact tl_nds rfl rfl rfl (by simp) | exact tl_tms rfl rfl rfl (by simp) | exact tl_rus rfl rfl rfl (by simp) | ((conv => whnf); first | exact trivial | exact rfl | exact .inr rfl | exact .inl ⟨rfl, rfl⟩ | apply And.intro) | refine tl_int ?_ | refine tl_bool ?_ | refine tl_str ?_ | refine tl_row rfl ?_ | exact cl_ints _ | exact cl_txts _ | exact cl_nds _ | exact cl_tms _ | exact cl_rus _ | exact cl_mp _ | exact Nat.succ_pos _ | exact pl_ints _ | exact pl_txts _ | exact pl_nds _ | exact pl_tms _ | exact pl_rus _ | with_reducible refine tl_f ?_)); all_goals (try first | rfl | assumption | exact q.symm | omega | (rw [IntKind.wrap_i64]; omega) | (simp; done) | (simp; omega))
  | false =>
    (conv => whnf); (repeat (refine ⟨by kernel_rfl, ?_⟩; (conv => whnf)))
    (refine ⟨([], _), ht.y k6, ?_⟩; (conv => whnf); (repeat (refine ⟨by kernel_rfl, ?_⟩; (conv => whnf))))
    have q : dB ((1 ≤ rules ∧ rules ≤ 8) ∧ RuleP rules r) = true := dB_yes ⟨k1, k2, k3, fun e => absurd (k4.symm.trans e) (by simp), k6⟩
    (refine ⟨[], [], ?_⟩; rotate_left)
    all_goals (try (repeat' first | exact trivial | exact rfl | exact tl_pv rfl rfl rfl (List.cons_ne_nil _ _) | exact ⟨_, rfl, frzC_map _⟩ | exact tl_ints rfl rfl rfl (by simp) | exact tl_txts rfl rfl rfl (by simp) | exact tl_nds rfl rfl rfl (by simp) | exact tl_tms rfl rfl rfl (by simp) | exact tl_rus rfl rfl rfl (by simp) | ((conv => whnf); first | exact trivial | exact rfl | exact .inr rfl | exact .inl ⟨rfl, rfl⟩ | apply And.intro) | refine tl_int ?_ | refine tl_bool ?_ | refine tl_str ?_ | refine tl_row rfl ?_ | exact cl_ints _ | exact cl_txts _ | exact cl_nds _ | exact cl_tms _ | exact cl_rus _ | exact cl_mp _ | exact Nat.succ_pos _ | exact pl_ints _ | exact pl_txts _ | exact pl_nds _ | exact pl_tms _ | exact pl_rus _ | with_reducible refine tl_f ?_)); all_goals (try first | rfl | assumption | exact q.symm | omega | (rw [IntKind.wrap_i64]; omega) | (simp; done) | (simp; omega))
  have q : dB ((1 ≤ rules ∧ rules ≤ 8) ∧ RuleP rules r) = false := dB_no fun w => k6 w.2.2.2.2
  cases k4 : r.leaf with
  | true =>
    (conv => whnf); (repeat (refine ⟨by kernel_rfl, ?_⟩; (conv => whnf)))
    by_cases k5 : r.terms.length = 0
    (refine ⟨fun h => ?_, fun h => absurd h (fun h => h (by omega))⟩; (conv => whnf); (repeat (refine ⟨by kernel_rfl, ?_⟩; (conv => whnf))))
    (refine ⟨([], _), ht.x k6, ?_⟩; (conv => whnf); (repeat (refine ⟨by kernel_rfl, ?_⟩; (conv => whnf))))
    (refine ⟨[], [], ?_⟩; rotate_left)
    (refine ⟨fun h => absurd h (fun h => k5 (by omega)), fun h => ?_⟩; (conv => whnf); (repeat (refine ⟨by kernel_rfl, ?_⟩; (conv => whnf))))
    (refine ⟨[], [], ?_⟩; rotate_left)
    all_goals (try (repeat' first | exact trivial | exact rfl | exact tl_pv rfl rfl rfl (List.cons_ne_nil _ _) | exact ⟨_, rfl, frzC_map _⟩ | exact tl_ints rfl rfl rfl (by simp) | exact tl_txts rfl rfl rfl (by simp) | exact tl_nds rfl rfl rfl (by simp) | exact tl_tms rfl rfl rfl (by simp) | exact tl_rus rfl rfl rfl (by simp) | ((conv => whnf); first | exact trivial | exact rfl | exact .inr rfl | exact .inl ⟨rfl, rfl⟩ | apply And.intro) | refine tl_int ?_ | refine tl_bool ?_ | refine tl_str ?_ | refine tl_row rfl ?_ | exact cl_ints _ | exact cl_txts _ | exact cl_nds _ | exact cl_tms _ | exact cl_rus _ | exact cl_mp _ | exact Nat.succ_pos _ | exact pl_ints _ | exact pl_txts _ | exact pl_nds _ | exact pl_tms _ | exact pl_rus _ | with_reducible refine tl_f ?_)); all_goals (try first | rfl | assumption | exact q.symm | omega | (rw [IntKind.wrap_i64]; omega) | (simp; done) | (simp; omega))
  | false =>
    (conv => whnf); (repeat (refine ⟨by kernel_rfl, ?_⟩; (conv => whnf)))
    (refine ⟨([], _), ht.x k6, ?_⟩; (conv => whnf); (repeat (refine ⟨by kernel_rfl, ?_⟩; (conv => whnf))))
    (refine ⟨[], [], ?_⟩; rotate_left)
    all_goals (try (repeat' first | exact trivial | exact rfl | exact tl_pv rfl rfl rfl (List.cons_ne_nil _ _) | exact ⟨_, rfl, frzC_map _⟩ | exact tl_ints rfl rfl rfl (by simp) | exact tl_txts rfl rfl rfl (by simp) | exact tl_nds rfl rfl rfl (by simp) | exact tl_tms rfl rfl rfl (by simp) | exact tl_rus rfl rfl rfl (by simp) | ((conv => whnf); first | exact trivial | exact rfl | exact .inr rfl | exact .inl ⟨rfl, rfl⟩ | apply And.intro) | refine tl_int ?_ | refine tl_bool ?_ | refine tl_str ?_ | refine tl_row rfl ?_ | exact cl_ints _ | exact cl_txts _ | exact cl_nds _ | exact cl_tms _ | exact cl_rus _ | exact cl_mp _ | exact Nat.succ_pos _ | exact pl_ints _ | exact pl_txts _ | exact pl_nds _ | exact pl_tms _ | exact pl_rus _ | with_reducible refine tl_f ?_)); all_goals (try first | rfl | assumption | exact q.symm | omega | (rw [IntKind.wrap_i64]; omega) | (simp; done) | (simp; omega))
  (refine ⟨([], _), hn.x k2, ?_⟩; (conv => whnf); (repeat (refine ⟨by kernel_rfl, ?_⟩; (conv => whnf))))
  have q : dB ((1 ≤ rules ∧ rules ≤ 8) ∧ RuleP rules r) = false := dB_no fun w => k2 w.2.1
  (refine ⟨[], [], ?_⟩; rotate_left)
  (refine ⟨([], _), within_f k1, ?_⟩; (conv => whnf); (repeat (refine ⟨by kernel_rfl, ?_⟩; (conv => whnf))))
  have q : dB ((1 ≤ rules ∧ rules ≤ 8) ∧ RuleP rules r) = false := dB_no fun w => k1 w.1
  (refine ⟨[], [], ?_⟩; rotate_left)
  all_goals (try (repeat' first | exact trivial | exact rfl | exact tl_pv rfl rfl rfl (List.cons_ne_nil _ _) | exact ⟨_, rfl, frzC_map _⟩ | exact tl_ints rfl rfl rfl (by simp) | exact tl_txts rfl rfl rfl (by simp) | exact tl_nds rfl rfl rfl (by simp) | exact tl_tms rfl rfl rfl (by simp) | exact tl_rus rfl rfl rfl (by simp) | ((conv => whnf); first | exact trivial | exact rfl | exact .inr rfl | exact .inl ⟨rfl, rfl⟩ | apply And.intro) | refine tl_int ?_ | refine tl_bool ?_ | refine tl_str ?_ | refine tl_row rfl ?_ | exact cl_ints _ | exact cl_txts _ | exact cl_nds _ | exact cl_tms _ | exact cl_rus _ | exact cl_mp _ | exact Nat.succ_pos _ | exact pl_ints _ | exact pl_txts _ | exact pl_nds _ | exact pl_tms _ | exact pl_rus _ | with_reducible refine tl_f ?_)); all_goals (try first | rfl | assumption | exact q.symm | omega | (rw [IntKind.wrap_i64]; omega) | (simp; done) | (simp; omega))
end Go.Proofs.YtchfpgpboifbeaaGreat.Ac
