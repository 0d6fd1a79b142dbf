/- Several of our texts, one behind the other, without what this claim does not need: Rx, Sc, Sd. -/
import Derived.Test.YtchfpgpboifbeaaGreatZ7a97f5de
import Derived.Test.YtchfpgpboifbeaaGreatZ0728e469
import Derived.Test.YtchfpgpboifbeaaGreatZ0f57a6a1
set_option linter.unusedVariables false
set_option linter.unusedSimpArgs false
set_option maxRecDepth 20000
set_option maxHeartbeats 20000000
namespace Go.Proofs.YtchfpgpboifbeaaGreat.Ac
open Go.RowKit
def ixP {α : Type} (p : α → Bool) : Nat → List α → Int
  | _, [] => -1
  | i, x :: l => if p x then i else ixP p (i + 1) l
theorem ixP_cons {α : Type} (p : α → Bool) (i : Nat) (x : α) (l : List α) : ixP p i (x :: l) = if p x then (i : Int) else ixP p (i + 1) l := rfl
theorem ixP_any {α : Type} {p : α → Bool} : ∀ (l : List α) (i : Nat), 0 ≤ ixP p i l ↔ ∃ x ∈ l, p x = true
  | [], i => by simp [ixP]
  | x :: l, i => by
    unfold ixP
    by_cases h : p x = true
    · rw [if_pos h]; exact ⟨fun _ => ⟨x, List.mem_cons_self, h⟩, fun _ => Int.natCast_nonneg i⟩
    · rw [if_neg h, ixP_any l (i + 1)]
      exact ⟨fun ⟨y, hy, hp⟩ => ⟨y, List.mem_cons_of_mem _ hy, hp⟩, fun ⟨y, hy, hp⟩ => by
        rcases List.mem_cons.1 hy with rfl | hy
        · exact absurd hp h
        · exact ⟨y, hy, hp⟩⟩
theorem ixP_at {α : Type} {p : α → Bool} : ∀ (l : List α) (i : Nat), (ixP p i l = -1 ∧ ∀ x ∈ l, p x = false) ∨ ∃ j, ∃ h : j < l.length, ixP p i l = ((i + j : Nat) : Int) ∧ p l[j] = true ∧ ∀ k (hk : k < j), p l[k] = false
  | [], i => .inl ⟨rfl, fun x hx => by cases hx⟩
  | x :: l, i => by
    unfold ixP
    by_cases h : p x = true
    · rw [if_pos h]; exact .inr ⟨0, by simp, by simp, h, fun k hk => by omega⟩
    · rw [if_neg h]
      rcases ixP_at l (i + 1) with ⟨h1, h2⟩ | ⟨j, hj, h1, h2, h3⟩
      · exact .inl ⟨h1, fun y hy => by
          rcases List.mem_cons.1 hy with rfl | hy
          · simpa using h
          · exact h2 y hy⟩
      · refine .inr ⟨j + 1, by simpa using hj, by rw [h1]; congr 1; omega, by simpa using h2, fun k hk => ?_⟩
        cases k with
        | zero => simpa using h
        | succ k => simpa using h3 k (by omega)
theorem ixfTerm_ok (l : List Tm) (f : FuncId) (c : L) (p : Tm → Bool) (hl : l.length < 2 ^ 62) (hp : ∀ t ∈ l, FC Tryz.prog f [(true, tmL t), (false, [c])] [] [(false, [.f (bL (p t))])]) : FC Tryz.prog 299 [(false, [tms l]), (false, [.cl f [(false, [c])]])] [] [(false, [.f (iL (ixP p 0 l))])] := by
  refine gcalls_run tbl_ok mixed Tryz.func299 rfl Tryz.ntmps299 (by kernel_rfl) (Nat.le_of_ble_eq_true rfl) rfl rfl trivial ?_; (conv => whnf); (repeat (refine ⟨by kernel_rfl, ?_⟩; (conv => whnf)))
  (refine ⟨fun (m : Nat) (es : Es) (hs : Hs) => ∃ (i : Nat), (m + i = l.length) ∧ (ixP p i (l.drop i) = ixP p 0 l) ∧ es = [(8, .val false [.f (iL i)]), (7, .val false [.f (iL l.length)]), (1, .val false [.f (.cl f [(false, [c])])]), (0, .val false [.f (tms l)])] ∧ hs = [], ⟨l.length, [], [], _, _, ⟨rfl, ?_, ?_⟩, 0, ?_, ?_, rfl, rfl⟩, ?_⟩; rotate_left 4; rintro m es hs ⟨i, hIXTm0, hIXTm1, rfl, rfl⟩; (conv => whnf); (repeat (refine ⟨by kernel_rfl, ?_⟩; (conv => whnf))))
  (refine ⟨fun h => ?_, fun h => ?_⟩ <;> ((conv => whnf); (repeat (refine ⟨by kernel_rfl, ?_⟩; (conv => whnf)))))
  have hi : i < l.length := by omega
  rw [List.drop_eq_getElem_cons hi] at hIXTm1
  rw [ixP_cons] at hIXTm1
  (refine ⟨(i, tmL l[i]), ⟨rfl, by simp [hi]⟩, ?_⟩; (conv => whnf); (repeat (refine ⟨by kernel_rfl, ?_⟩; (conv => whnf))))
  have hc := hp l[i] (List.getElem_mem _)
  cases hq : p l[i] with
  | true =>
    rw [hq] at hc hIXTm1
    rw [if_pos rfl] at hIXTm1
    (refine ⟨([], _), hc, ?_⟩; (conv => whnf); (repeat (refine ⟨by kernel_rfl, ?_⟩; (conv => whnf))))
    (refine ⟨[], [], ?_⟩; rotate_left)
    all_goals try exact don
  | false =>
    rw [hq] at hc hIXTm1
    rw [if_neg (by simp)] at hIXTm1
    (refine ⟨([], _), hc, ?_⟩; (conv => whnf); (repeat (refine ⟨by kernel_rfl, ?_⟩; (conv => whnf))))
    (refine ⟨m - 1, [], [], [(8, .val false [.f (iL (i + 1))]), (7, .val false [.f (iL l.length)]), (1, .val false [.f (.cl f [(false, [c])])]), (0, .val false [.f (tms l)])], [], by omega, ⟨rfl, ?_, ?_⟩, (i + 1), ?_, ?_, rfl, rfl⟩; rotate_left 4)
    all_goals try exact don
  rw [List.drop_eq_nil_of_le (by omega), show ixP p i [] = -1 from rfl] at hIXTm1
  (refine ⟨[], [], ?_⟩; rotate_left)
  all_goals try exact don
theorem cofTerm_ok (l : List Tm) (f : FuncId) (c : L) (p : Tm → Bool) (hl : l.length < 2 ^ 62) (hp : ∀ t ∈ l, FC Tryz.prog f [(true, tmL t), (false, [c])] [] [(false, [.f (bL (p t))])]) : FC Tryz.prog 277 [(false, [tms l]), (false, [.cl f [(false, [c])]])] [] [(false, [.f (bL (l.any p))])] := by
  have hx := ixfTerm_ok l f c p hl hp
  have ha := ixP_any (p := p) l 0
  rw [← List.any_eq_true] at ha
  refine gcalls_run tbl_ok mixed Tryz.func277 rfl Tryz.ntmps277 (by kernel_rfl) (Nat.le_of_ble_eq_true rfl) rfl rfl trivial ?_; (conv => whnf); (repeat (refine ⟨by kernel_rfl, ?_⟩; (conv => whnf)))
  (refine ⟨([], _), hx, ?_⟩; (conv => whnf); (repeat (refine ⟨by kernel_rfl, ?_⟩; (conv => whnf))))
  (refine ⟨fun h => ?_, fun h => ?_⟩ <;> ((conv => whnf); (repeat (refine ⟨by kernel_rfl, ?_⟩; (conv => whnf)))))
  have q : l.any p = true := ha.1 h
  (refine ⟨[], [], ?_⟩; rotate_left)
  have q : l.any p = false := by cases e : l.any p with
    | false => rfl
    | true => exact absurd (ha.2 e) h
  (refine ⟨[], [], ?_⟩; rotate_left)
  all_goals try exact don
theorem ixfRule_ok (l : List Ru) (f : FuncId) (c : L) (p : Ru → Bool) (hl : l.length < 2 ^ 62) (hp : ∀ t ∈ l, FC Tryz.prog f [(true, ruL t), (false, [c])] [] [(false, [.f (bL (p t))])]) : FC Tryz.prog 230 [(false, [rus l]), (false, [.cl f [(false, [c])]])] [] [(false, [.f (iL (ixP p 0 l))])] := by
  refine gcalls_run tbl_ok mixed Tryz.func230 rfl Tryz.ntmps230 (by kernel_rfl) (Nat.le_of_ble_eq_true rfl) rfl rfl trivial ?_; (conv => whnf); (repeat (refine ⟨by kernel_rfl, ?_⟩; (conv => whnf)))
  (refine ⟨fun (m : Nat) (es : Es) (hs : Hs) => ∃ (i : Nat), (m + i = l.length) ∧ (ixP p i (l.drop i) = ixP p 0 l) ∧ es = [(8, .val false [.f (iL i)]), (7, .val false [.f (iL l.length)]), (1, .val false [.f (.cl f [(false, [c])])]), (0, .val false [.f (rus l)])] ∧ hs = [], ⟨l.length, [], [], _, _, ⟨rfl, ?_, ?_⟩, 0, ?_, ?_, rfl, rfl⟩, ?_⟩; rotate_left 4; rintro m es hs ⟨i, hIXRu0, hIXRu1, rfl, rfl⟩; (conv => whnf); (repeat (refine ⟨by kernel_rfl, ?_⟩; (conv => whnf))))
  (refine ⟨fun h => ?_, fun h => ?_⟩ <;> ((conv => whnf); (repeat (refine ⟨by kernel_rfl, ?_⟩; (conv => whnf)))))
  have hi : i < l.length := by omega
  rw [List.drop_eq_getElem_cons hi] at hIXRu1
  rw [ixP_cons] at hIXRu1
  (refine ⟨(i, ruL l[i]), ⟨rfl, by simp [hi]⟩, ?_⟩; (conv => whnf); (repeat (refine ⟨by kernel_rfl, ?_⟩; (conv => whnf))))
  have hc := hp l[i] (List.getElem_mem _)
  cases hq : p l[i] with
  | true =>
    rw [hq] at hc hIXRu1
    rw [if_pos rfl] at hIXRu1
    (refine ⟨([], _), hc, ?_⟩; (conv => whnf); (repeat (refine ⟨by kernel_rfl, ?_⟩; (conv => whnf))))
    (refine ⟨[], [], ?_⟩; rotate_left)
    all_goals try exact don
  | false =>
    rw [hq] at hc hIXRu1
    rw [if_neg (by simp)] at hIXRu1
    (refine ⟨([], _), hc, ?_⟩; (conv => whnf); (repeat (refine ⟨by kernel_rfl, ?_⟩; (conv => whnf))))
    (refine ⟨m - 1, [], [], [(8, .val false [.f (iL (i + 1))]), (7, .val false [.f (iL l.length)]), (1, .val false [.f (.cl f [(false, [c])])]), (0, .val false [.f (rus l)])], [], by omega, ⟨rfl, ?_, ?_⟩, (i + 1), ?_, ?_, rfl, rfl⟩; rotate_left 4)
    all_goals try exact don
  rw [List.drop_eq_nil_of_le (by omega), show ixP p i [] = -1 from rfl] at hIXRu1
  (refine ⟨[], [], ?_⟩; rotate_left)
  all_goals try exact don
end Go.Proofs.YtchfpgpboifbeaaGreat.Ac
set_option linter.unusedVariables false
set_option linter.unusedSimpArgs false
set_option maxRecDepth 20000
set_option maxHeartbeats 20000000
namespace Go.Proofs.YtchfpgpboifbeaaGreat.Ac
open Go.RowKit
def leafW : ByteArray := ⟨#[116, 101, 120, 116]⟩
def TermsP (rules : Int) (l : List Tm) : Prop := l.length ≤ 4 ∧ ∀ t ∈ l, TermP rules t
def RuleP (rules : Int) (r : Ru) : Prop := WordP r.name ∧ r.name ≠ leafW ∧ (r.leaf = true → r.terms.length = 0) ∧ TermsP rules r.terms
def TmB (t : Tm) : Prop := t.kinds.length < 2 ^ 62
def RuB (r : Ru) : Prop := r.name.size < 2 ^ 62 ∧ r.terms.length < 2 ^ 62 ∧ ∀ t ∈ r.terms, TmB t
theorem areTerms1_ok (t : Tm) (rules : Int) (hl : TmB t) : FC Tryz.prog 278 [(true, tmL t), (false, [.pv [iL rules]])] [] [(false, [.f (bL (!dB (TermP rules t)))])] := by
  have h := isTerm_ok t rules hl
  generalize dB (TermP rules t) = b at h
  refine gcalls_run tbl_ok mixed Tryz.func278 rfl Tryz.ntmps278 (by kernel_rfl) (Nat.le_of_ble_eq_true rfl) rfl rfl trivial ?_; (conv => whnf); (repeat (refine ⟨by kernel_rfl, ?_⟩; (conv => whnf)))
  cases b with
  | true =>
    (refine ⟨([], _), h, ?_⟩; (conv => whnf); (repeat (refine ⟨by kernel_rfl, ?_⟩; (conv => whnf))))
    (refine ⟨[], [], ?_⟩; rotate_left)
    all_goals (try (repeat' first | exact trivial | exact rfl | exact tl_pv rfl rfl rfl (List.cons_ne_nil _ _) | exact ⟨_, rfl, frzC_map _⟩ | exact tl_ints rfl rfl rfl (by simp) | exact tl_txts rfl rfl rfl (by simp) | exact tl_nds rfl rfl rfl (by simp) | exact tl_tms rfl rfl rfl (by simp) | exact tl_rus rfl rfl rfl (by simp) | ((conv => whnf); first | exact trivial | exact rfl | exact .inr rfl | exact .inl ⟨rfl, rfl⟩ | apply And.intro) | refine tl_int ?_ | refine tl_bool ?_ | refine tl_str ?_ | refine tl_row rfl ?_ | exact cl_ints _ | exact cl_txts _ | exact cl_nds _ | exact cl_tms _ | exact cl_rus _ | exact cl_mp _ | exact Nat.succ_pos _ | exact pl_ints _ | exact pl_txts _ | exact pl_nds _ | exact pl_tms _ | exact pl_rus _ | with_reducible refine tl_f ?_)); all_goals (try first | rfl | assumption | exact q.symm | omega | (rw [IntKind.wrap_i64]; omega) | (simp; done) | (simp; omega))
  | false =>
    (refine ⟨([], _), h, ?_⟩; (conv => whnf); (repeat (refine ⟨by kernel_rfl, ?_⟩; (conv => whnf))))
    (refine ⟨[], [], ?_⟩; rotate_left)
    all_goals (try (repeat' first | exact trivial | exact rfl | exact tl_pv rfl rfl rfl (List.cons_ne_nil _ _) | exact ⟨_, rfl, frzC_map _⟩ | exact tl_ints rfl rfl rfl (by simp) | exact tl_txts rfl rfl rfl (by simp) | exact tl_nds rfl rfl rfl (by simp) | exact tl_tms rfl rfl rfl (by simp) | exact tl_rus rfl rfl rfl (by simp) | ((conv => whnf); first | exact trivial | exact rfl | exact .inr rfl | exact .inl ⟨rfl, rfl⟩ | apply And.intro) | refine tl_int ?_ | refine tl_bool ?_ | refine tl_str ?_ | refine tl_row rfl ?_ | exact cl_ints _ | exact cl_txts _ | exact cl_nds _ | exact cl_tms _ | exact cl_rus _ | exact cl_mp _ | exact Nat.succ_pos _ | exact pl_ints _ | exact pl_txts _ | exact pl_nds _ | exact pl_tms _ | exact pl_rus _ | with_reducible refine tl_f ?_)); all_goals (try first | rfl | assumption | exact q.symm | omega | (rw [IntKind.wrap_i64]; omega) | (simp; done) | (simp; omega))
theorem areTerms_ok (l : List Tm) (rules : Int) (hl : l.length < 2 ^ 62) (hk : ∀ t ∈ l, TmB t) : FC Tryz.prog 229 [(false, [tms l]), (false, [iL rules])] [] [(false, [.f (bL (dB (TermsP rules l)))])] := by
  have hc := cofTerm_ok l 278 (.pv [iL rules]) (fun t => !dB (TermP rules t)) hl fun t ht => areTerms1_ok t rules (hk t ht)
  refine gcalls_run tbl_ok mixed Tryz.func229 rfl Tryz.ntmps229 (by kernel_rfl) (Nat.le_of_ble_eq_true rfl) rfl rfl trivial ?_; (conv => whnf); (repeat (refine ⟨by kernel_rfl, ?_⟩; (conv => whnf)))
  (refine ⟨fun h => ?_, fun h => ?_⟩ <;> ((conv => whnf); (repeat (refine ⟨by kernel_rfl, ?_⟩; (conv => whnf)))))
  cases hb : l.any fun t => !dB (TermP rules t) with
  | true =>
    rw [hb] at hc
    (refine ⟨⟨true, [], _, _, _, _⟩, hc, ?_⟩; (conv => whnf); (repeat (refine ⟨by kernel_rfl, ?_⟩; (conv => whnf))); refine ⟨⟨?_, ?_, ?_⟩, ?_⟩; rotate_left 3; (conv => whnf); (repeat (refine ⟨by kernel_rfl, ?_⟩; (conv => whnf))))
    have q : dB (TermsP rules l) = false := dB_no fun w => by
      obtain ⟨t, ht, h1⟩ := List.any_eq_true.1 hb
      rw [dB_yes (w.2 t ht)] at h1; cases h1
    (refine ⟨[], [], ?_⟩; rotate_left)
    all_goals (try (repeat' first | exact trivial | exact rfl | exact tl_pv rfl rfl rfl (List.cons_ne_nil _ _) | exact ⟨_, rfl, frzC_map _⟩ | exact tl_ints rfl rfl rfl (by simp) | exact tl_txts rfl rfl rfl (by simp) | exact tl_nds rfl rfl rfl (by simp) | exact tl_tms rfl rfl rfl (by simp) | exact tl_rus rfl rfl rfl (by simp) | ((conv => whnf); first | exact trivial | exact rfl | exact .inr rfl | exact .inl ⟨rfl, rfl⟩ | apply And.intro) | refine tl_int ?_ | refine tl_bool ?_ | refine tl_str ?_ | refine tl_row rfl ?_ | exact cl_ints _ | exact cl_txts _ | exact cl_nds _ | exact cl_tms _ | exact cl_rus _ | exact cl_mp _ | exact Nat.succ_pos _ | exact pl_ints _ | exact pl_txts _ | exact pl_nds _ | exact pl_tms _ | exact pl_rus _ | with_reducible refine tl_f ?_)); all_goals (try first | rfl | assumption | exact q.symm | omega | (rw [IntKind.wrap_i64]; omega) | (simp; done) | (simp; omega))
  | false =>
    rw [hb] at hc
    (refine ⟨⟨true, [], _, _, _, _⟩, hc, ?_⟩; (conv => whnf); (repeat (refine ⟨by kernel_rfl, ?_⟩; (conv => whnf))); refine ⟨⟨?_, ?_, ?_⟩, ?_⟩; rotate_left 3; (conv => whnf); (repeat (refine ⟨by kernel_rfl, ?_⟩; (conv => whnf))))
    have q : dB (TermsP rules l) = true := dB_yes ⟨by rw [List.length_map] at h; omega, fun t ht => by
      have := List.any_eq_false.1 hb t ht
      exact dB_iff.1 (by simpa using this)⟩
    (refine ⟨[], [], ?_⟩; rotate_left)
    all_goals (try (repeat' first | exact trivial | exact rfl | exact tl_pv rfl rfl rfl (List.cons_ne_nil _ _) | exact ⟨_, rfl, frzC_map _⟩ | exact tl_ints rfl rfl rfl (by simp) | exact tl_txts rfl rfl rfl (by simp) | exact tl_nds rfl rfl rfl (by simp) | exact tl_tms rfl rfl rfl (by simp) | exact tl_rus rfl rfl rfl (by simp) | ((conv => whnf); first | exact trivial | exact rfl | exact .inr rfl | exact .inl ⟨rfl, rfl⟩ | apply And.intro) | refine tl_int ?_ | refine tl_bool ?_ | refine tl_str ?_ | refine tl_row rfl ?_ | exact cl_ints _ | exact cl_txts _ | exact cl_nds _ | exact cl_tms _ | exact cl_rus _ | exact cl_mp _ | exact Nat.succ_pos _ | exact pl_ints _ | exact pl_txts _ | exact pl_nds _ | exact pl_tms _ | exact pl_rus _ | with_reducible refine tl_f ?_)); all_goals (try first | rfl | assumption | exact q.symm | omega | (rw [IntKind.wrap_i64]; omega) | (simp; done) | (simp; omega))
  have q : dB (TermsP rules l) = false := dB_no fun w => by have := w.1; rw [List.length_map] at h; omega
  (refine ⟨[], [], ?_⟩; rotate_left)
  all_goals (try (repeat' first | exact trivial | exact rfl | exact tl_pv rfl rfl rfl (List.cons_ne_nil _ _) | exact ⟨_, rfl, frzC_map _⟩ | exact tl_ints rfl rfl rfl (by simp) | exact tl_txts rfl rfl rfl (by simp) | exact tl_nds rfl rfl rfl (by simp) | exact tl_tms rfl rfl rfl (by simp) | exact tl_rus rfl rfl rfl (by simp) | ((conv => whnf); first | exact trivial | exact rfl | exact .inr rfl | exact .inl ⟨rfl, rfl⟩ | apply And.intro) | refine tl_int ?_ | refine tl_bool ?_ | refine tl_str ?_ | refine tl_row rfl ?_ | exact cl_ints _ | exact cl_txts _ | exact cl_nds _ | exact cl_tms _ | exact cl_rus _ | exact cl_mp _ | exact Nat.succ_pos _ | exact pl_ints _ | exact pl_txts _ | exact pl_nds _ | exact pl_tms _ | exact pl_rus _ | with_reducible refine tl_f ?_)); all_goals (try first | rfl | assumption | exact q.symm | omega | (rw [IntKind.wrap_i64]; omega) | (simp; done) | (simp; omega))
theorem ruleOK_ok (r : Ru) (rules : Int) (hr : RuB r) : FC Tryz.prog 155 [(true, ruL r), (false, [iL rules])] [] [(false, [.f (bL (dB ((1 ≤ rules ∧ rules ≤ 8) ∧ RuleP rules r)))])] := by
  have hn := nameOK_ok r.name hr.1
  have ht := areTerms_ok r.terms rules hr.2.1 hr.2.2
  have hlen : (r.terms.map tmL).length = r.terms.length := List.length_map ..
  refine gcalls_run tbl_ok mixed Tryz.func155 rfl Tryz.ntmps155 (by kernel_rfl) (Nat.le_of_ble_eq_true rfl) rfl rfl trivial ?_; (conv => whnf); (repeat (refine ⟨by kernel_rfl, ?_⟩; (conv => whnf)))
  by_cases k1 : 1 ≤ rules ∧ rules ≤ 8
  (refine ⟨([], _), within_t k1, ?_⟩; (conv => whnf); (repeat (refine ⟨by kernel_rfl, ?_⟩; (conv => whnf))))
  by_cases k2 : WordP r.name
  (refine ⟨([], _), hn.y k2, ?_⟩; (conv => whnf); (repeat (refine ⟨by kernel_rfl, ?_⟩; (conv => whnf))))
  by_cases k3 : r.name = leafW
  (refine ⟨fun h => absurd h (fun h => h k3), fun h => ?_⟩; (conv => whnf); (repeat (refine ⟨by kernel_rfl, ?_⟩; (conv => whnf))))
  have q : dB ((1 ≤ rules ∧ rules ≤ 8) ∧ RuleP rules r) = false := dB_no fun w => w.2.2.1 k3
  (refine ⟨[], [], ?_⟩; rotate_left)
  (refine ⟨fun h => ?_, fun h => absurd h (fun h => h k3)⟩; (conv => whnf); (repeat (refine ⟨by kernel_rfl, ?_⟩; (conv => whnf))))
  by_cases k6 : TermsP rules r.terms
  cases k4 : r.leaf with
  | true =>
    (conv => whnf); (repeat (refine ⟨by kernel_rfl, ?_⟩; (conv => whnf)))
    by_cases k5 : r.terms.length = 0
    (refine ⟨fun h => ?_, fun h => absurd h (fun h => h (by omega))⟩; (conv => whnf); (repeat (refine ⟨by kernel_rfl, ?_⟩; (conv => whnf))))
    (refine ⟨([], _), ht.y k6, ?_⟩; (conv => whnf); (repeat (refine ⟨by kernel_rfl, ?_⟩; (conv => whnf))))
    have q : dB ((1 ≤ rules ∧ rules ≤ 8) ∧ RuleP rules r) = true := dB_yes ⟨k1, k2, k3, fun _ => k5, k6⟩
    (refine ⟨[], [], ?_⟩; rotate_left)
    (refine ⟨fun h => absurd h (fun h => k5 (by omega)), fun h => ?_⟩; (conv => whnf); (repeat (refine ⟨by kernel_rfl, ?_⟩; (conv => whnf))))
    have q : dB ((1 ≤ rules ∧ rules ≤ 8) ∧ RuleP rules r) = false := dB_no fun w => k5 (w.2.2.2.1 k4)
    (refine ⟨[], [], ?_⟩; rotate_left)
    all_goals (try (repeat' first | exact trivial | exact rfl | exact tl_pv rfl rfl rfl (List.cons_ne_nil _ _) | exact ⟨_, rfl, frzC_map _⟩ | exact tl_ints rfl rfl rfl (by simp) | exact tl_txts rfl rfl rfl (by simp) | exact tl_nds rfl rfl rfl (by simp) | exact tl_tms rfl rfl rfl (by simp) | exact tl_rus rfl rfl rfl (by simp) | ((conv => whnf); first | exact trivial | exact rfl | exact .inr rfl | exact .inl ⟨rfl, rfl⟩ | apply And.intro) | refine tl_int ?_ | refine tl_bool ?_ | refine tl_str ?_ | refine tl_row rfl ?_ | exact cl_ints _ | exact cl_txts _ | exact cl_nds _ | exact cl_tms _ | exact cl_rus _ | exact cl_mp _ | exact Nat.succ_pos _ | exact pl_ints _ | exact pl_txts _ | exact pl_nds _ | exact pl_tms _ | exact pl_rus _ | with_reducible refine tl_f ?_)); all_goals (try first | rfl | assumption | exact q.symm | omega | (rw [IntKind.wrap_i64]; omega) | (simp; done) | (simp; omega))
  | false =>
    (conv => whnf); (repeat (refine ⟨by kernel_rfl, ?_⟩; (conv => whnf)))
    (refine ⟨([], _), ht.y k6, ?_⟩; (conv => whnf); (repeat (refine ⟨by kernel_rfl, ?_⟩; (conv => whnf))))
    have q : dB ((1 ≤ rules ∧ rules ≤ 8) ∧ RuleP rules r) = true := dB_yes ⟨k1, k2, k3, fun e => absurd (k4.symm.trans e) (by simp), k6⟩
    (refine ⟨[], [], ?_⟩; rotate_left)
    all_goals (try (repeat' first | exact trivial | exact rfl | exact tl_pv rfl rfl rfl (List.cons_ne_nil _ _) | exact ⟨_, rfl, frzC_map _⟩ | exact tl_ints rfl rfl rfl (by simp) | exact tl_txts rfl rfl rfl (by simp) | exact tl_nds rfl rfl rfl (by simp) | exact tl_tms rfl rfl rfl (by simp) | exact tl_rus rfl rfl rfl (by simp) | ((conv => whnf); first | exact trivial | exact rfl | exact .inr rfl | exact .inl ⟨rfl, rfl⟩ | apply And.intro) | refine tl_int ?_ | refine tl_bool ?_ | refine tl_str ?_ | refine tl_row rfl ?_ | exact cl_ints _ | exact cl_txts _ | exact cl_nds _ | exact cl_tms _ | exact cl_rus _ | exact cl_mp _ | exact Nat.succ_pos _ | exact pl_ints _ | exact pl_txts _ | exact pl_nds _ | exact pl_tms _ | exact pl_rus _ | with_reducible refine tl_f ?_)); all_goals (try first | rfl | assumption | exact q.symm | omega | (rw [IntKind.wrap_i64]; omega) | (simp; done) | (simp; omega))
  have q : dB ((1 ≤ rules ∧ rules ≤ 8) ∧ RuleP rules r) = false := dB_no fun w => k6 w.2.2.2.2
  cases k4 : r.leaf with
  | true =>
    (conv => whnf); (repeat (refine ⟨by kernel_rfl, ?_⟩; (conv => whnf)))
    by_cases k5 : r.terms.length = 0
    (refine ⟨fun h => ?_, fun h => absurd h (fun h => h (by omega))⟩; (conv => whnf); (repeat (refine ⟨by kernel_rfl, ?_⟩; (conv => whnf))))
    (refine ⟨([], _), ht.x k6, ?_⟩; (conv => whnf); (repeat (refine ⟨by kernel_rfl, ?_⟩; (conv => whnf))))
    (refine ⟨[], [], ?_⟩; rotate_left)
    (refine ⟨fun h => absurd h (fun h => k5 (by omega)), fun h => ?_⟩; (conv => whnf); (repeat (refine ⟨by kernel_rfl, ?_⟩; (conv => whnf))))
    (refine ⟨[], [], ?_⟩; rotate_left)
    all_goals (try (repeat' first | exact trivial | exact rfl | exact tl_pv rfl rfl rfl (List.cons_ne_nil _ _) | exact ⟨_, rfl, frzC_map _⟩ | exact tl_ints rfl rfl rfl (by simp) | exact tl_txts rfl rfl rfl (by simp) | exact tl_nds rfl rfl rfl (by simp) | exact tl_tms rfl rfl rfl (by simp) | exact tl_rus rfl rfl rfl (by simp) | ((conv => whnf); first | exact trivial | exact rfl | exact .inr rfl | exact .inl ⟨rfl, rfl⟩ | apply And.intro) | refine tl_int ?_ | refine tl_bool ?_ | refine tl_str ?_ | refine tl_row rfl ?_ | exact cl_ints _ | exact cl_txts _ | exact cl_nds _ | exact cl_tms _ | exact cl_rus _ | exact cl_mp _ | exact Nat.succ_pos _ | exact pl_ints _ | exact pl_txts _ | exact pl_nds _ | exact pl_tms _ | exact pl_rus _ | with_reducible refine tl_f ?_)); all_goals (try first | rfl | assumption | exact q.symm | omega | (rw [IntKind.wrap_i64]; omega) | (simp; done) | (simp; omega))
  | false =>
    (conv => whnf); (repeat (refine ⟨by kernel_rfl, ?_⟩; (conv => whnf)))
    (refine ⟨([], _), ht.x k6, ?_⟩; (conv => whnf); (repeat (refine ⟨by kernel_rfl, ?_⟩; (conv => whnf))))
    (refine ⟨[], [], ?_⟩; rotate_left)
    all_goals (try (repeat' first | exact trivial | exact rfl | exact tl_pv rfl rfl rfl (List.cons_ne_nil _ _) | exact ⟨_, rfl, frzC_map _⟩ | exact tl_ints rfl rfl rfl (by simp) | exact tl_txts rfl rfl rfl (by simp) | exact tl_nds rfl rfl rfl (by simp) | exact tl_tms rfl rfl rfl (by simp) | exact tl_rus rfl rfl rfl (by simp) | ((conv => whnf); first | exact trivial | exact rfl | exact .inr rfl | exact .inl ⟨rfl, rfl⟩ | apply And.intro) | refine tl_int ?_ | refine tl_bool ?_ | refine tl_str ?_ | refine tl_row rfl ?_ | exact cl_ints _ | exact cl_txts _ | exact cl_nds _ | exact cl_tms _ | exact cl_rus _ | exact cl_mp _ | exact Nat.succ_pos _ | exact pl_ints _ | exact pl_txts _ | exact pl_nds _ | exact pl_tms _ | exact pl_rus _ | with_reducible refine tl_f ?_)); all_goals (try first | rfl | assumption | exact q.symm | omega | (rw [IntKind.wrap_i64]; omega) | (simp; done) | (simp; omega))
  (refine ⟨([], _), hn.x k2, ?_⟩; (conv => whnf); (repeat (refine ⟨by kernel_rfl, ?_⟩; (conv => whnf))))
  have q : dB ((1 ≤ rules ∧ rules ≤ 8) ∧ RuleP rules r) = false := dB_no fun w => k2 w.2.1
  (refine ⟨[], [], ?_⟩; rotate_left)
  (refine ⟨([], _), within_f k1, ?_⟩; (conv => whnf); (repeat (refine ⟨by kernel_rfl, ?_⟩; (conv => whnf))))
  have q : dB ((1 ≤ rules ∧ rules ≤ 8) ∧ RuleP rules r) = false := dB_no fun w => k1 w.1
  (refine ⟨[], [], ?_⟩; rotate_left)
  all_goals (try (repeat' first | exact trivial | exact rfl | exact tl_pv rfl rfl rfl (List.cons_ne_nil _ _) | exact ⟨_, rfl, frzC_map _⟩ | exact tl_ints rfl rfl rfl (by simp) | exact tl_txts rfl rfl rfl (by simp) | exact tl_nds rfl rfl rfl (by simp) | exact tl_tms rfl rfl rfl (by simp) | exact tl_rus rfl rfl rfl (by simp) | ((conv => whnf); first | exact trivial | exact rfl | exact .inr rfl | exact .inl ⟨rfl, rfl⟩ | apply And.intro) | refine tl_int ?_ | refine tl_bool ?_ | refine tl_str ?_ | refine tl_row rfl ?_ | exact cl_ints _ | exact cl_txts _ | exact cl_nds _ | exact cl_tms _ | exact cl_rus _ | exact cl_mp _ | exact Nat.succ_pos _ | exact pl_ints _ | exact pl_txts _ | exact pl_nds _ | exact pl_tms _ | exact pl_rus _ | with_reducible refine tl_f ?_)); all_goals (try first | rfl | assumption | exact q.symm | omega | (rw [IntKind.wrap_i64]; omega) | (simp; done) | (simp; omega))
end Go.Proofs.YtchfpgpboifbeaaGreat.Ac
set_option linter.unusedVariables false
set_option linter.unusedSimpArgs false
set_option maxRecDepth 20000
set_option maxHeartbeats 20000000
namespace Go.Proofs.YtchfpgpboifbeaaGreat.Ac
open Go.RowKit
theorem l03Rule_ok (r : Ru) (rules : Int) (hr : RuB r) : FC Tryz.prog 146 [(true, ruL r), (false, [iL rules])] [] [(false, [.f (bL (dB (RuleP rules r)))])] := by
  have hn := l00Word_ok r.name hr.1
  have hlen : (r.terms.map tmL).length = r.terms.length := List.length_map ..
  have hsz := hr.2.1
  refine gcalls_run tbl_ok mixed Tryz.func146 rfl Tryz.ntmps146 (by kernel_rfl) (Nat.le_of_ble_eq_true rfl) rfl rfl trivial ?_; (conv => whnf); (repeat (refine ⟨by kernel_rfl, ?_⟩; (conv => whnf)))
  by_cases k2 : WordP r.name
  (refine ⟨([], _), hn.y k2, ?_⟩; (conv => whnf); (repeat (refine ⟨by kernel_rfl, ?_⟩; (conv => whnf))))
  by_cases k3 : r.name = leafW
  (refine ⟨fun h => ?_, fun h => absurd h (fun h => h k3)⟩; (conv => whnf); (repeat (refine ⟨by kernel_rfl, ?_⟩; (conv => whnf))))
  have q : dB (RuleP rules r) = false := dB_no fun w => w.2.1 k3
  (refine ⟨[], [], ?_⟩; rotate_left)
  (refine ⟨fun h => absurd h (fun h => k3 h), fun h => ?_⟩; (conv => whnf); (repeat (refine ⟨by kernel_rfl, ?_⟩; (conv => whnf))))
  (refine ⟨fun h => ?_, fun h => ?_⟩ <;> ((conv => whnf); (repeat (refine ⟨by kernel_rfl, ?_⟩; (conv => whnf)))))
  have q : dB (RuleP rules r) = false := dB_no fun w => by have := w.2.2.2.1; omega
  (refine ⟨[], [], ?_⟩; rotate_left)
  have k7 := h
  cases k4 : r.leaf with
  | true =>
    (conv => whnf); (repeat (refine ⟨by kernel_rfl, ?_⟩; (conv => whnf)))
    (refine ⟨fun h => ?_, fun h => ?_⟩ <;> ((conv => whnf); (repeat (refine ⟨by kernel_rfl, ?_⟩; (conv => whnf)))))
    have q : dB (RuleP rules r) = false := dB_no fun w => by have := w.2.2.1 k4; omega
    (refine ⟨[], [], ?_⟩; rotate_left)
    have k5 : r.terms.length = 0 := by omega
    (refine ⟨fun (m : Nat) (es : Es) (hs : Hs) => ∃ (i : Nat) (lf : Bool), (m + i = r.terms.length) ∧ (∀ j, j < i → ∀ h : j < r.terms.length, TermP rules r.terms[j]) ∧ es = [(5, .val false [.f (iL i)]), (2, .val false [.pt 48 0 0]), (1, .val false [.f (iL rules)])] ∧ hs = [(48, some ⟨3, 3, [[.f (sL r.name), .f (bL lf), .f (tms r.terms)]]⟩)], ⟨r.terms.length, [], [], _, _, ⟨rfl, ?_, ?_⟩, 0, true, ?_, ?_, rfl, rfl⟩, ?_⟩; rotate_left 4; rintro m es hs ⟨i, lf, hRB0, hRB1, rfl, rfl⟩; (conv => whnf); (repeat (refine ⟨by kernel_rfl, ?_⟩; (conv => whnf))))
    (refine ⟨fun h => ?_, fun h => ?_⟩ <;> ((conv => whnf); (repeat (refine ⟨by kernel_rfl, ?_⟩; (conv => whnf)))))
    omega
    have q : dB (RuleP rules r) = true := dB_yes ⟨k2, k3, fun _ => k5, by omega, fun t ht => by
      rw [List.eq_nil_of_length_eq_zero k5] at ht; cases ht⟩
    (refine ⟨[], [], ?_⟩; rotate_left)
    all_goals (try (repeat' first | exact trivial | exact rfl | exact tl_pv rfl rfl rfl (List.cons_ne_nil _ _) | exact ⟨_, rfl, frzC_map _⟩ | exact tl_ints rfl rfl rfl (by simp) | exact tl_txts rfl rfl rfl (by simp) | exact tl_nds rfl rfl rfl (by simp) | exact tl_tms rfl rfl rfl (by simp) | exact tl_rus rfl rfl rfl (by simp) | ((conv => whnf); first | exact trivial | exact rfl | exact .inr rfl | exact .inl ⟨rfl, rfl⟩ | apply And.intro) | refine tl_int ?_ | refine tl_bool ?_ | refine tl_str ?_ | refine tl_row rfl ?_ | exact cl_ints _ | exact cl_txts _ | exact cl_nds _ | exact cl_tms _ | exact cl_rus _ | exact cl_mp _ | exact Nat.succ_pos _ | exact pl_ints _ | exact pl_txts _ | exact pl_nds _ | exact pl_tms _ | exact pl_rus _ | with_reducible refine tl_f ?_)); all_goals (try first | rfl | assumption | exact q.symm | omega | (rw [IntKind.wrap_i64]; omega) | (simp; done) | (simp; omega))
  | false =>
    (conv => whnf); (repeat (refine ⟨by kernel_rfl, ?_⟩; (conv => whnf)))
    (refine ⟨fun (m : Nat) (es : Es) (hs : Hs) => ∃ (i : Nat) (lf : Bool), (m + i = r.terms.length) ∧ (∀ j, j < i → ∀ h : j < r.terms.length, TermP rules r.terms[j]) ∧ es = [(5, .val false [.f (iL i)]), (2, .val false [.pt 48 0 0]), (1, .val false [.f (iL rules)])] ∧ hs = [(48, some ⟨3, 3, [[.f (sL r.name), .f (bL lf), .f (tms r.terms)]]⟩)], ⟨r.terms.length, [], [], _, _, ⟨rfl, ?_, ?_⟩, 0, false, ?_, ?_, rfl, rfl⟩, ?_⟩; rotate_left 4; rintro m es hs ⟨i, lf, hRB0, hRB1, rfl, rfl⟩; (conv => whnf); (repeat (refine ⟨by kernel_rfl, ?_⟩; (conv => whnf))))
    (refine ⟨fun h => ?_, fun h => ?_⟩ <;> ((conv => whnf); (repeat (refine ⟨by kernel_rfl, ?_⟩; (conv => whnf)))))
    have hi : i < r.terms.length := by omega
    have hb := l03Term_ok r.terms[i] rules (hr.2.2 _ (List.getElem_mem _))
    (refine ⟨(i, tmL r.terms[i]), ⟨rfl, by simp [hi]⟩, ?_⟩; (conv => whnf); (repeat (refine ⟨by kernel_rfl, ?_⟩; (conv => whnf))))
    by_cases k : TermP rules r.terms[i]
    (refine ⟨([], _), hb.y k, ?_⟩; (conv => whnf); (repeat (refine ⟨by kernel_rfl, ?_⟩; (conv => whnf))))
    have q := lt_suc (n := 0) hRB1 fun _ => k
    (refine ⟨m - 1, [], [], [(5, .val false [.f (iL (i + 1))]), (2, .val false [.pt 48 0 0]), (1, .val false [.f (iL rules)])], [(48, some ⟨3, 3, [[.f (sL r.name), .f (bL lf), .f (tms r.terms)]]⟩)], by omega, ⟨rfl, ?_, ?_⟩, (i + 1), lf, ?_, ?_, rfl, rfl⟩; rotate_left 4)
    (refine ⟨([], _), hb.x k, ?_⟩; (conv => whnf); (repeat (refine ⟨by kernel_rfl, ?_⟩; (conv => whnf))))
    have q : dB (RuleP rules r) = false := dB_no fun w => k (w.2.2.2.2 _ (List.getElem_mem _))
    (refine ⟨[], [], ?_⟩; rotate_left)
    have q : dB (RuleP rules r) = true := dB_yes ⟨k2, k3, fun e => absurd (k4.symm.trans e) (by simp), by omega, fun t ht => by
      obtain ⟨j, hj, rfl⟩ := List.mem_iff_getElem.1 ht
      exact hRB1 j (by omega) hj⟩
    (refine ⟨[], [], ?_⟩; rotate_left)
    all_goals (try (repeat' first | exact trivial | exact rfl | exact tl_pv rfl rfl rfl (List.cons_ne_nil _ _) | exact ⟨_, rfl, frzC_map _⟩ | exact tl_ints rfl rfl rfl (by simp) | exact tl_txts rfl rfl rfl (by simp) | exact tl_nds rfl rfl rfl (by simp) | exact tl_tms rfl rfl rfl (by simp) | exact tl_rus rfl rfl rfl (by simp) | ((conv => whnf); first | exact trivial | exact rfl | exact .inr rfl | exact .inl ⟨rfl, rfl⟩ | apply And.intro) | refine tl_int ?_ | refine tl_bool ?_ | refine tl_str ?_ | refine tl_row rfl ?_ | exact cl_ints _ | exact cl_txts _ | exact cl_nds _ | exact cl_tms _ | exact cl_rus _ | exact cl_mp _ | exact Nat.succ_pos _ | exact pl_ints _ | exact pl_txts _ | exact pl_nds _ | exact pl_tms _ | exact pl_rus _ | with_reducible refine tl_f ?_)); all_goals (try first | rfl | assumption | exact q.symm | omega | (rw [IntKind.wrap_i64]; omega) | (simp; done) | (simp; omega))
  (refine ⟨([], _), hn.x k2, ?_⟩; (conv => whnf); (repeat (refine ⟨by kernel_rfl, ?_⟩; (conv => whnf))))
  have q : dB (RuleP rules r) = false := dB_no fun w => k2 w.1
  (refine ⟨[], [], ?_⟩; rotate_left)
  all_goals (try (repeat' first | exact trivial | exact rfl | exact tl_pv rfl rfl rfl (List.cons_ne_nil _ _) | exact ⟨_, rfl, frzC_map _⟩ | exact tl_ints rfl rfl rfl (by simp) | exact tl_txts rfl rfl rfl (by simp) | exact tl_nds rfl rfl rfl (by simp) | exact tl_tms rfl rfl rfl (by simp) | exact tl_rus rfl rfl rfl (by simp) | ((conv => whnf); first | exact trivial | exact rfl | exact .inr rfl | exact .inl ⟨rfl, rfl⟩ | apply And.intro) | refine tl_int ?_ | refine tl_bool ?_ | refine tl_str ?_ | refine tl_row rfl ?_ | exact cl_ints _ | exact cl_txts _ | exact cl_nds _ | exact cl_tms _ | exact cl_rus _ | exact cl_mp _ | exact Nat.succ_pos _ | exact pl_ints _ | exact pl_txts _ | exact pl_nds _ | exact pl_tms _ | exact pl_rus _ | with_reducible refine tl_f ?_)); all_goals (try first | rfl | assumption | exact q.symm | omega | (rw [IntKind.wrap_i64]; omega) | (simp; done) | (simp; omega))
def nmQ (nm : ByteArray) (r : Ru) : Bool := decide (r.name = nm)
theorem kindOf1_ok (r : Ru) (nm : ByteArray) : FC Tryz.prog 231 [(true, ruL r), (false, [.pv [sL nm]])] [] [(false, [.f (bL (nmQ nm r))])] := by
  refine gcalls_run tbl_ok mixed Tryz.func231 rfl Tryz.ntmps231 (by kernel_rfl) (Nat.le_of_ble_eq_true rfl) rfl rfl trivial ?_; (conv => whnf); (repeat (refine ⟨by kernel_rfl, ?_⟩; (conv => whnf)))
  (refine ⟨fun h => ?_, fun h => ?_⟩ <;> ((conv => whnf); (repeat (refine ⟨by kernel_rfl, ?_⟩; (conv => whnf)))))
  have q : nmQ nm r = true := decide_eq_true h
  (refine ⟨[], [], ?_⟩; rotate_left)
  have q : nmQ nm r = false := decide_eq_false h
  (refine ⟨[], [], ?_⟩; rotate_left)
  all_goals (try (repeat' first | exact trivial | exact rfl | exact tl_pv rfl rfl rfl (List.cons_ne_nil _ _) | exact ⟨_, rfl, frzC_map _⟩ | exact tl_ints rfl rfl rfl (by simp) | exact tl_txts rfl rfl rfl (by simp) | exact tl_nds rfl rfl rfl (by simp) | exact tl_tms rfl rfl rfl (by simp) | exact tl_rus rfl rfl rfl (by simp) | ((conv => whnf); first | exact trivial | exact rfl | exact .inr rfl | exact .inl ⟨rfl, rfl⟩ | apply And.intro) | refine tl_int ?_ | refine tl_bool ?_ | refine tl_str ?_ | refine tl_row rfl ?_ | exact cl_ints _ | exact cl_txts _ | exact cl_nds _ | exact cl_tms _ | exact cl_rus _ | exact cl_mp _ | exact Nat.succ_pos _ | exact pl_ints _ | exact pl_txts _ | exact pl_nds _ | exact pl_tms _ | exact pl_rus _ | with_reducible refine tl_f ?_)); all_goals (try first | rfl | assumption | exact q.symm | omega | (rw [IntKind.wrap_i64]; omega) | (simp; done) | (simp; omega))
def kindF (l : List Ru) (nm : ByteArray) : Int := ixP (nmQ nm) 0 l + 1
theorem kindOf_ok (l : List Ru) (nm : ByteArray) (hl : l.length < 2 ^ 62) : FC Tryz.prog 156 [(false, [rus l]), (false, [sL nm])] [] [(false, [.f (iL (kindF l nm))])] := by
  have hc := ixfRule_ok l 231 (.pv [sL nm]) (nmQ nm) hl fun r _ => kindOf1_ok r nm
  have hw : IntKind.i64.wrap (ixP (nmQ nm) 0 l + 1) = kindF l nm := by
    unfold kindF
    rcases ixP_at (p := nmQ nm) l 0 with ⟨h1, _⟩ | ⟨j, hj, h1, _⟩ <;> rw [h1]
    · rfl
    · exact wrap_id (by omega)
  refine gcalls_run tbl_ok mixed Tryz.func156 rfl Tryz.ntmps156 (by kernel_rfl) (Nat.le_of_ble_eq_true rfl) rfl rfl trivial ?_; (conv => whnf); (repeat (refine ⟨by kernel_rfl, ?_⟩; (conv => whnf)))
  (refine ⟨⟨true, [], _, _, _, _⟩, hc, ?_⟩; (conv => whnf); (repeat (refine ⟨by kernel_rfl, ?_⟩; (conv => whnf))); refine ⟨⟨?_, ?_, ?_⟩, ?_⟩; rotate_left 3; (conv => whnf); (repeat (refine ⟨by kernel_rfl, ?_⟩; (conv => whnf))))
  rw [hw]
  (refine ⟨[], [], ?_⟩; rotate_left)
  all_goals (try (repeat' first | exact trivial | exact rfl | exact tl_pv rfl rfl rfl (List.cons_ne_nil _ _) | exact ⟨_, rfl, frzC_map _⟩ | exact tl_ints rfl rfl rfl (by simp) | exact tl_txts rfl rfl rfl (by simp) | exact tl_nds rfl rfl rfl (by simp) | exact tl_tms rfl rfl rfl (by simp) | exact tl_rus rfl rfl rfl (by simp) | ((conv => whnf); first | exact trivial | exact rfl | exact .inr rfl | exact .inl ⟨rfl, rfl⟩ | apply And.intro) | refine tl_int ?_ | refine tl_bool ?_ | refine tl_str ?_ | refine tl_row rfl ?_ | exact cl_ints _ | exact cl_txts _ | exact cl_nds _ | exact cl_tms _ | exact cl_rus _ | exact cl_mp _ | exact Nat.succ_pos _ | exact pl_ints _ | exact pl_txts _ | exact pl_nds _ | exact pl_tms _ | exact pl_rus _ | with_reducible refine tl_f ?_)); all_goals (try first | rfl | assumption | exact q.symm | omega | (rw [IntKind.wrap_i64]; omega) | (simp; done) | (simp; omega))
def NamesP (l : List Ru) (i : Nat) (h : i < l.length) : Prop := ∀ j (hj : j < i), l[j].name ≠ l[i].name
def SchemaP (l : List Ru) : Prop := (1 ≤ (l.length : Int) ∧ (l.length : Int) ≤ 8) ∧ ∀ i (h : i < l.length), RuleP l.length l[i] ∧ NamesP l i h
theorem kindF_at (l : List Ru) (i : Nat) (h : i < l.length) : (NamesP l i h ∧ kindF l l[i].name = (i : Int) + 1) ∨ (¬ NamesP l i h ∧ kindF l l[i].name ≠ (i : Int) + 1) := by
  unfold kindF
  rcases ixP_at (p := nmQ l[i].name) l 0 with ⟨_, h2⟩ | ⟨j, hj, h1, h2, h3⟩
  · have := h2 l[i] (List.getElem_mem _)
    simp [nmQ] at this
  · rw [h1]
    have hji : j ≤ i := by
      by_cases g : j ≤ i
      · exact g
      · have := h3 i (by omega)
        simp [nmQ] at this
    by_cases e : j = i
    · subst e
      exact .inl ⟨fun k hk => by simpa [nmQ] using h3 k hk, by omega⟩
    · exact .inr ⟨fun w => w j (by omega) (by simpa [nmQ] using h2), by omega⟩
theorem schemaOK_ok (l : List Ru) (hl : l.length < 2 ^ 62) (hb : ∀ r ∈ l, RuB r) : FC Tryz.prog 75 [(false, [rus l])] [] [(false, [.f (bL (dB (SchemaP l)))])] := by
  have hlen : ((l.map ruL).length : Int) = l.length := by rw [List.length_map]
  by_cases k1 : 1 ≤ (l.length : Int) ∧ (l.length : Int) ≤ 8
  · have w1 := within_t k1
    refine gcalls_run tbl_ok mixed Tryz.func75 rfl Tryz.ntmps75 (by kernel_rfl) (Nat.le_of_ble_eq_true rfl) rfl rfl trivial ?_; (conv => whnf); (repeat (refine ⟨by kernel_rfl, ?_⟩; (conv => whnf)))
    rw [hlen]
    (refine ⟨([], _), w1, ?_⟩; (conv => whnf); (repeat (refine ⟨by kernel_rfl, ?_⟩; (conv => whnf))))
    (refine ⟨fun (m : Nat) (es : Es) (hs : Hs) => ∃ (i : Nat), (m + i = l.length) ∧ (∀ j, j < i → ∀ h : j < l.length, RuleP l.length l[j] ∧ NamesP l j h) ∧ es = [(11, .val false [.f (iL i)]), (10, .val false [.f (iL l.length)]), (9, .val false [.f (rus l)]), (0, .val false [.f (rus l)])] ∧ hs = [], ⟨l.length, [], [], _, _, ⟨rfl, ?_, ?_⟩, 0, ?_, ?_, rfl, rfl⟩, ?_⟩; rotate_left 4; rintro m es hs ⟨i, hSA0, hSA1, rfl, rfl⟩; (conv => whnf); (repeat (refine ⟨by kernel_rfl, ?_⟩; (conv => whnf))))
    (refine ⟨fun h => ?_, fun h => ?_⟩ <;> ((conv => whnf); (repeat (refine ⟨by kernel_rfl, ?_⟩; (conv => whnf)))))
    have hi : i < l.length := by omega
    have hr := ruleOK_ok l[i] l.length (hb _ (List.getElem_mem _))
    have hk := kindOf_ok l l[i].name hl
    (refine ⟨(i, ruL l[i]), ⟨rfl, by simp [hi]⟩, ?_⟩; (conv => whnf); (repeat (refine ⟨by kernel_rfl, ?_⟩; (conv => whnf))))
    rw [hlen]
    by_cases k : RuleP l.length l[i]
    (refine ⟨([], _), hr.y ⟨k1, k⟩, ?_⟩; (conv => whnf); (repeat (refine ⟨by kernel_rfl, ?_⟩; (conv => whnf))))
    (refine ⟨([], _), hk, ?_⟩; (conv => whnf); (repeat (refine ⟨by kernel_rfl, ?_⟩; (conv => whnf))))
    rw [wrap_suc (i := i) (by omega)]
    rcases kindF_at l i hi with ⟨g1, g2⟩ | ⟨g1, g2⟩
    (refine ⟨fun h => absurd h (fun e => e (by rw [g2]; rfl)), fun h => ?_⟩; (conv => whnf); (repeat (refine ⟨by kernel_rfl, ?_⟩; (conv => whnf))))
    have q := lt_suc (n := 0) hSA1 fun _ => ⟨k, g1⟩
    (refine ⟨m - 1, [], [], [(11, .val false [.f (iL (i + 1))]), (10, .val false [.f (iL l.length)]), (9, .val false [.f (rus l)]), (0, .val false [.f (rus l)])], [], by omega, ⟨rfl, ?_, ?_⟩, (i + 1), ?_, ?_, rfl, rfl⟩; rotate_left 4)
    (refine ⟨fun h => ?_, fun h => absurd h (fun e => e (fun e2 => g2 (by rw [e2]; rfl)))⟩; (conv => whnf); (repeat (refine ⟨by kernel_rfl, ?_⟩; (conv => whnf))))
    have q : dB (SchemaP l) = false := dB_no fun w => g1 (w.2 i hi).2
    (refine ⟨[], [], ?_⟩; rotate_left)
    (refine ⟨([], _), hr.x fun w => k w.2, ?_⟩; (conv => whnf); (repeat (refine ⟨by kernel_rfl, ?_⟩; (conv => whnf))))
    have q : dB (SchemaP l) = false := dB_no fun w => k (w.2 i hi).1
    (refine ⟨[], [], ?_⟩; rotate_left)
    have q : dB (SchemaP l) = true := dB_yes ⟨k1, fun j hj => hSA1 j (by omega) hj⟩
    (refine ⟨[], [], ?_⟩; rotate_left)
    all_goals (try (repeat' first | exact trivial | exact rfl | exact tl_pv rfl rfl rfl (List.cons_ne_nil _ _) | exact ⟨_, rfl, frzC_map _⟩ | exact tl_ints rfl rfl rfl (by simp) | exact tl_txts rfl rfl rfl (by simp) | exact tl_nds rfl rfl rfl (by simp) | exact tl_tms rfl rfl rfl (by simp) | exact tl_rus rfl rfl rfl (by simp) | ((conv => whnf); first | exact trivial | exact rfl | exact .inr rfl | exact .inl ⟨rfl, rfl⟩ | apply And.intro) | refine tl_int ?_ | refine tl_bool ?_ | refine tl_str ?_ | refine tl_row rfl ?_ | exact cl_ints _ | exact cl_txts _ | exact cl_nds _ | exact cl_tms _ | exact cl_rus _ | exact cl_mp _ | exact Nat.succ_pos _ | exact pl_ints _ | exact pl_txts _ | exact pl_nds _ | exact pl_tms _ | exact pl_rus _ | with_reducible refine tl_f ?_)); all_goals (try first | rfl | assumption | exact q.symm | omega | (rw [IntKind.wrap_i64]; omega) | (simp; done) | (simp; omega))
  · have w1 := within_f k1
    refine gcalls_run tbl_ok mixed Tryz.func75 rfl Tryz.ntmps75 (by kernel_rfl) (Nat.le_of_ble_eq_true rfl) rfl rfl trivial ?_; (conv => whnf); (repeat (refine ⟨by kernel_rfl, ?_⟩; (conv => whnf)))
    rw [hlen]
    (refine ⟨([], _), w1, ?_⟩; (conv => whnf); (repeat (refine ⟨by kernel_rfl, ?_⟩; (conv => whnf))))
    have q : dB (SchemaP l) = false := dB_no fun w => k1 w.1
    (refine ⟨[], [], ?_⟩; rotate_left)
    all_goals (try (repeat' first | exact trivial | exact rfl | exact tl_pv rfl rfl rfl (List.cons_ne_nil _ _) | exact ⟨_, rfl, frzC_map _⟩ | exact tl_ints rfl rfl rfl (by simp) | exact tl_txts rfl rfl rfl (by simp) | exact tl_nds rfl rfl rfl (by simp) | exact tl_tms rfl rfl rfl (by simp) | exact tl_rus rfl rfl rfl (by simp) | ((conv => whnf); first | exact trivial | exact rfl | exact .inr rfl | exact .inl ⟨rfl, rfl⟩ | apply And.intro) | refine tl_int ?_ | refine tl_bool ?_ | refine tl_str ?_ | refine tl_row rfl ?_ | exact cl_ints _ | exact cl_txts _ | exact cl_nds _ | exact cl_tms _ | exact cl_rus _ | exact cl_mp _ | exact Nat.succ_pos _ | exact pl_ints _ | exact pl_txts _ | exact pl_nds _ | exact pl_tms _ | exact pl_rus _ | with_reducible refine tl_f ?_)); all_goals (try first | rfl | assumption | exact q.symm | omega | (rw [IntKind.wrap_i64]; omega) | (simp; done) | (simp; omega))
theorem l03OK_ok (l : List Ru) (hl : l.length < 2 ^ 62) (hb : ∀ r ∈ l, RuB r) : FC Tryz.prog 66 [(false, [rus l])] [] [(false, [.f (bL (dB (SchemaP l)))])] := by
  have hlen : ((l.map ruL).length : Int) = l.length := by rw [List.length_map]
  by_cases k1 : 1 ≤ (l.length : Int) ∧ (l.length : Int) ≤ 8
  · have w1 := in_t k1
    refine gcalls_run tbl_ok mixed Tryz.func66 rfl Tryz.ntmps66 (by kernel_rfl) (Nat.le_of_ble_eq_true rfl) rfl rfl trivial ?_; (conv => whnf); (repeat (refine ⟨by kernel_rfl, ?_⟩; (conv => whnf)))
    rw [hlen]
    (refine ⟨([], _), w1, ?_⟩; (conv => whnf); (repeat (refine ⟨by kernel_rfl, ?_⟩; (conv => whnf))))
    (refine ⟨fun (m : Nat) (es : Es) (hs : Hs) => ∃ (i : Nat), (m + i = l.length) ∧ (∀ j, j < i → ∀ h : j < l.length, RuleP l.length l[j] ∧ NamesP l j h) ∧ es = [(3, .val false [.f (iL i)]), (0, .val false [.f (rus l)])] ∧ hs = [], ⟨l.length, [], [], _, _, ⟨rfl, ?_, ?_⟩, 0, ?_, ?_, rfl, rfl⟩, ?_⟩; rotate_left 4; rintro m es hs ⟨i, hSO0, hSO1, rfl, rfl⟩; (conv => whnf); (repeat (refine ⟨by kernel_rfl, ?_⟩; (conv => whnf))))
    (refine ⟨fun h => ?_, fun h => ?_⟩ <;> ((conv => whnf); (repeat (refine ⟨by kernel_rfl, ?_⟩; (conv => whnf)))))
    have hi : i < l.length := by omega
    have hr := l03Rule_ok l[i] l.length (hb _ (List.getElem_mem _))
    (refine ⟨(i, ruL l[i]), ⟨rfl, by simp [hi]⟩, ?_⟩; (conv => whnf); (repeat (refine ⟨by kernel_rfl, ?_⟩; (conv => whnf))))
    rw [hlen]
    by_cases k : RuleP l.length l[i]
    (refine ⟨([], _), hr.y k, ?_⟩; (conv => whnf); (repeat (refine ⟨by kernel_rfl, ?_⟩; (conv => whnf))))
    obtain ⟨mo, hmo⟩ : ∃ mo, mo = m := ⟨m, rfl⟩
    (refine ⟨fun (m : Nat) (es : Es) (hs : Hs) => ∃ (u : Nat), (m + u = i) ∧ (∀ j, j < u → ∀ h : j < l.length, l[j].name ≠ l[i].name) ∧ es = [(4, .val false [.f (iL u)]), (3, .val false [.f (iL i)]), (0, .val false [.f (rus l)])] ∧ hs = [], ⟨i, [], [], _, _, ⟨rfl, ?_, ?_⟩, 0, ?_, ?_, rfl, rfl⟩, ?_⟩; rotate_left 4; rintro m es hs ⟨u, hSP0, hSP1, rfl, rfl⟩; (conv => whnf); (repeat (refine ⟨by kernel_rfl, ?_⟩; (conv => whnf))))
    (refine ⟨fun h => ?_, fun h => ?_⟩ <;> ((conv => whnf); (repeat (refine ⟨by kernel_rfl, ?_⟩; (conv => whnf)))))
    have hki : u < l.length := by omega
    (refine ⟨(u, ruL l[u]), ⟨rfl, by simp [hki]⟩, ?_⟩; (conv => whnf); (repeat (refine ⟨by kernel_rfl, ?_⟩; (conv => whnf))))
    (refine ⟨(i, ruL l[i]), ⟨rfl, by simp [hi]⟩, ?_⟩; (conv => whnf); (repeat (refine ⟨by kernel_rfl, ?_⟩; (conv => whnf))))
    (refine ⟨fun h => ?_, fun h => ?_⟩ <;> ((conv => whnf); (repeat (refine ⟨by kernel_rfl, ?_⟩; (conv => whnf)))))
    have q : dB (SchemaP l) = false := dB_no fun w => (w.2 i hi).2 u (by omega) h
    (refine ⟨[], [], ?_⟩; rotate_left)
    have q := lt_suc (n := 0) hSP1 fun _ => h
    (refine ⟨m - 1, [], [], [(4, .val false [.f (iL (u + 1))]), (3, .val false [.f (iL i)]), (0, .val false [.f (rus l)])], [], by omega, ⟨rfl, ?_, ?_⟩, (u + 1), ?_, ?_, rfl, rfl⟩; rotate_left 4)
    have q := lt_suc (n := 0) hSO1 fun _ => ⟨k, fun j hj => hSP1 j (by omega) (by omega)⟩
    (refine ⟨mo - 1, [], [], [(3, .val false [.f (iL (i + 1))]), (0, .val false [.f (rus l)])], [], by omega, ⟨rfl, ?_, ?_⟩, (i + 1), ?_, ?_, rfl, rfl⟩; rotate_left 4)
    (refine ⟨([], _), hr.x k, ?_⟩; (conv => whnf); (repeat (refine ⟨by kernel_rfl, ?_⟩; (conv => whnf))))
    have q : dB (SchemaP l) = false := dB_no fun w => k (w.2 i hi).1
    (refine ⟨[], [], ?_⟩; rotate_left)
    have q : dB (SchemaP l) = true := dB_yes ⟨k1, fun j hj => hSO1 j (by omega) hj⟩
    (refine ⟨[], [], ?_⟩; rotate_left)
    all_goals (try (repeat' first | exact trivial | exact rfl | exact tl_pv rfl rfl rfl (List.cons_ne_nil _ _) | exact ⟨_, rfl, frzC_map _⟩ | exact tl_ints rfl rfl rfl (by simp) | exact tl_txts rfl rfl rfl (by simp) | exact tl_nds rfl rfl rfl (by simp) | exact tl_tms rfl rfl rfl (by simp) | exact tl_rus rfl rfl rfl (by simp) | ((conv => whnf); first | exact trivial | exact rfl | exact .inr rfl | exact .inl ⟨rfl, rfl⟩ | apply And.intro) | refine tl_int ?_ | refine tl_bool ?_ | refine tl_str ?_ | refine tl_row rfl ?_ | exact cl_ints _ | exact cl_txts _ | exact cl_nds _ | exact cl_tms _ | exact cl_rus _ | exact cl_mp _ | exact Nat.succ_pos _ | exact pl_ints _ | exact pl_txts _ | exact pl_nds _ | exact pl_tms _ | exact pl_rus _ | with_reducible refine tl_f ?_)); all_goals (try first | rfl | assumption | exact q.symm | omega | (rw [IntKind.wrap_i64]; omega) | (simp; done) | (simp; omega))
  · have w1 := in_f k1
    refine gcalls_run tbl_ok mixed Tryz.func66 rfl Tryz.ntmps66 (by kernel_rfl) (Nat.le_of_ble_eq_true rfl) rfl rfl trivial ?_; (conv => whnf); (repeat (refine ⟨by kernel_rfl, ?_⟩; (conv => whnf)))
    rw [hlen]
    (refine ⟨([], _), w1, ?_⟩; (conv => whnf); (repeat (refine ⟨by kernel_rfl, ?_⟩; (conv => whnf))))
    have q : dB (SchemaP l) = false := dB_no fun w => k1 w.1
    (refine ⟨[], [], ?_⟩; rotate_left)
    all_goals (try (repeat' first | exact trivial | exact rfl | exact tl_pv rfl rfl rfl (List.cons_ne_nil _ _) | exact ⟨_, rfl, frzC_map _⟩ | exact tl_ints rfl rfl rfl (by simp) | exact tl_txts rfl rfl rfl (by simp) | exact tl_nds rfl rfl rfl (by simp) | exact tl_tms rfl rfl rfl (by simp) | exact tl_rus rfl rfl rfl (by simp) | ((conv => whnf); first | exact trivial | exact rfl | exact .inr rfl | exact .inl ⟨rfl, rfl⟩ | apply And.intro) | refine tl_int ?_ | refine tl_bool ?_ | refine tl_str ?_ | refine tl_row rfl ?_ | exact cl_ints _ | exact cl_txts _ | exact cl_nds _ | exact cl_tms _ | exact cl_rus _ | exact cl_mp _ | exact Nat.succ_pos _ | exact pl_ints _ | exact pl_txts _ | exact pl_nds _ | exact pl_tms _ | exact pl_rus _ | with_reducible refine tl_f ?_)); all_goals (try first | rfl | assumption | exact q.symm | omega | (rw [IntKind.wrap_i64]; omega) | (simp; done) | (simp; omega))
end Go.Proofs.YtchfpgpboifbeaaGreat.Ac
