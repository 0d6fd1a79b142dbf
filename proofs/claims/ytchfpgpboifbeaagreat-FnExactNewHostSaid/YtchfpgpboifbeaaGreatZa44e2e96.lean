/- Several of our texts, one behind the other, without what this claim does not need: Se, Sf, Sg. -/
import Derived.Test.YtchfpgpboifbeaaGreatZ8efb388e
import Derived.Test.YtchfpgpboifbeaaGreatZf8fe5bbc
set_option linter.unusedVariables false
set_option linter.unusedSimpArgs false
set_option maxRecDepth 20000
set_option maxHeartbeats 20000000
namespace Go.Proofs.YtchfpgpboifbeaaGreat.Ac
open Go.RowKit
def leF (many : Int) : Nat := if many = 0 ∨ many = 3 then 1 else 0
def moF (many : Int) (n : Nat) : Nat := if many < 2 then min n 1 else n
def matchP : List Tm → List Int → Prop
  | [], kids => kids = []
  | t :: ts, kids => ∃ n, n ≤ moF t.many kids.length ∧ leF t.many ≤ n ∧ (∀ j (h : j < kids.length), j < n → kids[j] ∈ t.kinds) ∧ matchP ts (kids.drop n)
def ManyP (t : Tm) : Prop := 0 ≤ t.many ∧ t.many ≤ 3
theorem moF_le (many : Int) (n : Nat) : moF many n ≤ n := by unfold moF; split <;> omega
theorem drop_map {α : Type} {f : α → List L} (l : List α) (i : Nat) : (((l.map f).take l.length).drop i) = (l.drop i).map f := by rw [List.take_of_length_le (by simp), List.map_drop]
theorem ext_all {f : Int → List L} {l : List Int} {i : Nat} (hi : i ≤ l.length) : bndP (some (.val false [.f (iL i)])) 0 i ∧ bndP none (l.map f).length l.length ∧ i ≤ l.length ∧ l.length ≤ (l.map f).length ∧ (((l.map f).take l.length).drop i) = (l.drop i).map f :=
  ⟨rfl, by simp [bndP], hi, by simp, drop_map l i⟩
theorem matches_ok : ∀ (ts : List Tm) (kids : List Int), kids.length < 2 ^ 61 → ts.length < 2 ^ 61 → (∀ t ∈ ts, TmB t ∧ ManyP t) → FC Tryz.prog 233 [(false, [tms ts]), (false, [ints kids])] [] [(false, [.f (bL (dB (matchP ts kids)))])]
  | [], kids, hk, hl, hb => by
    refine gcalls_run tbl_ok mixed Tryz.func233 rfl Tryz.ntmps233 (by kernel_rfl) (Nat.le_of_ble_eq_true rfl) rfl rfl trivial ?_; (conv => whnf); (repeat (refine ⟨by kernel_rfl, ?_⟩; (conv => whnf)))
    (refine ⟨fun h => ?_, fun h => absurd h (fun n => n rfl)⟩; (conv => whnf); (repeat (refine ⟨by kernel_rfl, ?_⟩; (conv => whnf))))
    (refine ⟨fun h => ?_, fun h => ?_⟩ <;> ((conv => whnf); (repeat (refine ⟨by kernel_rfl, ?_⟩; (conv => whnf)))))
    have q : dB (matchP [] kids) = true := dB_yes (by rw [List.length_map] at h; exact List.eq_nil_of_length_eq_zero (by omega))
    (refine ⟨[], [], ?_⟩; rotate_left)
    have q : dB (matchP [] kids) = false := dB_no fun w => h (by rw [List.length_map, show kids = [] from w]; rfl)
    (refine ⟨[], [], ?_⟩; rotate_left)
    all_goals (try (repeat' first | exact trivial | exact rfl | exact tl_pv rfl rfl rfl (List.cons_ne_nil _ _) | exact ⟨_, rfl, frzC_map _⟩ | exact tl_ints rfl rfl rfl (by simp) | exact tl_txts rfl rfl rfl (by simp) | exact tl_nds rfl rfl rfl (by simp) | exact tl_tms rfl rfl rfl (by simp) | exact tl_rus rfl rfl rfl (by simp) | ((conv => whnf); first | exact trivial | exact rfl | exact .inr rfl | exact .inl ⟨rfl, rfl⟩ | apply And.intro) | refine tl_int ?_ | refine tl_bool ?_ | refine tl_str ?_ | refine tl_row rfl ?_ | exact cl_ints _ | exact cl_txts _ | exact cl_nds _ | exact cl_tms _ | exact cl_rus _ | exact cl_mp _ | exact Nat.succ_pos _ | exact pl_ints _ | exact pl_txts _ | exact pl_nds _ | exact pl_tms _ | exact pl_rus _ | with_reducible refine tl_f ?_)); all_goals (try first | rfl | assumption | exact q.symm | omega | (rw [IntKind.wrap_i64]; omega) | (simp; done) | (simp; omega))
  | ⟨kinds, many⟩ :: ts, kids, hk, hl, hb => by
    obtain ⟨hb1, hb2⟩ := hb _ List.mem_cons_self
    have hkd : kinds.length < 2 ^ 62 := hb1
    have ih : ∀ n, FC Tryz.prog 233 [(false, [tms ts]), (false, [ints (kids.drop n)])] [] [(false, [.f (bL (dB (matchP ts (kids.drop n))))])] := fun n => matches_ok ts (kids.drop n) (by simp; omega) (by simp at hl; omega) fun t ht => hb t (List.mem_cons_of_mem _ ht)
    obtain ⟨G, hG⟩ : ∃ G : Nat → Prop, G = fun n => n ≤ moF many kids.length ∧ leF many ≤ n ∧ (∀ j (h : j < kids.length), j < n → kids[j] ∈ kinds) ∧ matchP ts (kids.drop n) := ⟨_, rfl⟩
    have hM : matchP (⟨kinds, many⟩ :: ts) kids = ∃ n, G n := by rw [hG]; rfl
    obtain ⟨le, hle⟩ : ∃ le : Nat, le = leF many := ⟨_, rfl⟩
    obtain ⟨mo, hmo⟩ : ∃ mo : Nat, mo = moF many kids.length := ⟨_, rfl⟩
    have hmle : mo ≤ kids.length := hmo ▸ moF_le _ _
    have hG2 : ∀ n, G n ↔ (n ≤ mo ∧ le ≤ n ∧ (∀ j (h : j < kids.length), j < n → kids[j] ∈ kinds) ∧ matchP ts (kids.drop n)) := fun n => by rw [hG, hle, hmo]
    clear hG
    have h4 : many = 0 ∨ many = 1 ∨ many = 2 ∨ many = 3 := by have := hb2.1; have := hb2.2; dsimp only at *; omega
    have hlen : ((kids.map intE).length : Int) = kids.length := by rw [List.length_map]
    refine gcalls_run tbl_ok mixed Tryz.func233 rfl Tryz.ntmps233 (by kernel_rfl) (Nat.le_of_ble_eq_true rfl) rfl rfl trivial ?_; (conv => whnf); (repeat (refine ⟨by kernel_rfl, ?_⟩; (conv => whnf)))
    (refine ⟨fun h => absurd h (by rw [List.length_map, List.length_cons]; omega), fun h => ?_⟩; (conv => whnf); (repeat (refine ⟨by kernel_rfl, ?_⟩; (conv => whnf))))
    (refine ⟨(0, tmL ⟨kinds, many⟩), ⟨rfl, rfl⟩, ?_⟩; (conv => whnf); (repeat (refine ⟨by kernel_rfl, ?_⟩; (conv => whnf))))
    rcases h4 with h4 | h4 | h4 | h4
    all_goals
      simp [leF, h4] at hle
      simp [moF, h4] at hmo
      (first | (refine ⟨fun h => ?_, fun h => absurd (by dsimp only; omega) h⟩; (conv => whnf); (repeat (refine ⟨by kernel_rfl, ?_⟩; (conv => whnf)))) | (refine ⟨fun h => absurd h (by dsimp only; omega), fun h => ?_⟩; (conv => whnf); (repeat (refine ⟨by kernel_rfl, ?_⟩; (conv => whnf)))))
      try ((first | (refine ⟨fun h => ?_, fun h => absurd (by dsimp only; omega) h⟩; (conv => whnf); (repeat (refine ⟨by kernel_rfl, ?_⟩; (conv => whnf)))) | (refine ⟨fun h => absurd h (by dsimp only; omega), fun h => ?_⟩; (conv => whnf); (repeat (refine ⟨by kernel_rfl, ?_⟩; (conv => whnf))))))
      try ((first | (refine ⟨fun h => ?_, fun h => absurd (by dsimp only; omega) h⟩; (conv => whnf); (repeat (refine ⟨by kernel_rfl, ?_⟩; (conv => whnf)))) | (refine ⟨fun h => absurd h (by dsimp only; omega), fun h => ?_⟩; (conv => whnf); (repeat (refine ⟨by kernel_rfl, ?_⟩; (conv => whnf))))))
      try ((first | (refine ⟨fun h => ?_, fun h => absurd (by dsimp only; omega) h⟩; (conv => whnf); (repeat (refine ⟨by kernel_rfl, ?_⟩; (conv => whnf)))) | (refine ⟨fun h => absurd h (by dsimp only; omega), fun h => ?_⟩; (conv => whnf); (repeat (refine ⟨by kernel_rfl, ?_⟩; (conv => whnf))))))
      (refine ⟨fun (m : Nat) (es : Es) (hs : Hs) => ∃ (i : Nat), (m + i = mo + 1) ∧ (∀ j, j < i - 1 → ∀ h : j < kids.length, kids[j] ∈ kinds) ∧ (∀ n, n < i → ¬ G n) ∧ es = [(8, .val false [.f (iL i)]), (7, .val false [.f (iL mo)]), (6, .val false [.f (iL le)]), (5, .val false [.pt 96 0 0]), (1, .val false [.f (ints kids)]), (0, .val false [.f (tms (⟨kinds, many⟩ :: ts))])] ∧ hs = [(96, some ⟨3, 2, [[.f (ints kinds), .f (iL many)]]⟩)], ⟨mo + 1, [], [], _, _, ⟨rfl, ?_, ?_⟩, 0, ?_, ?_, ?_, rfl, rfl⟩, ?_⟩; rotate_left 5; rintro m es hs ⟨i, hMA0, hMA1, hMA2, rfl, rfl⟩; (conv => whnf); (repeat (refine ⟨by kernel_rfl, ?_⟩; (conv => whnf))))
      (refine ⟨fun h => ?_, fun h => ?_⟩ <;> ((conv => whnf); (repeat (refine ⟨by kernel_rfl, ?_⟩; (conv => whnf)))))
      have hik : i ≤ kids.length := by omega
      (refine ⟨fun h => ?_, fun h => ?_⟩ <;> ((conv => whnf); (repeat (refine ⟨by kernel_rfl, ?_⟩; (conv => whnf)))))
      have hp : i - 1 < kids.length := by omega
      (refine ⟨(i - 1, intE kids[i - 1]), ge_idx hp (wrap_pre (by omega) (by omega)), ?_⟩; (conv => whnf); (repeat (refine ⟨by kernel_rfl, ?_⟩; (conv => whnf))))
      by_cases k : kids[i - 1] ∈ kinds
      (refine ⟨([], _), (contains_ok kinds kids[i - 1] hkd).t k, ?_⟩; (conv => whnf); (repeat (refine ⟨by kernel_rfl, ?_⟩; (conv => whnf))))
      have all0 : ∀ j, j < i → ∀ h : j < kids.length, kids[j] ∈ kinds := fun j hj hl => by
        by_cases e : j = i - 1
        · subst e; exact k
        · exact hMA1 j (by omega) hl
      (refine ⟨fun h => ?_, fun h => ?_⟩ <;> ((conv => whnf); (repeat (refine ⟨by kernel_rfl, ?_⟩; (conv => whnf)))))
      (refine ⟨(1, ts.length + 1, ts.map tmL), ⟨rfl, by simp [bndP], by simp, by simp, by rw [List.take_of_length_le (by simp)]; rfl⟩, ?_⟩; (conv => whnf); (repeat (refine ⟨by kernel_rfl, ?_⟩; (conv => whnf))))
      (refine ⟨(i, kids.length, (kids.drop i).map intE), ext_all (by omega), ?_⟩; (conv => whnf); (repeat (refine ⟨by kernel_rfl, ?_⟩; (conv => whnf))))
      by_cases g : matchP ts (kids.drop i)
      (refine ⟨([], _), (ih i).y g, ?_⟩; (conv => whnf); (repeat (refine ⟨by kernel_rfl, ?_⟩; (conv => whnf))))
      have q : dB (matchP (⟨kinds, many⟩ :: ts) kids) = true := dB_yes (hM ▸ ⟨i, (hG2 i).2 ⟨by omega, by omega, fun j hj hji => all0 j hji hj, g⟩⟩)
      (refine ⟨[], [], ?_⟩; rotate_left)
      (refine ⟨([], _), (ih i).x g, ?_⟩; (conv => whnf); (repeat (refine ⟨by kernel_rfl, ?_⟩; (conv => whnf))))
      have q := lt_suc (n := 0) hMA2 fun w => g ((hG2 i).1 w).2.2.2
      (refine ⟨m - 1, [], [], [(8, .val false [.f (iL (i + 1))]), (7, .val false [.f (iL mo)]), (6, .val false [.f (iL le)]), (5, .val false [.pt 96 0 0]), (1, .val false [.f (ints kids)]), (0, .val false [.f (tms (⟨kinds, many⟩ :: ts))])], [(96, some ⟨3, 2, [[.f (ints kinds), .f (iL many)]]⟩)], by omega, ⟨rfl, ?_, ?_⟩, (i + 1), ?_, ?_, ?_, rfl, rfl⟩; rotate_left 5)
      have q := lt_suc (n := 0) hMA2 fun w => absurd ((hG2 i).1 w).2.1 (by omega)
      (refine ⟨m - 1, [], [], [(8, .val false [.f (iL (i + 1))]), (7, .val false [.f (iL mo)]), (6, .val false [.f (iL le)]), (5, .val false [.pt 96 0 0]), (1, .val false [.f (ints kids)]), (0, .val false [.f (tms (⟨kinds, many⟩ :: ts))])], [(96, some ⟨3, 2, [[.f (ints kinds), .f (iL many)]]⟩)], by omega, ⟨rfl, ?_, ?_⟩, (i + 1), ?_, ?_, ?_, rfl, rfl⟩; rotate_left 5)
      (refine ⟨([], _), (contains_ok kinds kids[i - 1] hkd).n k, ?_⟩; (conv => whnf); (repeat (refine ⟨by kernel_rfl, ?_⟩; (conv => whnf))))
      have q : dB (matchP (⟨kinds, many⟩ :: ts) kids) = false := dB_no (hM ▸ fun ⟨n, hn⟩ => by
        by_cases e : n < i
        · exact hMA2 n e hn
        · exact k (((hG2 n).1 hn).2.2.1 (i - 1) hp (by omega)))
      (refine ⟨[], [], ?_⟩; rotate_left)
      have all0 : ∀ j, j < i → ∀ h : j < kids.length, kids[j] ∈ kinds := fun j hj hl => by omega
      (refine ⟨fun h => ?_, fun h => ?_⟩ <;> ((conv => whnf); (repeat (refine ⟨by kernel_rfl, ?_⟩; (conv => whnf)))))
      (refine ⟨(1, ts.length + 1, ts.map tmL), ⟨rfl, by simp [bndP], by simp, by simp, by rw [List.take_of_length_le (by simp)]; rfl⟩, ?_⟩; (conv => whnf); (repeat (refine ⟨by kernel_rfl, ?_⟩; (conv => whnf))))
      (refine ⟨(i, kids.length, (kids.drop i).map intE), ext_all (by omega), ?_⟩; (conv => whnf); (repeat (refine ⟨by kernel_rfl, ?_⟩; (conv => whnf))))
      by_cases g : matchP ts (kids.drop i)
      (refine ⟨([], _), (ih i).y g, ?_⟩; (conv => whnf); (repeat (refine ⟨by kernel_rfl, ?_⟩; (conv => whnf))))
      have q : dB (matchP (⟨kinds, many⟩ :: ts) kids) = true := dB_yes (hM ▸ ⟨i, (hG2 i).2 ⟨by omega, by omega, fun j hj hji => all0 j hji hj, g⟩⟩)
      (refine ⟨[], [], ?_⟩; rotate_left)
      (refine ⟨([], _), (ih i).x g, ?_⟩; (conv => whnf); (repeat (refine ⟨by kernel_rfl, ?_⟩; (conv => whnf))))
      have q := lt_suc (n := 0) hMA2 fun w => g ((hG2 i).1 w).2.2.2
      (refine ⟨m - 1, [], [], [(8, .val false [.f (iL (i + 1))]), (7, .val false [.f (iL mo)]), (6, .val false [.f (iL le)]), (5, .val false [.pt 96 0 0]), (1, .val false [.f (ints kids)]), (0, .val false [.f (tms (⟨kinds, many⟩ :: ts))])], [(96, some ⟨3, 2, [[.f (ints kinds), .f (iL many)]]⟩)], by omega, ⟨rfl, ?_, ?_⟩, (i + 1), ?_, ?_, ?_, rfl, rfl⟩; rotate_left 5)
      have q := lt_suc (n := 0) hMA2 fun w => absurd ((hG2 i).1 w).2.1 (by omega)
      (refine ⟨m - 1, [], [], [(8, .val false [.f (iL (i + 1))]), (7, .val false [.f (iL mo)]), (6, .val false [.f (iL le)]), (5, .val false [.pt 96 0 0]), (1, .val false [.f (ints kids)]), (0, .val false [.f (tms (⟨kinds, many⟩ :: ts))])], [(96, some ⟨3, 2, [[.f (ints kinds), .f (iL many)]]⟩)], by omega, ⟨rfl, ?_, ?_⟩, (i + 1), ?_, ?_, ?_, rfl, rfl⟩; rotate_left 5)
      have q : dB (matchP (⟨kinds, many⟩ :: ts) kids) = false := dB_no (hM ▸ fun ⟨n, hn⟩ => hMA2 n (by have := ((hG2 n).1 hn).1; omega) hn)
      (refine ⟨[], [], ?_⟩; rotate_left)
      all_goals (try (repeat' first | exact trivial | exact rfl | exact tl_pv rfl rfl rfl (List.cons_ne_nil _ _) | exact ⟨_, rfl, frzC_map _⟩ | exact tl_ints rfl rfl rfl (by simp) | exact tl_txts rfl rfl rfl (by simp) | exact tl_nds rfl rfl rfl (by simp) | exact tl_tms rfl rfl rfl (by simp) | exact tl_rus rfl rfl rfl (by simp) | ((conv => whnf); first | exact trivial | exact rfl | exact .inr rfl | exact .inl ⟨rfl, rfl⟩ | apply And.intro) | refine tl_int ?_ | refine tl_bool ?_ | refine tl_str ?_ | refine tl_row rfl ?_ | exact cl_ints _ | exact cl_txts _ | exact cl_nds _ | exact cl_tms _ | exact cl_rus _ | exact cl_mp _ | exact Nat.succ_pos _ | exact pl_ints _ | exact pl_txts _ | exact pl_nds _ | exact pl_tms _ | exact pl_rus _ | with_reducible refine tl_f ?_)); all_goals (try first | rfl | assumption | exact q.symm | omega | (rw [IntKind.wrap_i64]; omega) | (simp; done) | (simp; omega))
      all_goals (try (split <;> omega))
end Go.Proofs.YtchfpgpboifbeaaGreat.Ac
set_option linter.unusedVariables false
set_option linter.unusedSimpArgs false
set_option maxRecDepth 20000
set_option maxHeartbeats 20000000
namespace Go.Proofs.YtchfpgpboifbeaaGreat.Ac
open Go.RowKit
theorem l03Least_ok (many : Int) : FC Tryz.prog 275 [(false, [iL many])] [] [(false, [.f (iL (leF many))])] := by
  refine gcalls_run tbl_ok mixed Tryz.func275 rfl Tryz.ntmps275 (by kernel_rfl) (Nat.le_of_ble_eq_true rfl) rfl rfl trivial ?_; (conv => whnf); (repeat (refine ⟨by kernel_rfl, ?_⟩; (conv => whnf)))
  (repeat' (apply And.intro <;> intro h <;> ((conv => whnf); (repeat (refine ⟨by kernel_rfl, ?_⟩; (conv => whnf)))))); (all_goals refine ⟨[], [], ?_⟩)
  all_goals (try (repeat' first | exact trivial | exact rfl | exact tl_pv rfl rfl rfl (List.cons_ne_nil _ _) | exact ⟨_, rfl, frzC_map _⟩ | exact tl_ints rfl rfl rfl (by simp) | exact tl_txts rfl rfl rfl (by simp) | exact tl_nds rfl rfl rfl (by simp) | exact tl_tms rfl rfl rfl (by simp) | exact tl_rus rfl rfl rfl (by simp) | ((conv => whnf); first | exact trivial | exact rfl | exact .inr rfl | exact .inl ⟨rfl, rfl⟩ | apply And.intro) | refine tl_int ?_ | refine tl_bool ?_ | refine tl_str ?_ | refine tl_row rfl ?_ | exact cl_ints _ | exact cl_txts _ | exact cl_nds _ | exact cl_tms _ | exact cl_rus _ | exact cl_mp _ | exact Nat.succ_pos _ | exact pl_ints _ | exact pl_txts _ | exact pl_nds _ | exact pl_tms _ | exact pl_rus _ | with_reducible refine tl_f ?_)); all_goals (try first | rfl | assumption | exact q.symm | omega | (rw [IntKind.wrap_i64]; omega) | (simp; done) | (simp; omega))
  all_goals (unfold leF; split <;> omega)
theorem l03Match_ok : ∀ (ts : List Tm) (kids : List Int), kids.length < 2 ^ 61 → ts.length < 2 ^ 61 → (∀ t ∈ ts, TmB t ∧ ManyP t) → FC Tryz.prog 224 [(false, [tms ts]), (false, [ints kids])] [] [(false, [.f (bL (dB (matchP ts kids)))])]
  | [], kids, hk, hl, hb => by
    refine gcalls_run tbl_ok mixed Tryz.func224 rfl Tryz.ntmps224 (by kernel_rfl) (Nat.le_of_ble_eq_true rfl) rfl rfl trivial ?_; (conv => whnf); (repeat (refine ⟨by kernel_rfl, ?_⟩; (conv => whnf)))
    (refine ⟨fun h => ?_, fun h => absurd h (fun n => n rfl)⟩; (conv => whnf); (repeat (refine ⟨by kernel_rfl, ?_⟩; (conv => whnf))))
    (refine ⟨fun h => ?_, fun h => ?_⟩ <;> ((conv => whnf); (repeat (refine ⟨by kernel_rfl, ?_⟩; (conv => whnf)))))
    have q : dB (matchP [] kids) = true := dB_yes (by rw [List.length_map] at h; exact List.eq_nil_of_length_eq_zero (by omega))
    (refine ⟨[], [], ?_⟩; rotate_left)
    have q : dB (matchP [] kids) = false := dB_no fun w => h (by rw [List.length_map, show kids = [] from w]; rfl)
    (refine ⟨[], [], ?_⟩; rotate_left)
    all_goals (try (repeat' first | exact trivial | exact rfl | exact tl_pv rfl rfl rfl (List.cons_ne_nil _ _) | exact ⟨_, rfl, frzC_map _⟩ | exact tl_ints rfl rfl rfl (by simp) | exact tl_txts rfl rfl rfl (by simp) | exact tl_nds rfl rfl rfl (by simp) | exact tl_tms rfl rfl rfl (by simp) | exact tl_rus rfl rfl rfl (by simp) | ((conv => whnf); first | exact trivial | exact rfl | exact .inr rfl | exact .inl ⟨rfl, rfl⟩ | apply And.intro) | refine tl_int ?_ | refine tl_bool ?_ | refine tl_str ?_ | refine tl_row rfl ?_ | exact cl_ints _ | exact cl_txts _ | exact cl_nds _ | exact cl_tms _ | exact cl_rus _ | exact cl_mp _ | exact Nat.succ_pos _ | exact pl_ints _ | exact pl_txts _ | exact pl_nds _ | exact pl_tms _ | exact pl_rus _ | with_reducible refine tl_f ?_)); all_goals (try first | rfl | assumption | exact q.symm | omega | (rw [IntKind.wrap_i64]; omega) | (simp; done) | (simp; omega))
  | ⟨kinds, many⟩ :: ts, kids, hk, hl, hb => by
    obtain ⟨hb1, hb2⟩ := hb _ List.mem_cons_self
    have hkd : kinds.length < 2 ^ 62 := hb1
    have ih : ∀ n, FC Tryz.prog 224 [(false, [tms ts]), (false, [ints (kids.drop n)])] [] [(false, [.f (bL (dB (matchP ts (kids.drop n))))])] := fun n => l03Match_ok ts (kids.drop n) (by simp; omega) (by simp at hl; omega) fun t ht => hb t (List.mem_cons_of_mem _ ht)
    obtain ⟨G, hG⟩ : ∃ G : Nat → Prop, G = fun n => n ≤ moF many kids.length ∧ leF many ≤ n ∧ (∀ j (h : j < kids.length), j < n → kids[j] ∈ kinds) ∧ matchP ts (kids.drop n) := ⟨_, rfl⟩
    have hM : matchP (⟨kinds, many⟩ :: ts) kids = ∃ n, G n := by rw [hG]; rfl
    have hle0 := l03Least_ok many
    obtain ⟨le, hle⟩ : ∃ le : Nat, le = leF many := ⟨_, rfl⟩
    obtain ⟨mo, hmo⟩ : ∃ mo : Nat, mo = moF many kids.length := ⟨_, rfl⟩
    have hmle : mo ≤ kids.length := hmo ▸ moF_le _ _
    have hG2 : ∀ n, G n ↔ (n ≤ mo ∧ le ≤ n ∧ (∀ j (h : j < kids.length), j < n → kids[j] ∈ kinds) ∧ matchP ts (kids.drop n)) := fun n => by rw [hG, hle, hmo]
    rw [← hle] at hle0
    clear hG hle
    have hlen : ((kids.map intE).length : Int) = kids.length := by rw [List.length_map]
    refine gcalls_run tbl_ok mixed Tryz.func224 rfl Tryz.ntmps224 (by kernel_rfl) (Nat.le_of_ble_eq_true rfl) rfl rfl trivial ?_; (conv => whnf); (repeat (refine ⟨by kernel_rfl, ?_⟩; (conv => whnf)))
    (refine ⟨fun h => absurd h (by rw [List.length_map, List.length_cons]; omega), fun h => ?_⟩; (conv => whnf); (repeat (refine ⟨by kernel_rfl, ?_⟩; (conv => whnf))))
    (refine ⟨(0, tmL ⟨kinds, many⟩), ⟨rfl, rfl⟩, ?_⟩; (conv => whnf); (repeat (refine ⟨by kernel_rfl, ?_⟩; (conv => whnf))))
    (refine ⟨([], _), hle0, ?_⟩; (conv => whnf); (repeat (refine ⟨by kernel_rfl, ?_⟩; (conv => whnf))))
    by_cases h4 : many < 2
    all_goals
      simp [moF, h4] at hmo
      (first | (refine ⟨fun h => ?_, fun h => absurd (h4) h⟩; (conv => whnf); (repeat (refine ⟨by kernel_rfl, ?_⟩; (conv => whnf)))) | (refine ⟨fun h => absurd h (h4), fun h => ?_⟩; (conv => whnf); (repeat (refine ⟨by kernel_rfl, ?_⟩; (conv => whnf)))))
      (refine ⟨fun (m : Nat) (es : Es) (hs : Hs) => ∃ (i : Nat), (m + i = mo + 1) ∧ (∀ j, j < i → j < mo → ∀ h : j < kids.length, kids[j] ∈ kinds) ∧ (∀ n, n < i → ¬ G n) ∧ es = [(8, .val false [.f (iL i)]), (7, .val false [.f (iL mo)]), (6, .val false [.f (iL le)]), (5, .val false [.pt 96 0 0]), (1, .val false [.f (ints kids)]), (0, .val false [.f (tms (⟨kinds, many⟩ :: ts))])] ∧ hs = [(96, some ⟨3, 2, [[.f (ints kinds), .f (iL many)]]⟩)], ⟨mo + 1, [], [], _, _, ⟨rfl, ?_, ?_⟩, 0, ?_, ?_, ?_, rfl, rfl⟩, ?_⟩; rotate_left 5; rintro m es hs ⟨i, hMB0, hMB1, hMB2, rfl, rfl⟩; (conv => whnf); (repeat (refine ⟨by kernel_rfl, ?_⟩; (conv => whnf))))
      (refine ⟨fun h => ?_, fun h => ?_⟩ <;> ((conv => whnf); (repeat (refine ⟨by kernel_rfl, ?_⟩; (conv => whnf)))))
      (refine ⟨fun h => ?_, fun h => ?_⟩ <;> ((conv => whnf); (repeat (refine ⟨by kernel_rfl, ?_⟩; (conv => whnf)))))
      (refine ⟨(1, ts.length + 1, ts.map tmL), ⟨rfl, by simp [bndP], by simp, by simp, by rw [List.take_of_length_le (by simp)]; rfl⟩, ?_⟩; (conv => whnf); (repeat (refine ⟨by kernel_rfl, ?_⟩; (conv => whnf))))
      (refine ⟨(i, kids.length, (kids.drop i).map intE), ext_all (by omega), ?_⟩; (conv => whnf); (repeat (refine ⟨by kernel_rfl, ?_⟩; (conv => whnf))))
      by_cases g : matchP ts (kids.drop i)
      (refine ⟨([], _), (ih i).y g, ?_⟩; (conv => whnf); (repeat (refine ⟨by kernel_rfl, ?_⟩; (conv => whnf))))
      have q : dB (matchP (⟨kinds, many⟩ :: ts) kids) = true := dB_yes (hM ▸ ⟨i, (hG2 i).2 ⟨by omega, by omega, fun j hj hji => hMB1 j hji (by omega) hj, g⟩⟩)
      (refine ⟨[], [], ?_⟩; rotate_left)
      (refine ⟨([], _), (ih i).x g, ?_⟩; (conv => whnf); (repeat (refine ⟨by kernel_rfl, ?_⟩; (conv => whnf))))
      have gn := lt_suc (n := 0) hMB2 fun w => g ((hG2 i).1 w).2.2.2
      (refine ⟨fun h => ?_, fun h => ?_⟩ <;> ((conv => whnf); (repeat (refine ⟨by kernel_rfl, ?_⟩; (conv => whnf)))))
      have hil : i < kids.length := by omega
      (refine ⟨(i, intE kids[i]), ge_idx hil rfl, ?_⟩; (conv => whnf); (repeat (refine ⟨by kernel_rfl, ?_⟩; (conv => whnf))))
      by_cases k : kids[i] ∈ kinds
      (refine ⟨([], _), (l02Has_ok kinds kids[i] hkd).t k, ?_⟩; (conv => whnf); (repeat (refine ⟨by kernel_rfl, ?_⟩; (conv => whnf))))
      have q := lt_suc (n := 0) hMB1 fun _ _ => k
      (refine ⟨m - 1, [], [], [(8, .val false [.f (iL (i + 1))]), (7, .val false [.f (iL mo)]), (6, .val false [.f (iL le)]), (5, .val false [.pt 96 0 0]), (1, .val false [.f (ints kids)]), (0, .val false [.f (tms (⟨kinds, many⟩ :: ts))])], [(96, some ⟨3, 2, [[.f (ints kinds), .f (iL many)]]⟩)], by omega, ⟨rfl, ?_, ?_⟩, (i + 1), ?_, ?_, ?_, rfl, rfl⟩; rotate_left 5)
      (refine ⟨([], _), (l02Has_ok kinds kids[i] hkd).n k, ?_⟩; (conv => whnf); (repeat (refine ⟨by kernel_rfl, ?_⟩; (conv => whnf))))
      have q : dB (matchP (⟨kinds, many⟩ :: ts) kids) = false := dB_no (hM ▸ fun ⟨n, hn⟩ => by
        by_cases e : n < i + 1
        · exact gn n e hn
        · exact k (((hG2 n).1 hn).2.2.1 i hil (by omega)))
      (refine ⟨[], [], ?_⟩; rotate_left)
      have q := lt_suc (n := 0) hMB1 fun g => absurd g (by omega)
      (refine ⟨m - 1, [], [], [(8, .val false [.f (iL (i + 1))]), (7, .val false [.f (iL mo)]), (6, .val false [.f (iL le)]), (5, .val false [.pt 96 0 0]), (1, .val false [.f (ints kids)]), (0, .val false [.f (tms (⟨kinds, many⟩ :: ts))])], [(96, some ⟨3, 2, [[.f (ints kinds), .f (iL many)]]⟩)], by omega, ⟨rfl, ?_, ?_⟩, (i + 1), ?_, ?_, ?_, rfl, rfl⟩; rotate_left 5)
      have gn := lt_suc (n := 0) hMB2 fun w => absurd ((hG2 i).1 w).2.1 (by omega)
      (refine ⟨fun h => ?_, fun h => ?_⟩ <;> ((conv => whnf); (repeat (refine ⟨by kernel_rfl, ?_⟩; (conv => whnf)))))
      have hil : i < kids.length := by omega
      (refine ⟨(i, intE kids[i]), ge_idx hil rfl, ?_⟩; (conv => whnf); (repeat (refine ⟨by kernel_rfl, ?_⟩; (conv => whnf))))
      by_cases k : kids[i] ∈ kinds
      (refine ⟨([], _), (l02Has_ok kinds kids[i] hkd).t k, ?_⟩; (conv => whnf); (repeat (refine ⟨by kernel_rfl, ?_⟩; (conv => whnf))))
      have q := lt_suc (n := 0) hMB1 fun _ _ => k
      (refine ⟨m - 1, [], [], [(8, .val false [.f (iL (i + 1))]), (7, .val false [.f (iL mo)]), (6, .val false [.f (iL le)]), (5, .val false [.pt 96 0 0]), (1, .val false [.f (ints kids)]), (0, .val false [.f (tms (⟨kinds, many⟩ :: ts))])], [(96, some ⟨3, 2, [[.f (ints kinds), .f (iL many)]]⟩)], by omega, ⟨rfl, ?_, ?_⟩, (i + 1), ?_, ?_, ?_, rfl, rfl⟩; rotate_left 5)
      (refine ⟨([], _), (l02Has_ok kinds kids[i] hkd).n k, ?_⟩; (conv => whnf); (repeat (refine ⟨by kernel_rfl, ?_⟩; (conv => whnf))))
      have q : dB (matchP (⟨kinds, many⟩ :: ts) kids) = false := dB_no (hM ▸ fun ⟨n, hn⟩ => by
        by_cases e : n < i + 1
        · exact gn n e hn
        · exact k (((hG2 n).1 hn).2.2.1 i hil (by omega)))
      (refine ⟨[], [], ?_⟩; rotate_left)
      have q := lt_suc (n := 0) hMB1 fun g => absurd g (by omega)
      (refine ⟨m - 1, [], [], [(8, .val false [.f (iL (i + 1))]), (7, .val false [.f (iL mo)]), (6, .val false [.f (iL le)]), (5, .val false [.pt 96 0 0]), (1, .val false [.f (ints kids)]), (0, .val false [.f (tms (⟨kinds, many⟩ :: ts))])], [(96, some ⟨3, 2, [[.f (ints kinds), .f (iL many)]]⟩)], by omega, ⟨rfl, ?_, ?_⟩, (i + 1), ?_, ?_, ?_, rfl, rfl⟩; rotate_left 5)
      have q : dB (matchP (⟨kinds, many⟩ :: ts) kids) = false := dB_no (hM ▸ fun ⟨n, hn⟩ => hMB2 n (by have := ((hG2 n).1 hn).1; omega) hn)
      (refine ⟨[], [], ?_⟩; rotate_left)
      all_goals (try (repeat' first | exact trivial | exact rfl | exact tl_pv rfl rfl rfl (List.cons_ne_nil _ _) | exact ⟨_, rfl, frzC_map _⟩ | exact tl_ints rfl rfl rfl (by simp) | exact tl_txts rfl rfl rfl (by simp) | exact tl_nds rfl rfl rfl (by simp) | exact tl_tms rfl rfl rfl (by simp) | exact tl_rus rfl rfl rfl (by simp) | ((conv => whnf); first | exact trivial | exact rfl | exact .inr rfl | exact .inl ⟨rfl, rfl⟩ | apply And.intro) | refine tl_int ?_ | refine tl_bool ?_ | refine tl_str ?_ | refine tl_row rfl ?_ | exact cl_ints _ | exact cl_txts _ | exact cl_nds _ | exact cl_tms _ | exact cl_rus _ | exact cl_mp _ | exact Nat.succ_pos _ | exact pl_ints _ | exact pl_txts _ | exact pl_nds _ | exact pl_tms _ | exact pl_rus _ | with_reducible refine tl_f ?_)); all_goals (try first | rfl | assumption | exact q.symm | omega | (rw [IntKind.wrap_i64]; omega) | (simp; done) | (simp; omega))
      all_goals (try (split <;> omega))
end Go.Proofs.YtchfpgpboifbeaaGreat.Ac
set_option linter.unusedVariables false
set_option linter.unusedSimpArgs false
set_option maxRecDepth 20000
set_option maxHeartbeats 20000000
namespace Go.Proofs.YtchfpgpboifbeaaGreat.Ac
open Go.RowKit
def kindAt (ns : List Nd) (k : Int) : Int := ((ndAt ns k).map (·.kind)).getD 0
def kindsF (ns : List Nd) (ks : List Int) : List Int := ks.map (kindAt ns)
theorem kindAt_some {ns : List Nd} {k : Int} {n : Nd} (h : ndAt ns k = some n) : kindAt ns k = n.kind := by simp [kindAt, h]
theorem kindsF_step {ns : List Nd} {ks : List Int} {i : Nat} (hi : i < ks.length) : kindsF ns (ks.take (i + 1)) = kindsF ns (ks.take i) ++ [kindAt ns ks[i]] := by
  unfold kindsF
  rw [List.take_succ_eq_append_getElem hi, List.map_append]; rfl
theorem kindsF_len (ns : List Nd) (ks : List Int) : (kindsF ns ks).length = ks.length := by simp [kindsF]
theorem kindsOf_ok (d : Dc) (hR : Rise d.nodes) (hlen : d.nodes.length < 2 ^ 62) (id : Int) (n : Nd) (hn : ndAt d.nodes id = some n) (hc : ∀ c ∈ n.kids, ∃ m, ndAt d.nodes c = some m) (hk : n.kids.length < 2 ^ 28) :
    FC Tryz.prog 234 [(false, [.pv (dcL d)]), (false, [iL id])] [(1000, some ⟨0, 1, (kindsF d.nodes n.kids).map intW⟩)] [(false, [.row 1000 0 (kindsF d.nodes n.kids).length])] := by
  have hf := find_ok d id hR (hR.i64 hn) hlen
  rw [findL_some hn] at hf
  refine gcalls_run tbl_ok mixed Tryz.func234 rfl Tryz.ntmps234 (by kernel_rfl) (Nat.le_of_ble_eq_true rfl) rfl rfl (⟨cl_ints _, trivial⟩) ?_; (conv => whnf); (repeat (refine ⟨by kernel_rfl, ?_⟩; (conv => whnf)))
  (refine ⟨([], _), hf, ?_⟩; (conv => whnf); (repeat (refine ⟨by kernel_rfl, ?_⟩; (conv => whnf))))
  (refine ⟨fun (m : Nat) (es : Es) (hs : Hs) => ∃ (i : Nat), (m + i = n.kids.length) ∧ es = [(15, .val false [.f (iL i)]), (14, .val false [.f (iL n.kids.length)]), (13, .val false [.f (ints n.kids)]), (5, .val false [.row 3 0 (kindsF d.nodes (n.kids.take i)).length]), (0, .val false [.f (.pv (dcL d))])] ∧ hs = [(3, some ⟨0, 1, (kindsF d.nodes (n.kids.take i)).map intW⟩)], ⟨n.kids.length, [], [], _, _, ⟨rfl, ?_, ?_⟩, 0, ?_, rfl, rfl⟩, ?_⟩; rotate_left 3; rintro m es hs ⟨i, hKA0, rfl, rfl⟩; (conv => whnf); (repeat (refine ⟨by kernel_rfl, ?_⟩; (conv => whnf))))
  (refine ⟨fun h => ?_, fun h => ?_⟩ <;> ((conv => whnf); (repeat (refine ⟨by kernel_rfl, ?_⟩; (conv => whnf)))))
  have hi : i < n.kids.length := by omega
  obtain ⟨c, hcn⟩ := hc n.kids[i] (List.getElem_mem _)
  have hfc := find_ok d n.kids[i] hR (hR.i64 hcn) hlen
  rw [findL_some hcn] at hfc
  have hst := kindsF_step (ns := d.nodes) hi
  rw [kindAt_some hcn] at hst
  have hl1 := kindsF_len d.nodes (n.kids.take i)
  rw [List.length_take] at hl1
  (refine ⟨(i, intE n.kids[i]), ge_idx hi rfl, ?_⟩; (conv => whnf); (repeat (refine ⟨by kernel_rfl, ?_⟩; (conv => whnf))))
  (refine ⟨([], _), hfc, ?_⟩; (conv => whnf); (repeat (refine ⟨by kernel_rfl, ?_⟩; (conv => whnf))))
  (refine ⟨(kindsF d.nodes (n.kids.take i) ++ [c.kind]).map intW, ⟨app_one intW _ _, by simp; omega⟩, ?_⟩; (conv => whnf); (repeat (refine ⟨by kernel_rfl, ?_⟩; (conv => whnf))))
  (refine ⟨m - 1, [], [(3, 448)], [(15, .val false [.f (iL (i + 1))]), (14, .val false [.f (iL n.kids.length)]), (13, .val false [.f (ints n.kids)]), (5, .val false [.row 3 0 (kindsF d.nodes (n.kids.take (i + 1))).length]), (0, .val false [.f (.pv (dcL d))])], [(3, some ⟨0, 1, (kindsF d.nodes (n.kids.take (i + 1))).map intW⟩)], by omega, ⟨rfl, ?_, ?_⟩, (i + 1), ?_, rfl, rfl⟩; rotate_left 3)
  have hi : n.kids.length ≤ i := by omega
  rw [List.take_of_length_le hi]
  (refine ⟨[], [(1000, 3)], ?_⟩; rotate_left)
  all_goals (try (repeat' first | exact trivial | exact rfl | exact tl_pv rfl rfl rfl (List.cons_ne_nil _ _) | exact ⟨_, rfl, frzC_map _⟩ | exact tl_ints rfl rfl rfl (by simp) | exact tl_txts rfl rfl rfl (by simp) | exact tl_nds rfl rfl rfl (by simp) | exact tl_tms rfl rfl rfl (by simp) | exact tl_rus rfl rfl rfl (by simp) | ((conv => whnf); first | exact trivial | exact rfl | exact .inr rfl | exact .inl ⟨rfl, rfl⟩ | apply And.intro) | refine tl_int ?_ | refine tl_bool ?_ | refine tl_str ?_ | refine tl_row rfl ?_ | exact cl_ints _ | exact cl_txts _ | exact cl_nds _ | exact cl_tms _ | exact cl_rus _ | exact cl_mp _ | exact Nat.succ_pos _ | exact pl_ints _ | exact pl_txts _ | exact pl_nds _ | exact pl_tms _ | exact pl_rus _ | with_reducible refine tl_f ?_)); all_goals (try first | rfl | assumption | exact q.symm | omega | (rw [IntKind.wrap_i64]; omega) | (simp; done) | (simp; omega))
  all_goals first | (rw [hst]; done) | (rw [hst]; simp; done) | (dsimp only; rw [hst]; simp; done) | (dsimp only; rw [hst])
theorem l05Kids_ok (d : Dc) (hlen : d.nodes.length < 2 ^ 62) (n : Nd) (hc : ∀ c ∈ n.kids, ∃ m, ndAt d.nodes c = some m) (hk : n.kids.length < 2 ^ 28) :
    FC Tryz.prog 225 [(true, dcL d), (true, ndL n)] [(1000, some ⟨0, 1, (kindsF d.nodes n.kids).map intW⟩)] [(false, [.row 1000 0 (kindsF d.nodes n.kids).length])] := by
  refine gcalls_run tbl_ok mixed Tryz.func225 rfl Tryz.ntmps225 (by kernel_rfl) (Nat.le_of_ble_eq_true rfl) rfl rfl (⟨cl_ints _, trivial⟩) ?_; (conv => whnf); (repeat (refine ⟨by kernel_rfl, ?_⟩; (conv => whnf)))
  (refine ⟨fun (m : Nat) (es : Es) (hs : Hs) => ∃ (i : Nat), (m + i = n.kids.length) ∧ es = [(6, .val false [.f (iL i)]), (5, .val false [.row 3 0 (kindsF d.nodes (n.kids.take i)).length]), (3, .val false [.pt 64 0 0]), (2, .val false [.pt 48 0 0])] ∧ hs = [(3, some ⟨0, 1, (kindsF d.nodes (n.kids.take i)).map intW⟩), (64, some ⟨3, 5, [(ndL n).map .f]⟩), (48, some ⟨3, 3, [(dcL d).map .f]⟩)], ⟨n.kids.length, [], [(3, 128)], _, _, ⟨rfl, ?_, ?_⟩, 0, ?_, rfl, rfl⟩, ?_⟩; rotate_left 3; rintro m es hs ⟨i, hKB0, rfl, rfl⟩; (conv => whnf); (repeat (refine ⟨by kernel_rfl, ?_⟩; (conv => whnf))))
  (refine ⟨fun h => ?_, fun h => ?_⟩ <;> ((conv => whnf); (repeat (refine ⟨by kernel_rfl, ?_⟩; (conv => whnf)))))
  have hi : i < n.kids.length := by rw [List.length_map] at h; omega
  obtain ⟨c, hcn⟩ := hc n.kids[i] (List.getElem_mem _)
  have hat := l02At_ok d n.kids[i] hlen
  obtain ⟨j, hj, ha, hg⟩ := at_some hcn
  rw [ha] at hat
  have hst := kindsF_step (ns := d.nodes) hi
  rw [kindAt_some hcn] at hst
  have hl1 := kindsF_len d.nodes (n.kids.take i)
  rw [List.length_take] at hl1
  (refine ⟨(i, intE n.kids[i]), ge_idx hi rfl, ?_⟩; (conv => whnf); (repeat (refine ⟨by kernel_rfl, ?_⟩; (conv => whnf))))
  (refine ⟨([], _), hat, ?_⟩; (conv => whnf); (repeat (refine ⟨by kernel_rfl, ?_⟩; (conv => whnf))))
  (refine ⟨(j, ndL d.nodes[j]), ⟨rfl, by simp [hj]⟩, ?_⟩; (conv => whnf); (repeat (refine ⟨by kernel_rfl, ?_⟩; (conv => whnf))))
  rw [hg]
  (refine ⟨(kindsF d.nodes (n.kids.take i) ++ [c.kind]).map intW, ⟨app_one intW _ _, by simp; omega⟩, ?_⟩; (conv => whnf); (repeat (refine ⟨by kernel_rfl, ?_⟩; (conv => whnf))))
  (refine ⟨m - 1, [], [(3, 480)], [(6, .val false [.f (iL (i + 1))]), (5, .val false [.row 3 0 (kindsF d.nodes (n.kids.take (i + 1))).length]), (3, .val false [.pt 64 0 0]), (2, .val false [.pt 48 0 0])], [(3, some ⟨0, 1, (kindsF d.nodes (n.kids.take (i + 1))).map intW⟩), (64, some ⟨3, 5, [(ndL n).map .f]⟩), (48, some ⟨3, 3, [(dcL d).map .f]⟩)], by omega, ⟨rfl, ?_, ?_⟩, (i + 1), ?_, rfl, rfl⟩; rotate_left 3)
  have hi : n.kids.length ≤ i := by rw [List.length_map] at h; omega
  rw [List.take_of_length_le hi]
  (refine ⟨[], [(1000, 3)], ?_⟩; rotate_left)
  all_goals (try (repeat' first | exact trivial | exact rfl | exact tl_pv rfl rfl rfl (List.cons_ne_nil _ _) | exact ⟨_, rfl, frzC_map _⟩ | exact tl_ints rfl rfl rfl (by simp) | exact tl_txts rfl rfl rfl (by simp) | exact tl_nds rfl rfl rfl (by simp) | exact tl_tms rfl rfl rfl (by simp) | exact tl_rus rfl rfl rfl (by simp) | ((conv => whnf); first | exact trivial | exact rfl | exact .inr rfl | exact .inl ⟨rfl, rfl⟩ | apply And.intro) | refine tl_int ?_ | refine tl_bool ?_ | refine tl_str ?_ | refine tl_row rfl ?_ | exact cl_ints _ | exact cl_txts _ | exact cl_nds _ | exact cl_tms _ | exact cl_rus _ | exact cl_mp _ | exact Nat.succ_pos _ | exact pl_ints _ | exact pl_txts _ | exact pl_nds _ | exact pl_tms _ | exact pl_rus _ | with_reducible refine tl_f ?_)); all_goals (try first | rfl | assumption | exact q.symm | omega | (rw [IntKind.wrap_i64]; omega) | (simp; done) | (simp; omega))
  all_goals first | (rw [hst]; done) | (rw [hst]; simp; done) | (dsimp only; rw [hst]; simp; done) | (dsimp only; rw [hst]) | (simp [kindsF]; done)
end Go.Proofs.YtchfpgpboifbeaaGreat.Ac
