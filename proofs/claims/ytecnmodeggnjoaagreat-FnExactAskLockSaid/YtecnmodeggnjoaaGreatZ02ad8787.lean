/- Several of our texts, one behind the other, without what this claim does not need: Rs, Ma. -/
import Derived.Test.YtecnmodeggnjoaaGreatZe2002630
import Derived.Test.YtecnmodeggnjoaaGreatZ855f7bb1
import Derived.Test.YtecnmodeggnjoaaGreatZ820b34b4
set_option linter.unusedVariables false
set_option linter.unusedSimpArgs false
set_option maxRecDepth 20000
set_option maxHeartbeats 20000000
namespace Go.Proofs.YtecnmodeggnjoaaGreat.Ac
open Go.RowKit
theorem szHoldS_ok (x : List Ho) (left : Int) (h0 : 0 ≤ left ∧ left ≤ 2 ^ 20) (hx : ListIn HoIn x) : FC Tryz.prog 75 [(false, [hos x]), (false, [iL left])] [] [(false, [.f (iL (szL x.length left))])] := by
  have hw : IntKind.i64.wrap (left - ((x.map hoL).length : Int)) = left - x.length := by have h1 := hx.1; rw [IntKind.wrap_i64]; simp; omega
  refine gr1 Tryz.func75 Tryz.ntmps75 trivial ?_
  rw [hw]
  refine ⟨fun h => nw ?_, fun h => nw ?_⟩
  (refine ⟨[], [], ?_⟩; rotate_left)
  (refine ⟨[], [], ?_⟩; rotate_left)
  all_goals (try (repeat' first | exact trivial | exact rfl | exact tl_pv rfl rfl rfl (List.cons_ne_nil _ _) | exact ⟨_, rfl, frzC_map _⟩ | exact tl_ints rfl rfl rfl (by simp) | exact tl_txts rfl rfl rfl (by simp) | exact tl_nds rfl rfl rfl (by simp) | exact tl_tms rfl rfl rfl (by simp) | exact tl_rus rfl rfl rfl (by simp) | exact tl_eds rfl rfl rfl (by simp) | exact tl_hos rfl rfl rfl (by simp) | exact tl_tbs rfl rfl rfl (by simp) | exact tl_ses rfl rfl rfl (by simp) | exact tl_evs rfl rfl rfl (by simp) | ((conv => whnf); first | exact trivial | exact rfl | exact .inr rfl | exact .inl ⟨rfl, rfl⟩ | apply And.intro) | refine tl_int ?_ | refine tl_bool ?_ | refine tl_str ?_ | refine tl_row rfl ?_ | exact cl_ints _ | exact cl_txts _ | exact cl_nds _ | exact cl_tms _ | exact cl_rus _ | exact cl_eds _ | exact cl_hos _ | exact cl_tbs _ | exact cl_ses _ | exact cl_evs _ | exact cl_mp _ | exact Nat.succ_pos _ | exact pl_ints _ | exact pl_txts _ | exact pl_nds _ | exact pl_tms _ | exact pl_rus _ | exact pl_eds _ | exact pl_hos _ | exact pl_tbs _ | exact pl_ses _ | exact pl_evs _ | with_reducible refine tl_f ?_)); all_goals (try first | rfl | assumption | exact q.symm | omega | (rw [IntKind.wrap_i64]; omega) | (simp; done) | (simp; omega))
  all_goals first
    | (unfold szL; rw [if_neg (by omega)])
    | (unfold szL; rw [if_pos (by omega)])
theorem toHold_ok (x : Ho) (hs : True) : FC Tryz.prog 34 [(true, hoL x)] [] [(true, [.f (iL x.session), .f (iL x.node), .f (iL x.mode)])] := by
  refine gr1 Tryz.func34 Tryz.ntmps34 (trivial) ?_
  exact ⟨[], [], don⟩
theorem toHoldS_ok (x : List Ho) (hs : x.length ≤ 2 ^ 20) : FC Tryz.prog 80 [(false, [hos x])] [(1000, some ⟨0, 3, x.map hoW⟩)] [(false, [.row 1000 0 x.length])] := by
  refine gr1 Tryz.func80 Tryz.ntmps80 (⟨cl_hos _, trivial⟩) ?_
  refine ⟨(x.length, x.length), ⟨by simp, by simp, Nat.le_refl _, by dsimp only; omega⟩, nw ?_⟩
  (refine ⟨fun m es hs => ∃ (i : Nat), (m + i = x.length) ∧ es = [(4, .val false [.f (iL i)]), (3, .val false [.row 3 0 x.length]), (0, .val false [.f (hos x)])] ∧ hs = [(3, some ⟨0, 3, (x.take i).map hoW ++ List.replicate (x.length - i) zHo⟩)], ⟨x.length, [], [(3, 128)], _, _, ⟨rfl, ?_, ?_⟩, 0, ?_, rfl, rfl⟩, ?_⟩; rotate_left 3; rintro m _ _ ⟨i, hTHo0, rfl, rfl⟩; refine nw ?_)
  refine ⟨fun h => nw ?_, fun h => nw ?_⟩
  have hi : i < x.length := by simpa using h
  refine ⟨(i, hoL x[i]), ⟨rfl, by simp [hi]⟩, nw ?_⟩
  refine ⟨(_, _), toHold_ok x[i] trivial, nw ?_⟩
  refine ⟨i, ⟨rfl, hi⟩, nw ?_⟩
  refine ⟨zHo, fill_get hi, nw ?_⟩
  (refine ⟨m - 1, [], [], [(4, .val false [.f (iL (i + 1))]), (3, .val false [.row 3 0 x.length]), (0, .val false [.f (hos x)])], [(3, some ⟨0, 3, (x.take (i + 1)).map hoW ++ List.replicate (x.length - (i + 1)) zHo⟩)], by omega, ⟨rfl, ?_, ?_⟩, (i + 1), ?_, rfl, rfl⟩; rotate_left 3)
  have hi : x.length ≤ i := by simpa using h
  have e : (x.take i).map hoW ++ List.replicate (x.length - i) zHo = x.map hoW := by rw [List.take_of_length_le hi, show x.length - i = 0 by omega]; simp
  rw [e]
  (refine ⟨[], [(1000, 3)], ?_⟩; rotate_left)
  all_goals (try (repeat' first | exact trivial | exact rfl | exact tl_pv rfl rfl rfl (List.cons_ne_nil _ _) | exact ⟨_, rfl, frzC_map _⟩ | exact tl_ints rfl rfl rfl (by simp) | exact tl_txts rfl rfl rfl (by simp) | exact tl_nds rfl rfl rfl (by simp) | exact tl_tms rfl rfl rfl (by simp) | exact tl_rus rfl rfl rfl (by simp) | exact tl_eds rfl rfl rfl (by simp) | exact tl_hos rfl rfl rfl (by simp) | exact tl_tbs rfl rfl rfl (by simp) | exact tl_ses rfl rfl rfl (by simp) | exact tl_evs rfl rfl rfl (by simp) | ((conv => whnf); first | exact trivial | exact rfl | exact .inr rfl | exact .inl ⟨rfl, rfl⟩ | apply And.intro) | refine tl_int ?_ | refine tl_bool ?_ | refine tl_str ?_ | refine tl_row rfl ?_ | exact cl_ints _ | exact cl_txts _ | exact cl_nds _ | exact cl_tms _ | exact cl_rus _ | exact cl_eds _ | exact cl_hos _ | exact cl_tbs _ | exact cl_ses _ | exact cl_evs _ | exact cl_mp _ | exact Nat.succ_pos _ | exact pl_ints _ | exact pl_txts _ | exact pl_nds _ | exact pl_tms _ | exact pl_rus _ | exact pl_eds _ | exact pl_hos _ | exact pl_tbs _ | exact pl_ses _ | exact pl_evs _ | with_reducible refine tl_f ?_)); all_goals (try first | rfl | assumption | exact q.symm | omega | (rw [IntKind.wrap_i64]; omega) | (simp; done) | (simp; omega))
  all_goals first
    | exact cl_app (cl_hos _) (cl_rep _ ⟨trivial, trivial, trivial, trivial⟩)
    | (simp only [List.set_set]; exact fill_set (f := hoW) hi)
    | (dsimp only; simp only [List.set_set]; exact fill_set (f := hoW) hi)
theorem eqHold_refl (x : Ho) (hs : True) : FC Tryz.prog 122 [(true, hoL x), (true, hoL x)] [] [(false, [.f (bL true)])] := by
  refine gr1 Tryz.func122 Tryz.ntmps122 trivial ?_
  refine ⟨fun h => absurd rfl h, fun h => nw ?_⟩
  refine ⟨fun h => absurd rfl h, fun h => nw ?_⟩
  refine ⟨fun h => absurd rfl h, fun h => nw ?_⟩
  exact ⟨[], [], don⟩
theorem eqHoldS_refl (x : List Ho) (hs : x.length ≤ 2 ^ 20) : FC Tryz.prog 45 [(false, [hos x]), (false, [hos x])] [] [(false, [.f (bL true)])] := by
  refine gr1 Tryz.func45 Tryz.ntmps45 trivial ?_
  refine ⟨fun h => absurd rfl h, fun h => nw ?_⟩
  (refine ⟨fun m es hs => ∃ (i : Nat), (m + i = x.length) ∧ es = [(5, .val false [.f (iL i)]), (1, .val false [.f (hos x)]), (0, .val false [.f (hos x)])] ∧ hs = [], ⟨x.length, [], [], _, _, don, 0, don, rfl, rfl⟩, ?_⟩; rintro m _ _ ⟨i, hEHo0, rfl, rfl⟩; refine nw ?_)
  refine ⟨fun h => nw ?_, fun h => nw ?_⟩
  have hi : i < x.length := by simpa using h
  refine ⟨by kernel_rfl, nw ?_⟩
  refine ⟨(i, hoL x[i]), ⟨rfl, by simp [hi]⟩, nw ?_⟩
  refine ⟨(i, hoL x[i]), ⟨rfl, by simp [hi]⟩, nw ?_⟩
  refine ⟨([], _), eqHold_refl x[i] trivial, nw ?_⟩
  refine ⟨by kernel_rfl, nw ?_⟩
  exact ⟨m - 1, [], [], _, _, by omega, don, (i + 1), don, rfl, rfl⟩
  exact ⟨[], [], don⟩
theorem szTable_ok (x : Tb) (left : Int) (h0 : 0 ≤ left ∧ left ≤ 2 ^ 20) (hx : TbIn x) : FC Tryz.prog 16 [(true, tbL x), (false, [iL left])] [] [(false, [.f (iL (szL (szTb x) left))])] := by
  have hz : szTb x = x.holds.length + x.waits.length := rfl
  refine gr1 Tryz.func16 Tryz.ntmps16 trivial ?_
  have c0 := szHoldS_ok x.holds (left) (by omega) (hx.1)
  refine ⟨([], _), c0, nw ?_⟩
  refine ⟨fun h => nw ?_, fun h => nw ?_⟩
  (refine ⟨[], [], ?_⟩; rotate_left)
  have e0 : szL (x.holds.length) (left) = left - ((x.holds.length : Nat) : Int) := by unfold szL at h ⊢; split at h <;> split <;> omega
  rw [e0] at h
  rw [e0]
  have g0 := Int.not_lt.1 h
  have c1 := szHoldS_ok x.waits (left - ((x.holds.length : Nat) : Int)) (by omega) (hx.2)
  refine ⟨([], _), c1, nw ?_⟩
  refine ⟨fun h => nw ?_, fun h => nw ?_⟩
  (refine ⟨[], [], ?_⟩; rotate_left)
  have e1 : szL (x.waits.length) (left - ((x.holds.length : Nat) : Int)) = left - ((x.holds.length + x.waits.length : Nat) : Int) := by unfold szL at h ⊢; split at h <;> split <;> omega
  rw [e1] at h
  rw [e1]
  have g1 := Int.not_lt.1 h
  (refine ⟨[], [], ?_⟩; rotate_left)
  all_goals (try (repeat' first | exact trivial | exact rfl | exact tl_pv rfl rfl rfl (List.cons_ne_nil _ _) | exact ⟨_, rfl, frzC_map _⟩ | exact tl_ints rfl rfl rfl (by simp) | exact tl_txts rfl rfl rfl (by simp) | exact tl_nds rfl rfl rfl (by simp) | exact tl_tms rfl rfl rfl (by simp) | exact tl_rus rfl rfl rfl (by simp) | exact tl_eds rfl rfl rfl (by simp) | exact tl_hos rfl rfl rfl (by simp) | exact tl_tbs rfl rfl rfl (by simp) | exact tl_ses rfl rfl rfl (by simp) | exact tl_evs rfl rfl rfl (by simp) | ((conv => whnf); first | exact trivial | exact rfl | exact .inr rfl | exact .inl ⟨rfl, rfl⟩ | apply And.intro) | refine tl_int ?_ | refine tl_bool ?_ | refine tl_str ?_ | refine tl_row rfl ?_ | exact cl_ints _ | exact cl_txts _ | exact cl_nds _ | exact cl_tms _ | exact cl_rus _ | exact cl_eds _ | exact cl_hos _ | exact cl_tbs _ | exact cl_ses _ | exact cl_evs _ | exact cl_mp _ | exact Nat.succ_pos _ | exact pl_ints _ | exact pl_txts _ | exact pl_nds _ | exact pl_tms _ | exact pl_rus _ | exact pl_eds _ | exact pl_hos _ | exact pl_tbs _ | exact pl_ses _ | exact pl_evs _ | with_reducible refine tl_f ?_)); all_goals (try first | rfl | assumption | exact q.symm | omega | (rw [IntKind.wrap_i64]; omega) | (simp; done) | (simp; omega))
  all_goals first
    | (unfold szL; rw [if_pos (by omega)]; omega)
    | (unfold szL; rw [if_neg (by omega)])
    | (unfold szL at *; repeat' (first | omega | split at *))
theorem toTable_ok (x : Tb) (hs : szTb x ≤ 2 ^ 20) : FC Tryz.prog 19 [(true, tbL x)] [(1000, some ⟨0, 3, x.holds.map hoW⟩), (1001, some ⟨0, 3, x.waits.map hoW⟩)] [(true, [.row 1000 0 x.holds.length, .row 1001 0 x.waits.length])] := by
  have hz : szTb x = x.holds.length + x.waits.length := rfl
  have t0 := toHoldS_ok x.holds (by omega)
  have t1 := toHoldS_ok x.waits (by omega)
  refine gr1 Tryz.func19 Tryz.ntmps19 (⟨cl_hos _, cl_hos _, trivial⟩) ?_
  refine ⟨(_, _), t0, nw ?_⟩
  refine ⟨(_, _), t1, nw ?_⟩
  exact ⟨[], [(1000, 112), (1001, 176)], don⟩
theorem eqTable_refl (x : Tb) (hs : szTb x ≤ 2 ^ 20) : FC Tryz.prog 21 [(true, tbL x), (true, tbL x)] [] [(false, [.f (bL true)])] := by
  have hz : szTb x = x.holds.length + x.waits.length := rfl
  have t0 := eqHoldS_refl x.holds (by omega)
  have t1 := eqHoldS_refl x.waits (by omega)
  refine gr1 Tryz.func21 Tryz.ntmps21 trivial ?_
  refine ⟨([], _), t0, nw ?_⟩
  refine ⟨([], _), t1, nw ?_⟩
  exact ⟨[], [], don⟩
end Go.Proofs.YtecnmodeggnjoaaGreat.Ac
set_option linter.unusedVariables false
set_option linter.unusedSimpArgs false
set_option maxRecDepth 20000
set_option maxHeartbeats 2000000
namespace Go.Proofs.YtecnmodeggnjoaaGreat.Ac
open Go.RowKit
def mkI (k : Int) (n : Nat) : List Int := (List.range n).map fun j => k + (j : Nat)
theorem mkI_len (k : Int) (n : Nat) : (mkI k n).length = n := by simp [mkI]
theorem set_take {α β : Type} {f : α → β} {a b : List α} {i : Nat} (hi : i < b.length) (hab : a.length = b.length) : (((a.take i) ++ b.drop i).map f).set i (f a[i]) = ((a.take (i + 1)) ++ b.drop (i + 1)).map f := by
  have h1 : (a.take i).length = i := by simp; omega
  rw [← List.map_set, List.set_append_right _ _ (by omega), h1, Nat.sub_self, List.drop_eq_getElem_cons hi, List.set_cons_zero, List.take_succ_eq_append_getElem (by omega), List.append_assoc]
  rfl
theorem get_take {α β : Type} {f : α → β} {a b : List α} {i : Nat} (hi : i < b.length) (hab : a.length = b.length) : (((a.take i) ++ b.drop i).map f)[i]? = some (f b[i]) := by
  have h1 : (a.take i).length = i := by simp; omega
  rw [List.getElem?_map, List.getElem?_append_right (by omega), h1, Nat.sub_self, List.drop_eq_getElem_cons hi]; rfl
theorem mkI_get {k : Int} {n i : Nat} (h : i < n) : (mkI k n)[i]'(by rw [mkI_len]; exact h) = k + i := by simp [mkI]
theorem set_take' {α β : Type} {f : α → β} {a b : List α} {i : Nat} {y : β} (hi : i < b.length) (hab : a.length = b.length) (hy : y = f a[i]) : (((a.take i) ++ b.drop i).map f).set i y = ((a.take (i + 1)) ++ b.drop (i + 1)).map f := hy ▸ set_take hi hab
theorem take_end {α : Type} {a b : List α} {i : Nat} (hi : i = b.length) (hab : a.length = b.length) : a.take i ++ b.drop i = a := by
  rw [List.take_of_length_le (by omega), List.drop_eq_nil_of_le (by omega), List.append_nil]
theorem markIntS_ok (x : List Int) (k : Int) (hk : 0 ≤ k ∧ k + x.length < 2 ^ 62) : GCalls Tryz.prog 26 [(1, some ⟨0, 1, x.map intW⟩)] [(false, [.row 1 0 x.length]), (false, [.f (iL k)])] [(1, some ⟨0, 1, (mkI k x.length).map intW⟩)] [(false, [.f (iL (k + x.length))])] := by
  have hl := mkI_len k x.length
  refine gr1 Tryz.func26 Tryz.ntmps26 (⟨cl_ints _, trivial⟩) ?_
  (refine ⟨fun m es hs => ∃ (i : Nat), (m + i = x.length) ∧ es = [(5, .val false [.f (iL i)]), (0, .val false [.row 1 0 x.length]), (1, .val false [.f (iL (k + i))])] ∧ hs = [(1, some ⟨0, 1, ((mkI k x.length).take i ++ x.drop i).map intW⟩)], ⟨x.length, [], [], _, _, ⟨rfl, ?_, ?_⟩, 0, ?_, rfl, rfl⟩, ?_⟩; rotate_left 3; rintro m _ _ ⟨i, hA0, rfl, rfl⟩; refine nw ?_)
  refine ⟨fun h => nw ?_, fun h => nw ?_⟩
  have hi : i < x.length := by simpa using h
  refine ⟨i, ⟨rfl, hi⟩, nw ?_⟩
  refine ⟨intW x[i], get_take hi hl, nw ?_⟩
  (refine ⟨m - 1, [], [], [(5, .val false [.f (iL (i + 1))]), (0, .val false [.row 1 0 x.length]), (1, .val false [.f (iL (k + (i + 1)))])], [(1, some ⟨0, 1, ((mkI k x.length).take (i + 1) ++ x.drop (i + 1)).map intW⟩)], by omega, ⟨rfl, ?_, ?_⟩, (i + 1), ?_, rfl, rfl⟩; rotate_left 3)
  have hi : i = x.length := by have := Int.not_lt.1 h; omega
  subst hi
  (refine ⟨[], [], ?_⟩; rotate_left)
  all_goals (try (repeat' first | exact trivial | exact rfl | exact tl_pv rfl rfl rfl (List.cons_ne_nil _ _) | exact ⟨_, rfl, frzC_map _⟩ | exact tl_ints rfl rfl rfl (by simp) | exact tl_txts rfl rfl rfl (by simp) | exact tl_nds rfl rfl rfl (by simp) | ((conv => whnf); first | exact trivial | exact rfl | exact .inr rfl | exact .inl ⟨rfl, rfl⟩ | apply And.intro) | refine tl_int ?_ | refine tl_bool ?_ | refine tl_str ?_ | refine tl_row rfl ?_ | exact cl_ints _ | exact cl_txts _ | exact cl_nds _ | exact cl_mp _ | exact Nat.succ_pos _ | exact pl_ints _ | exact pl_txts _ | exact pl_nds _ | with_reducible refine tl_f ?_)); all_goals (try first | rfl | assumption | exact q.symm | omega | (rw [IntKind.wrap_i64]; omega) | (simp; done) | (simp; omega))
  · dsimp only
    exact set_take' hi hl (by rw [mkI_get hi])
  · dsimp only
    rw [take_end rfl hl]
def mtF : Nat → Nat → ByteArray → ByteArray
  | 0, _, out => out
  | f + 1, k, out => if k = 0 then out else mtF f (k / 10) (⟨#[UInt8.ofNat (48 + k % 10)]⟩ ++ out)
def mT (k : Int) : ByteArray := if k ≤ 0 then ⟨#[109, 48]⟩ else ⟨#[109]⟩ ++ mtF 20 k.toNat ⟨#[]⟩
theorem mx {n : Nat} (h : n < 2 ^ 62) : n ≤ maxLen := by unfold maxLen; omega
theorem dig1 (q : Nat) (out : ByteArray) : (⟨#[UInt8.ofNat (48 + q % 10)]⟩ : ByteArray).size + out.size = 1 + out.size := rfl
theorem digE (q : Nat) : (([[A.f (.v (.int .u8 (IntKind.u8.wrap (IntKind.i64.wrap (48 + (q : Int).tmod 10)))))]] : List (List A)).take 1).drop 0 = (⟨#[UInt8.ofNat (48 + q % 10)]⟩ : ByteArray).data.toList.map byteL := by
  have h1 : IntKind.i64.wrap (48 + (q : Int).tmod 10) = 48 + ((q % 10 : Nat) : Int) := by
    rw [Int.tmod_eq_emod_of_nonneg (by omega), IntKind.wrap_i64]; omega
  have h2 : IntKind.u8.wrap (48 + ((q % 10 : Nat) : Int)) = ((UInt8.ofNat (48 + q % 10)).toNat : Int) := by
    have : (UInt8.ofNat (48 + q % 10)).toNat = 48 + q % 10 := by simp; omega
    rw [this, IntKind.wrap_u8]; omega
  rw [h1, h2]; rfl
theorem markText_ok (k : Int) (hk : k < 2 ^ 62) : FC Tryz.prog 144 [(false, [iL k])] [] [(false, [.f (sL (mT k))])] := by
  refine gr1 Tryz.func144 Tryz.ntmps144 trivial ?_
  refine ⟨fun h => nw ?_, fun h => nw ?_⟩
  (refine ⟨[], [], ?_⟩; rotate_left)
  (refine ⟨fun m es hs => ∃ (f : Nat) (q : Nat) (out : ByteArray), (f ≤ 19 ∧ m = f) ∧ (q < 10 ^ f ∧ q < 2 ^ 62) ∧ (mtF (f + 1) q out = mtF 20 k.toNat ⟨#[]⟩) ∧ (out.size + f ≤ 19) ∧ es = [(0, .val false [.f (iL q)]), (3, .val false [.f (sL out)])] ∧ hs = [], ⟨19, [], [], _, _, ⟨rfl, ?_, ?_⟩, 19, k.toNat, (⟨#[]⟩), ?_, ?_, ?_, ?_, rfl, rfl⟩, ?_⟩; rotate_left 6; rintro m _ _ ⟨f, q, out, hB0, hB1, hB2, hB3, rfl, rfl⟩; refine nw ?_)
  refine ⟨fun h => nw ?_, fun h => nw ?_⟩
  have hq : 0 < q := by omega
  have hf : 0 < f := by
    rcases Nat.eq_zero_or_pos f with rfl | hf
    · simp at hB1; omega
    · exact hf
  have hp : 10 ^ f = 10 * 10 ^ (f - 1) := by rw [← Nat.pow_succ', show (f - 1).succ = f by omega]
  refine ⟨by decide, nw ?_⟩
  refine ⟨⟨#[UInt8.ofNat (48 + q % 10)]⟩, digE q, nw ?_⟩
  refine ⟨by rw [dig1]; exact mx (by omega), nw ?_⟩
  refine ⟨by decide, nw ?_⟩
  (refine ⟨m - 1, [], [], [(0, .val false [.f (iL (q / 10))]), (3, .val false [.f (sL (⟨#[UInt8.ofNat (48 + q % 10)]⟩ ++ out))])], [], by omega, ⟨rfl, ?_, ?_⟩, (f - 1), (q / 10), (⟨#[UInt8.ofNat (48 + q % 10)]⟩ ++ out), ?_, ?_, ?_, ?_, rfl, rfl⟩; rotate_left 6)
  refine ⟨by exact mx (by show 1 + out.size < 2 ^ 62; omega), nw ?_⟩
  (refine ⟨[], [], ?_⟩; rotate_left)
  all_goals (try (repeat' first | exact trivial | exact rfl | exact tl_pv rfl rfl rfl (List.cons_ne_nil _ _) | exact ⟨_, rfl, frzC_map _⟩ | exact tl_ints rfl rfl rfl (by simp) | exact tl_txts rfl rfl rfl (by simp) | exact tl_nds rfl rfl rfl (by simp) | ((conv => whnf); first | exact trivial | exact rfl | exact .inr rfl | exact .inl ⟨rfl, rfl⟩ | apply And.intro) | refine tl_int ?_ | refine tl_bool ?_ | refine tl_str ?_ | refine tl_row rfl ?_ | exact cl_ints _ | exact cl_txts _ | exact cl_nds _ | exact cl_mp _ | exact Nat.succ_pos _ | exact pl_ints _ | exact pl_txts _ | exact pl_nds _ | with_reducible refine tl_f ?_)); all_goals (try first | rfl | assumption | exact q.symm | omega | (rw [IntKind.wrap_i64]; omega) | (simp; done) | (simp; omega))
  · unfold mT; rw [if_pos h]
  · exact Nat.le_refl _
  · have : (q : Int).tdiv 10 = ((q / 10 : Nat) : Int) := by rw [Int.tdiv_eq_ediv_of_nonneg (by omega)]; rfl
    rw [this, wrap_nat (by omega)]; try rfl
  · rw [← hB2, Nat.sub_add_cancel hf]
    conv => rhs; unfold mtF
    rw [if_neg (by omega)]
  · rw [ByteArray.size_append]
    show 1 + out.size + (f - 1) ≤ 19
    omega
  · have hq : q = 0 := by omega
    subst hq
    have e0 : mtF (f + 1) 0 out = out := by unfold mtF; rw [if_pos rfl]
    rw [e0] at hB2
    unfold mT
    rw [if_neg (by assumption), ← hB2]
def mkN (k : Int) (n : Nd) : Nd := ⟨k, k + 1, k + 2, mT (k + 3), mkI (k + 4) n.kids.length⟩
def mkNs : Int → List Nd → List Nd
  | _, [] => []
  | k, n :: l => mkN k n :: mkNs (k + 4 + n.kids.length) l
def mkZ (l : List Nd) : Nat := (l.map fun n => 4 + n.kids.length).sum
theorem mkNs_len : ∀ (k : Int) (l : List Nd), (mkNs k l).length = l.length
  | _, [] => rfl
  | k, n :: l => congrArg (· + 1) (mkNs_len _ l)
theorem mkZ_cons (n : Nd) (l : List Nd) : mkZ (n :: l) = 4 + n.kids.length + mkZ l := by simp [mkZ]
theorem mkZ_take {l : List Nd} {i : Nat} (hi : i < l.length) : mkZ (l.take (i + 1)) = mkZ (l.take i) + (4 + l[i].kids.length) := by
  unfold mkZ
  rw [List.take_succ_eq_append_getElem hi, List.map_append, List.sum_append]; simp
theorem mkZ_le (l : List Nd) (i : Nat) : mkZ (l.take i) ≤ mkZ l := by
  conv => rhs; rw [← List.take_append_drop i l]
  unfold mkZ
  rw [List.map_append, List.sum_append]; omega
theorem mkZ_ge : ∀ l : List Nd, l.length ≤ mkZ l
  | [] => Nat.le_refl _
  | n :: l => by have := mkZ_ge l; rw [mkZ_cons, List.length_cons]; omega
theorem mkNs_get : ∀ (k : Int) (l : List Nd) (i : Nat) (hi : i < l.length), (mkNs k l)[i]'(by rw [mkNs_len]; exact hi) = mkN (k + mkZ (l.take i)) l[i]
  | k, [], _, hi => by simp at hi
  | k, n :: l, 0, _ => by simp [mkNs, mkZ]
  | k, n :: l, i + 1, hi => by
    have := mkNs_get (k + 4 + n.kids.length) l i (by simpa using hi)
    simp only [mkNs, List.getElem_cons_succ, this, List.take_succ_cons, mkZ_cons]
    congr 1
    omega
theorem mkZ_sz (l : List Nd) : mkZ l ≤ 4 * (l.length + szNs l) := by
  induction l with
  | nil => simp [mkZ, szNs]
  | cons n l ih =>
    rw [mkZ_cons, szNs_cons, List.length_cons]
    unfold szN; omega
theorem markNodeS_ok (x : List Nd) (k : Int) (hk : 0 ≤ k ∧ k + mkZ x < 2 ^ 62) : GCalls Tryz.prog 86 [(1, some ⟨0, 5, x.map ndW⟩)] [(false, [.row 1 0 x.length]), (false, [.f (iL k)])] [(1, some ⟨0, 5, (mkNs k x).map ndW⟩)] [(false, [.f (iL (k + mkZ x))])] := by
  have hl := mkNs_len k x
  have hzl := mkZ_ge x
  refine gr1 Tryz.func86 Tryz.ntmps86 (⟨cl_nds _, trivial⟩) ?_
  (refine ⟨fun m es hs => ∃ (i : Nat) (K : Int), (m + i = x.length) ∧ (K = k + mkZ (x.take i)) ∧ es = [(5, .val false [.f (iL i)]), (0, .val false [.row 1 0 x.length]), (1, .val false [.f (iL K)])] ∧ hs = [(1, some ⟨0, 5, ((mkNs k x).take i ++ x.drop i).map ndW⟩)], ⟨x.length, [], [], _, _, ⟨rfl, ?_, ?_⟩, 0, k, ?_, ?_, rfl, rfl⟩, ?_⟩; rotate_left 4; rintro m _ _ ⟨i, K, hC0, hC1, rfl, rfl⟩; refine nw ?_)
  refine ⟨fun h => nw ?_, fun h => nw ?_⟩
  have hi : i < x.length := by simpa using h
  have hz := mkZ_take hi
  have hz2 := mkZ_le x (i + 1)
  have hK : 0 ≤ K ∧ K + 4 + x[i].kids.length < 2 ^ 62 := by omega
  have w1 : IntKind.i64.wrap (K + 1) = K + 1 := wrap_id (by omega)
  have w2 : IntKind.i64.wrap (K + 1 + 1) = K + 2 := by rw [wrap_id (by omega)]; omega
  have w3 : IntKind.i64.wrap (K + 2 + 1) = K + 3 := by rw [wrap_id (by omega)]; omega
  have w4 : IntKind.i64.wrap (K + 3 + 1) = K + 4 := by rw [wrap_id (by omega)]; omega
  have mt := markText_ok (K + 3) (by omega)
  have mi := markIntS_ok x[i].kids (K + 4) (by omega)
  refine ⟨i, ⟨rfl, hi⟩, nw ?_⟩
  refine ⟨ndW x[i], get_take hi hl, nw ?_⟩
  rw [w1]
  refine ⟨i, ⟨rfl, hi⟩, nw ?_⟩
  refine ⟨_, List.getElem?_set_self (by simp; omega), nw ?_⟩
  rw [w2]
  refine ⟨i, ⟨rfl, hi⟩, nw ?_⟩
  refine ⟨_, List.getElem?_set_self (by simp; omega), nw ?_⟩
  rw [w3]
  refine ⟨([], _), mt, nw ?_⟩
  refine ⟨i, ⟨rfl, hi⟩, nw ?_⟩
  refine ⟨_, List.getElem?_set_self (by simp; omega), nw ?_⟩
  rw [w4]
  refine ⟨i, ⟨rfl, hi⟩, nw ?_⟩
  refine ⟨_, List.getElem?_set_self (by simp; omega), nw ?_⟩
  (refine ⟨⟨false, [(1, 736)], _, _, _, _⟩, mi, co1 ?_ ?_ ?_ ?_⟩; rotate_left 3)
  refine ⟨m - 1, [(736, 1, i, 4)], [], [(5, .val false [.f (iL (i + 1))]), (0, .val false [.row 1 0 x.length]), (1, .val false [.f (iL (K + 4 + x[i].kids.length))])], [(1, some ⟨0, 5, ((mkNs k x).take (i + 1) ++ x.drop (i + 1)).map ndW⟩)], by omega, nw ?_, (i + 1), (K + 4 + x[i].kids.length), ?_, ?_, rfl, rfl⟩
  refine ⟨_, List.getElem?_set_self (by simp; omega), nw ?_⟩
  refine ⟨(mkI (K + 4) x[i].kids.length).map intW, by rw [List.take_of_length_le (by simp [mkI_len])], nw ?_⟩
  (refine ⟨rfl, ?_, ?_⟩; rotate_left 4)
  have hi : i = x.length := by have := Int.not_lt.1 h; omega
  subst hi
  rw [List.take_length] at hC1
  (refine ⟨[], [], ?_⟩; rotate_left)
  all_goals (try (repeat' first | exact trivial | exact rfl | exact tl_pv rfl rfl rfl (List.cons_ne_nil _ _) | exact ⟨_, rfl, frzC_map _⟩ | exact tl_ints rfl rfl rfl (by simp) | exact tl_txts rfl rfl rfl (by simp) | exact tl_nds rfl rfl rfl (by simp) | ((conv => whnf); first | exact trivial | exact rfl | exact .inr rfl | exact .inl ⟨rfl, rfl⟩ | apply And.intro) | refine tl_int ?_ | refine tl_bool ?_ | refine tl_str ?_ | refine tl_row rfl ?_ | exact cl_ints _ | exact cl_txts _ | exact cl_nds _ | exact cl_mp _ | exact Nat.succ_pos _ | exact pl_ints _ | exact pl_txts _ | exact pl_nds _ | with_reducible refine tl_f ?_)); all_goals (try first | rfl | assumption | exact q.symm | omega | (rw [IntKind.wrap_i64]; omega) | (simp; done) | (simp; omega))
  · simp [mkZ]
  · dsimp only
    simp only [List.set_set]
    refine set_take' hi hl ?_
    have e := mkNs_get k x i hi
    rw [← hC1] at e
    rw [e]; rfl
  · dsimp only
    rw [take_end rfl hl]
theorem markDoc_ok (d : Dc) (k : Int) (hk : 0 ≤ k ∧ k + mkZ d.nodes < 2 ^ 62) : GCalls Tryz.prog 24 [(1, some ⟨0, 5, d.nodes.map ndW⟩)] [(true, [.f (iL d.root), .f (iL d.next), .row 1 0 d.nodes.length]), (false, [.f (iL k)])] [(1, some ⟨0, 5, (mkNs k d.nodes).map ndW⟩)] [(false, [.f (iL (k + mkZ d.nodes))])] := by
  have mi := markNodeS_ok d.nodes k hk
  refine gr1 Tryz.func24 Tryz.ntmps24 (⟨cl_nds _, trivial⟩) ?_
  refine ⟨⟨false, [(1, 1)], _, _, _, _⟩, mi, cd1 ?_⟩
  exact ⟨[], [], don⟩
theorem heldIntS_ok (k : Int) (n : Nat) (hk : 0 ≤ k ∧ k + n < 2 ^ 62) : FC Tryz.prog 28 [(false, [ints (mkI k n)]), (false, [iL k])] [] [(false, [.f (iL (k + n))])] := by
  have hl := mkI_len k n
  refine gr1 Tryz.func28 Tryz.ntmps28 trivial ?_
  (refine ⟨fun m es hs => ∃ (i : Nat), (m + i = n) ∧ es = [(5, .val false [.f (iL i)]), (0, .val false [.f (ints (mkI k n))]), (1, .val false [.f (iL (k + i))])] ∧ hs = [], ⟨n, [], [], _, _, don, 0, don, rfl, rfl⟩, ?_⟩; rintro m _ _ ⟨i, hD0, rfl, rfl⟩; refine nw ?_)
  refine ⟨fun h => nw ?_, fun h => nw ?_⟩
  have hi : i < n := by rw [List.length_map, hl] at h; omega
  have he := mkI_get (k := k) hi
  have hi' : i < (mkI k n).length := by omega
  refine ⟨(i, intE (k + i)), ⟨rfl, by rw [List.getElem?_map, List.getElem?_eq_getElem hi', he]; rfl⟩, nw ?_⟩
  refine ⟨fun h => absurd rfl h, fun h => nw ?_⟩
  exact ⟨m - 1, [], [], _, _, by omega, don, (i + 1), don, rfl, rfl⟩
  have hi : i = n := by rw [List.length_map, hl] at h; omega
  subst hi
  exact ⟨[], [], don⟩
end Go.Proofs.YtecnmodeggnjoaaGreat.Ac
