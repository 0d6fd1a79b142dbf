/- Several of our texts, one behind the other, without what this claim does not need: Wo, Tv, Wu, ShSrt. -/
import Derived.Test.YtchfpgpboifbeaaGreatZ3ec39f7f
import Derived.Test.YtchfpgpboifbeaaGreatZ2372bb6a
import Derived.Test.YtchfpgpboifbeaaGreatZ06dedf39
import Derived.Shelf.Sort.Plain
import Derived.Ground.Names2Prog
import Derived.Shelf.Slices.In.SortNone
import Derived.Ground.SlgnProg
import Derived.Test.YtchfpgpboifbeaaGreatProg
set_option linter.unusedVariables false
set_option linter.unusedSimpArgs false
set_option maxRecDepth 20000
set_option maxHeartbeats 2000000
namespace Go.Proofs.YtchfpgpboifbeaaGreat.Ac
open Go.RowKit
theorem cp_ints (l : List Int) : cpE (((l.map intW).take l.length).drop 0) = l.map intW := by
  rw [List.take_of_length_le (by simp), List.drop_zero]
  unfold cpE
  rw [List.map_map]
  rfl
theorem l02Order_ok (d : Dc) (hlen : d.nodes.length < 2 ^ 62) (hks : ∀ n ∈ d.nodes, n.kids.length < 2 ^ 62) : ∀ (k : Nat) (id : Int), Fits d.nodes k id → (orderF d.nodes k id).length < 2 ^ 30 →
    FC Tryz.prog 150 [(true, dcL d), (false, [iL id])] [(1000, some ⟨0, 1, (orderF d.nodes k id).map intW⟩)] [(false, [.row 1000 0 (orderF d.nodes k id).length])]
  | 0, id, hf, _ => hf.elim
  | k + 1, id, hf, hb => by
    obtain ⟨n, hn, hfk⟩ := hf
    have ih := l02Order_ok d hlen hks k
    have hat := l02At_ok d id hlen
    obtain ⟨x, hx, ex, exn⟩ := at_some hn
    rw [ex] at hat
    have ho : orderF d.nodes (k + 1) id = id :: n.kids.flatMap (orderF d.nodes k) := by simp only [orderF, kidsAt, hn, Option.map_some, Option.getD_some]
    rw [ho] at hb ⊢
    have hnk := hks n (ndAt_mem hn).1
    refine gcalls_of tbl_ok mixed Tryz.func150 rfl Tryz.ntmps150 (by kernel_rfl) (Nat.le_of_ble_eq_true rfl) rfl rfl (⟨cl_ints _, trivial⟩) ?_
    (conv => whnf)
    refine ⟨by kernel_rfl, ?_⟩
    (conv => whnf)
    refine ⟨([], _), hat, ?_⟩
    (conv => whnf)
    refine ⟨(x, ndL n), ⟨rfl, by simp [hx, exn]⟩, ?_⟩
    (conv => whnf)
    refine ⟨by kernel_rfl, ?_⟩
    (conv => whnf)
    refine ⟨fun (m : Nat) (es : Es) (hs : Hs) => ∃ i : Nat, m + i = n.kids.length ∧ es = [(7, .val false [.f (iL i)]), (6, .val false [.f (ints n.kids)]), (5, .val false [.row 3 0 (id :: (n.kids.take i).flatMap (orderF d.nodes k)).length]), (2, .val false [.pt 48 0 0])] ∧ hs = [(3, some ⟨0, 1, (id :: (n.kids.take i).flatMap (orderF d.nodes k)).map intW⟩), (48, some ⟨3, 3, [(dcL d).map .f]⟩)],
      ⟨n.kids.length, [], [(3, 160)], _, _, ⟨?_, ?_, ?_⟩, 0, rfl, rfl, rfl⟩, ?_⟩
    · rfl
    · (repeat' first | exact trivial | exact rfl | exact tl_pv rfl rfl rfl (List.cons_ne_nil _ _) | exact ⟨_, rfl, frzC_map _⟩ | exact tl_ints rfl rfl rfl (by simp) | exact tl_txts rfl rfl rfl (by simp) | exact tl_nds rfl rfl rfl (by simp) | ((conv => whnf); first | exact trivial | exact rfl | exact .inr rfl | exact .inl ⟨rfl, rfl⟩ | apply And.intro) | refine tl_int ?_ | refine tl_bool ?_ | refine tl_str ?_ | refine tl_row rfl ?_ | exact cl_ints _ | exact cl_txts _ | exact cl_nds _ | exact cl_mp _ | exact Nat.succ_pos _ | exact pl_ints _ | exact pl_txts _ | exact pl_nds _ | with_reducible refine tl_f ?_)
    · (repeat' first | exact trivial | exact rfl | exact tl_pv rfl rfl rfl (List.cons_ne_nil _ _) | exact ⟨_, rfl, frzC_map _⟩ | exact tl_ints rfl rfl rfl (by simp) | exact tl_txts rfl rfl rfl (by simp) | exact tl_nds rfl rfl rfl (by simp) | ((conv => whnf); first | exact trivial | exact rfl | exact .inr rfl | exact .inl ⟨rfl, rfl⟩ | apply And.intro) | refine tl_int ?_ | refine tl_bool ?_ | refine tl_str ?_ | refine tl_row rfl ?_ | exact cl_ints _ | exact cl_txts _ | exact cl_nds _ | exact cl_mp _ | exact Nat.succ_pos _ | exact pl_ints _ | exact pl_txts _ | exact pl_nds _ | with_reducible refine tl_f ?_)
    rintro m es hs ⟨i, hm, rfl, rfl⟩
    (conv => whnf)
    refine ⟨fun h => ?_, fun h => ?_⟩
    · have hi : i < n.kids.length := by simpa using h
      have hsp : n.kids.flatMap (orderF d.nodes k) = (n.kids.take i).flatMap (orderF d.nodes k) ++ (orderF d.nodes k n.kids[i] ++ (n.kids.drop (i + 1)).flatMap (orderF d.nodes k)) := by
        conv => lhs; rw [← List.take_append_drop i n.kids, List.drop_eq_getElem_cons hi]
        rw [List.flatMap_append, List.flatMap_cons]
      have hst : id :: (n.kids.take (i + 1)).flatMap (orderF d.nodes k) = (id :: (n.kids.take i).flatMap (orderF d.nodes k)) ++ orderF d.nodes k n.kids[i] := by
        rw [List.take_succ_eq_append_getElem hi, List.flatMap_append]; simp
      rw [hsp] at hb
      simp only [List.length_append, List.length_cons] at hb
      have hc := ih n.kids[i] (hfk _ (List.getElem_mem _)) (by omega)
      (conv => whnf)
      refine ⟨by kernel_rfl, ?_⟩
      (conv => whnf)
      refine ⟨(i, intE n.kids[i]), ⟨rfl, by simp [hi]⟩, ?_⟩
      (conv => whnf)
      refine ⟨(_, _), hc, ?_⟩
      (conv => whnf)
      refine ⟨(orderF d.nodes k n.kids[i]).map intW, cp_ints _, ?_⟩
      (conv => whnf)
      refine ⟨((id :: (n.kids.take i).flatMap (orderF d.nodes k)) ++ orderF d.nodes k n.kids[i]).map intW, ⟨app_row intW _ _, by simp only [List.length_map, List.length_append, List.length_cons]; omega⟩, ?_⟩
      (conv => whnf)
      refine ⟨by kernel_rfl, ?_⟩
      (conv => whnf)
      refine ⟨m - 1, [], [(3, 512)], [(7, .val false [.f (iL (i + 1 : Nat))]), (6, .val false [.f (ints n.kids)]), (5, .val false [.row 3 0 (id :: (n.kids.take (i + 1)).flatMap (orderF d.nodes k)).length]), (2, .val false [.pt 48 0 0])], [(3, some ⟨0, 1, (id :: (n.kids.take (i + 1)).flatMap (orderF d.nodes k)).map intW⟩), (48, some ⟨3, 3, [(dcL d).map .f]⟩)], by omega, ⟨?_, ?_, ?_⟩, i + 1, by omega, rfl, rfl⟩
      · rfl
      · (repeat' first | exact trivial | exact rfl | exact tl_pv rfl rfl rfl (List.cons_ne_nil _ _) | exact ⟨_, rfl, frzC_map _⟩ | exact tl_ints rfl rfl rfl (by simp) | exact tl_txts rfl rfl rfl (by simp) | exact tl_nds rfl rfl rfl (by simp) | ((conv => whnf); first | exact trivial | exact rfl | exact .inr rfl | exact .inl ⟨rfl, rfl⟩ | apply And.intro) | refine tl_int ?_ | refine tl_bool ?_ | refine tl_str ?_ | refine tl_row rfl ?_ | exact cl_ints _ | exact cl_txts _ | exact cl_nds _ | exact cl_mp _ | exact Nat.succ_pos _ | exact pl_ints _ | exact pl_txts _ | exact pl_nds _ | with_reducible refine tl_f ?_)
        · exact wrap_suc (by omega)
        · rw [hst]; simp
      · (repeat' first | exact trivial | exact rfl | exact tl_pv rfl rfl rfl (List.cons_ne_nil _ _) | exact ⟨_, rfl, frzC_map _⟩ | exact tl_ints rfl rfl rfl (by simp) | exact tl_txts rfl rfl rfl (by simp) | exact tl_nds rfl rfl rfl (by simp) | ((conv => whnf); first | exact trivial | exact rfl | exact .inr rfl | exact .inl ⟨rfl, rfl⟩ | apply And.intro) | refine tl_int ?_ | refine tl_bool ?_ | refine tl_str ?_ | refine tl_row rfl ?_ | exact cl_ints _ | exact cl_txts _ | exact cl_nds _ | exact cl_mp _ | exact Nat.succ_pos _ | exact pl_ints _ | exact pl_txts _ | exact pl_nds _ | with_reducible refine tl_f ?_)
        dsimp only
        rw [hst]
    · have hi : n.kids.length ≤ i := by simpa using h
      rw [List.take_of_length_le hi]
      (conv => whnf)
      refine ⟨[], [(1000, 3)], ?_⟩
      (repeat' first | exact trivial | exact rfl | exact tl_pv rfl rfl rfl (List.cons_ne_nil _ _) | exact ⟨_, rfl, frzC_map _⟩ | exact tl_ints rfl rfl rfl (by simp) | exact tl_txts rfl rfl rfl (by simp) | exact tl_nds rfl rfl rfl (by simp) | ((conv => whnf); first | exact trivial | exact rfl | exact .inr rfl | exact .inl ⟨rfl, rfl⟩ | apply And.intro) | refine tl_int ?_ | refine tl_bool ?_ | refine tl_str ?_ | refine tl_row rfl ?_ | exact cl_ints _ | exact cl_txts _ | exact cl_nds _ | exact cl_mp _ | exact Nat.succ_pos _ | exact pl_ints _ | exact pl_txts _ | exact pl_nds _ | with_reducible refine tl_f ?_)
end Go.Proofs.YtchfpgpboifbeaaGreat.Ac
set_option linter.unusedVariables false
set_option linter.unusedSimpArgs false
namespace Go.Proofs.YtchfpgpboifbeaaGreat.Ac
theorem Fits.mono {l : List Nd} : ∀ {k : Nat} {id : Int}, Fits l k id → Fits l (k + 1) id
  | 0, _, h => h.elim
  | k + 1, id, ⟨n, hn, h⟩ => ⟨n, hn, fun c hc => (h c hc).mono⟩
theorem Fits.sub {l : List Nd} : ∀ {k : Nat} {id x : Int}, Fits l k id → x ∈ orderF l k id → Fits l k x
  | 0, _, _, h, _ => h.elim
  | k + 1, id, x, ⟨n, hn, h⟩, hx => by
    rw [orderF, kidsAt_some hn, List.mem_cons] at hx
    rcases hx with rfl | hx
    · exact ⟨n, hn, h⟩
    · obtain ⟨c, hc, hx⟩ := List.mem_flatMap.1 hx
      exact ((h c hc).sub hx).mono
theorem ord_depth {root : Int} {l : List Nd} (hT : Tree root l) : ∀ (m : Nat) (id x : Int), (ndAt l id).isSome → x ∈ orderF l m id → ∃ s, s < m ∧ upP l s x = id
  | 0, id, x, _, h => by simp [orderF] at h
  | m + 1, id, x, hh, h => by
    rw [orderF, List.mem_cons] at h
    rcases h with rfl | h
    · exact ⟨0, by omega, rfl⟩
    · obtain ⟨k, hk, hx⟩ := List.mem_flatMap.1 h
      obtain ⟨h1, h2⟩ := kid_par hT hh hk
      obtain ⟨s, hs, hu⟩ := ord_depth hT m k x h2 hx
      exact ⟨s + 1, by omega, by rw [up_succ, hu, h1]⟩
theorem DOK.all {d : Dc} (h : DOK d) {x : Int} (hx : (ndAt d.nodes x).isSome) : x ∈ orderF d.nodes 6 d.root := by
  have hT := h.tree
  have hnd := ord_nodup hT 6 d.root hT.top ⟨0, rfl⟩
  have hsub : ∀ x ∈ orderF d.nodes 6 d.root, x ∈ d.nodes.map (·.id) := fun x hx => by
    obtain ⟨_, _, hp⟩ := ord_up hT 6 d.root x hT.top hx
    obtain ⟨n, hn⟩ := Option.isSome_iff_exists.1 hp
    obtain ⟨h1, rfl⟩ := ndAt_mem hn
    exact List.mem_map.2 ⟨_, h1, rfl⟩
  obtain ⟨n, hn⟩ := Option.isSome_iff_exists.1 hx
  obtain ⟨h1, rfl⟩ := ndAt_mem hn
  exact sub_eq hnd hsub (by rw [List.length_map, h.2.2.2.2.2]; exact Nat.le_refl _) n.id (List.mem_map.2 ⟨_, h1, rfl⟩)
theorem DOK.up {d : Dc} (h : DOK d) {x : Int} (hx : (ndAt d.nodes x).isSome) : upP d.nodes 7 x = 0 := by
  obtain ⟨s, hs, hu⟩ := ord_depth h.tree 6 d.root x h.tree.top (h.all hx)
  rw [show 7 = s + (1 + (6 - s)) by omega, up_add, hu, up_add]
  show upP d.nodes (6 - s) (parP d.nodes d.root) = 0
  rw [par_root h.tree]
  exact up_zero h.tree _
theorem DOK.par0 {d : Dc} (h : DOK d) : parP d.nodes 0 = 0 := par_zero h.tree
theorem mem_ups {l : List Nd} (h0 : parP l 0 = 0) {t : Int} (ht : t ≠ 0) : ∀ (s : Nat) (x : Int), t ∈ upsF l s x ↔ ∃ j, j < s ∧ upP l j x = t
  | 0, x => by simp [upsF]
  | s + 1, x => by
    have hz : ∀ j, upP l j 0 = 0 := fun j => by
      induction j with
      | zero => rfl
      | succ j ih => show upP l j (parP l 0) = 0; rw [h0]; exact ih
    simp only [upsF]
    by_cases hx : x = 0
    · rw [if_pos hx]
      subst hx
      constructor
      · intro h; simp at h
      · rintro ⟨j, _, hj⟩; rw [hz] at hj; exact absurd hj.symm ht
    · rw [if_neg hx, List.mem_cons, mem_ups h0 ht s (parP l x)]
      constructor
      · rintro (rfl | ⟨j, hj, hu⟩)
        · exact ⟨0, by omega, rfl⟩
        · exact ⟨j + 1, by omega, hu⟩
      · rintro ⟨j, hj, hu⟩
        cases j with
        | zero => exact .inl hu.symm
        | succ j => exact .inr ⟨j, by omega, hu⟩
end Go.Proofs.YtchfpgpboifbeaaGreat.Ac
set_option linter.unusedVariables false
set_option linter.unusedSimpArgs false
set_option maxRecDepth 20000
set_option maxHeartbeats 2000000
namespace Go.Proofs.YtchfpgpboifbeaaGreat.Ac
open Go.RowKit
def riseF : List Int → Int → List Int
  | [], n => [n]
  | x :: l, n => if x > n then n :: x :: l else x :: riseF l n
theorem riseF_len (n : Int) : ∀ l : List Int, (riseF l n).length = l.length + 1
  | [] => rfl
  | x :: l => by
    simp only [riseF]
    split
    · rfl
    · simp [riseF_len n l]
theorem rise_ok (l : List Int) (n : Int) (hlen : l.length < 2 ^ 29) : FC Tryz.prog 240 [(false, [ints l]), (false, [iL n])] [(1000, some ⟨0, 1, (riseF l n).map intW⟩)] [(false, [.row 1000 0 (riseF l n).length])] := by
  have hrl := riseF_len n l
  refine gcalls_of tbl_ok mixed Tryz.func240 rfl Tryz.ntmps240 (by kernel_rfl) (Nat.le_of_ble_eq_true rfl) rfl rfl (⟨cl_ints _, trivial⟩) ?_
  (conv => whnf)
  refine ⟨fun (m : Nat) (es : Es) (hs : Hs) => ∃ (i : Nat) (out : List Int) (done : Bool), m + i = l.length ∧ (done = false → out ++ riseF (l.drop i) n = riseF l n) ∧ (done = true → out ++ l.drop i = riseF l n) ∧ es = [(7, .val false [.f (iL i)]), (6, .val false [.f (bL done)]), (5, .val false [.row 3 0 out.length]), (1, .val false [.f (iL n)]), (0, .val false [.f (ints l)])] ∧ hs = [(3, some ⟨0, 1, out.map intW⟩)],
    ⟨l.length, [], [(3, 144)], _, _, ⟨?_, ?_, ?_⟩, 0, [], false, rfl, fun _ => rfl, (fun h => by cases h), rfl, rfl⟩, ?_⟩
  · rfl
  · (repeat' first | exact trivial | exact rfl | exact tl_pv rfl rfl rfl (List.cons_ne_nil _ _) | exact ⟨_, rfl, frzC_map _⟩ | exact tl_ints rfl rfl rfl (by simp) | exact tl_txts rfl rfl rfl (by simp) | exact tl_nds rfl rfl rfl (by simp) | ((conv => whnf); first | exact trivial | exact rfl | exact .inr rfl | exact .inl ⟨rfl, rfl⟩ | apply And.intro) | refine tl_int ?_ | refine tl_bool ?_ | refine tl_str ?_ | refine tl_row rfl ?_ | exact cl_ints _ | exact cl_txts _ | exact cl_nds _ | exact cl_mp _ | exact Nat.succ_pos _ | exact pl_ints _ | exact pl_txts _ | exact pl_nds _ | with_reducible refine tl_f ?_)
  · (repeat' first | exact trivial | exact rfl | exact tl_pv rfl rfl rfl (List.cons_ne_nil _ _) | exact ⟨_, rfl, frzC_map _⟩ | exact tl_ints rfl rfl rfl (by simp) | exact tl_txts rfl rfl rfl (by simp) | exact tl_nds rfl rfl rfl (by simp) | ((conv => whnf); first | exact trivial | exact rfl | exact .inr rfl | exact .inl ⟨rfl, rfl⟩ | apply And.intro) | refine tl_int ?_ | refine tl_bool ?_ | refine tl_str ?_ | refine tl_row rfl ?_ | exact cl_ints _ | exact cl_txts _ | exact cl_nds _ | exact cl_mp _ | exact Nat.succ_pos _ | exact pl_ints _ | exact pl_txts _ | exact pl_nds _ | with_reducible refine tl_f ?_)
  rintro m es hs ⟨i, out, done, hm, h1, h2, rfl, rfl⟩
  have hol : out.length ≤ l.length + 1 := by
    cases done with
    | false => have := congrArg List.length (h1 rfl); rw [List.length_append] at this; omega
    | true => have := congrArg List.length (h2 rfl); rw [List.length_append] at this; omega
  (conv => whnf)
  refine ⟨fun h => ?_, fun h => ?_⟩
  · have hi : i < l.length := by simpa using h
    have hd := List.drop_eq_getElem_cons hi
    cases done with
    | true =>
      have h2 := h2 rfl
      rw [hd] at h2
      (conv => whnf)
      refine ⟨(i, intE l[i]), ⟨rfl, by simp [hi]⟩, ?_⟩
      (conv => whnf)
      refine ⟨(out ++ [l[i]]).map intW, ⟨app_one intW out _, by simp; omega⟩, ?_⟩
      (conv => whnf)
      refine ⟨m - 1, [], [(3, 576)], [(7, .val false [.f (iL (i + 1 : Nat))]), (6, .val false [.f (bL true)]), (5, .val false [.row 3 0 (out ++ [l[i]]).length]), (1, .val false [.f (iL n)]), (0, .val false [.f (ints l)])], [(3, some ⟨0, 1, (out ++ [l[i]]).map intW⟩)], by omega, ⟨?_, ?_, ?_⟩, i + 1, out ++ [l[i]], true, by omega, (fun h => by cases h), (fun _ => by rw [List.append_assoc]; exact h2), rfl, rfl⟩
      · rfl
      · (repeat' first | exact trivial | exact rfl | exact tl_pv rfl rfl rfl (List.cons_ne_nil _ _) | exact ⟨_, rfl, frzC_map _⟩ | exact tl_ints rfl rfl rfl (by simp) | exact tl_txts rfl rfl rfl (by simp) | exact tl_nds rfl rfl rfl (by simp) | ((conv => whnf); first | exact trivial | exact rfl | exact .inr rfl | exact .inl ⟨rfl, rfl⟩ | apply And.intro) | refine tl_int ?_ | refine tl_bool ?_ | refine tl_str ?_ | refine tl_row rfl ?_ | exact cl_ints _ | exact cl_txts _ | exact cl_nds _ | exact cl_mp _ | exact Nat.succ_pos _ | exact pl_ints _ | exact pl_txts _ | exact pl_nds _ | with_reducible refine tl_f ?_)
        · exact wrap_suc (by omega)
        · simp
      · (repeat' first | exact trivial | exact rfl | exact tl_pv rfl rfl rfl (List.cons_ne_nil _ _) | exact ⟨_, rfl, frzC_map _⟩ | exact tl_ints rfl rfl rfl (by simp) | exact tl_txts rfl rfl rfl (by simp) | exact tl_nds rfl rfl rfl (by simp) | ((conv => whnf); first | exact trivial | exact rfl | exact .inr rfl | exact .inl ⟨rfl, rfl⟩ | apply And.intro) | refine tl_int ?_ | refine tl_bool ?_ | refine tl_str ?_ | refine tl_row rfl ?_ | exact cl_ints _ | exact cl_txts _ | exact cl_nds _ | exact cl_mp _ | exact Nat.succ_pos _ | exact pl_ints _ | exact pl_txts _ | exact pl_nds _ | with_reducible refine tl_f ?_)
    | false =>
      have h1 := h1 rfl
      rw [hd] at h1
      (conv => whnf)
      refine ⟨(i, intE l[i]), ⟨rfl, by simp [hi]⟩, ?_⟩
      (conv => whnf)
      refine ⟨fun k => ?_, fun k => ?_⟩
      · have h1' : out ++ n :: l[i] :: l.drop (i + 1) = riseF l n := by rw [← h1, riseF, if_pos k]
        have hol2 : out.length + 2 ≤ l.length + 1 := by
          have := congrArg List.length h1'
          rw [List.length_append, List.length_cons, List.length_cons] at this; omega
        (conv => whnf)
        refine ⟨(out ++ [n]).map intW, ⟨app_one intW out _, by simp; omega⟩, ?_⟩
        (conv => whnf)
        refine ⟨(i, intE l[i]), ⟨rfl, by simp [hi]⟩, ?_⟩
        (conv => whnf)
        refine ⟨(out ++ [n] ++ [l[i]]).map intW, ⟨?_, by simp; omega⟩, ?_⟩
        · rw [List.take_of_length_le (Nat.le_refl _)]; simp
        (conv => whnf)
        refine ⟨m - 1, [], [(3, 576)], [(7, .val false [.f (iL (i + 1 : Nat))]), (6, .val false [.f (bL true)]), (5, .val false [.row 3 0 (out ++ [n] ++ [l[i]]).length]), (1, .val false [.f (iL n)]), (0, .val false [.f (ints l)])], [(3, some ⟨0, 1, (out ++ [n] ++ [l[i]]).map intW⟩)], by omega, ⟨?_, ?_, ?_⟩, i + 1, out ++ [n] ++ [l[i]], true, by omega, (fun h => by cases h), (fun _ => by rw [← h1']; simp), rfl, rfl⟩
        · rfl
        · (repeat' first | exact trivial | exact rfl | exact tl_pv rfl rfl rfl (List.cons_ne_nil _ _) | exact ⟨_, rfl, frzC_map _⟩ | exact tl_ints rfl rfl rfl (by simp) | exact tl_txts rfl rfl rfl (by simp) | exact tl_nds rfl rfl rfl (by simp) | ((conv => whnf); first | exact trivial | exact rfl | exact .inr rfl | exact .inl ⟨rfl, rfl⟩ | apply And.intro) | refine tl_int ?_ | refine tl_bool ?_ | refine tl_str ?_ | refine tl_row rfl ?_ | exact cl_ints _ | exact cl_txts _ | exact cl_nds _ | exact cl_mp _ | exact Nat.succ_pos _ | exact pl_ints _ | exact pl_txts _ | exact pl_nds _ | with_reducible refine tl_f ?_)
          · exact wrap_suc (by omega)
          · simp
        · (repeat' first | exact trivial | exact rfl | exact tl_pv rfl rfl rfl (List.cons_ne_nil _ _) | exact ⟨_, rfl, frzC_map _⟩ | exact tl_ints rfl rfl rfl (by simp) | exact tl_txts rfl rfl rfl (by simp) | exact tl_nds rfl rfl rfl (by simp) | ((conv => whnf); first | exact trivial | exact rfl | exact .inr rfl | exact .inl ⟨rfl, rfl⟩ | apply And.intro) | refine tl_int ?_ | refine tl_bool ?_ | refine tl_str ?_ | refine tl_row rfl ?_ | exact cl_ints _ | exact cl_txts _ | exact cl_nds _ | exact cl_mp _ | exact Nat.succ_pos _ | exact pl_ints _ | exact pl_txts _ | exact pl_nds _ | with_reducible refine tl_f ?_)
      · have h1' : out ++ [l[i]] ++ riseF (l.drop (i + 1)) n = riseF l n := by rw [← h1, riseF, if_neg k]; simp
        have hol2 : out.length + 1 ≤ l.length + 1 := by
          have := congrArg List.length h1'
          rw [List.length_append, List.length_append, List.length_singleton] at this; omega
        (conv => whnf)
        refine ⟨(i, intE l[i]), ⟨rfl, by simp [hi]⟩, ?_⟩
        (conv => whnf)
        refine ⟨(out ++ [l[i]]).map intW, ⟨app_one intW out _, by simp; omega⟩, ?_⟩
        (conv => whnf)
        refine ⟨m - 1, [], [(3, 576)], [(7, .val false [.f (iL (i + 1 : Nat))]), (6, .val false [.f (bL false)]), (5, .val false [.row 3 0 (out ++ [l[i]]).length]), (1, .val false [.f (iL n)]), (0, .val false [.f (ints l)])], [(3, some ⟨0, 1, (out ++ [l[i]]).map intW⟩)], by omega, ⟨?_, ?_, ?_⟩, i + 1, out ++ [l[i]], false, by omega, (fun _ => h1'), (fun h => by cases h), rfl, rfl⟩
        · rfl
        · (repeat' first | exact trivial | exact rfl | exact tl_pv rfl rfl rfl (List.cons_ne_nil _ _) | exact ⟨_, rfl, frzC_map _⟩ | exact tl_ints rfl rfl rfl (by simp) | exact tl_txts rfl rfl rfl (by simp) | exact tl_nds rfl rfl rfl (by simp) | ((conv => whnf); first | exact trivial | exact rfl | exact .inr rfl | exact .inl ⟨rfl, rfl⟩ | apply And.intro) | refine tl_int ?_ | refine tl_bool ?_ | refine tl_str ?_ | refine tl_row rfl ?_ | exact cl_ints _ | exact cl_txts _ | exact cl_nds _ | exact cl_mp _ | exact Nat.succ_pos _ | exact pl_ints _ | exact pl_txts _ | exact pl_nds _ | with_reducible refine tl_f ?_)
          · exact wrap_suc (by omega)
          · simp
        · (repeat' first | exact trivial | exact rfl | exact tl_pv rfl rfl rfl (List.cons_ne_nil _ _) | exact ⟨_, rfl, frzC_map _⟩ | exact tl_ints rfl rfl rfl (by simp) | exact tl_txts rfl rfl rfl (by simp) | exact tl_nds rfl rfl rfl (by simp) | ((conv => whnf); first | exact trivial | exact rfl | exact .inr rfl | exact .inl ⟨rfl, rfl⟩ | apply And.intro) | refine tl_int ?_ | refine tl_bool ?_ | refine tl_str ?_ | refine tl_row rfl ?_ | exact cl_ints _ | exact cl_txts _ | exact cl_nds _ | exact cl_mp _ | exact Nat.succ_pos _ | exact pl_ints _ | exact pl_txts _ | exact pl_nds _ | with_reducible refine tl_f ?_)
  · have hi : l.length ≤ i := by simpa using h
    have hd := List.drop_eq_nil_of_le hi
    cases done with
    | true =>
      have h2 := h2 rfl
      rw [hd, List.append_nil] at h2
      subst h2
      (conv => whnf)
      refine ⟨[], [(1000, 3)], ?_⟩
      (repeat' first | exact trivial | exact rfl | exact tl_pv rfl rfl rfl (List.cons_ne_nil _ _) | exact ⟨_, rfl, frzC_map _⟩ | exact tl_ints rfl rfl rfl (by simp) | exact tl_txts rfl rfl rfl (by simp) | exact tl_nds rfl rfl rfl (by simp) | ((conv => whnf); first | exact trivial | exact rfl | exact .inr rfl | exact .inl ⟨rfl, rfl⟩ | apply And.intro) | refine tl_int ?_ | refine tl_bool ?_ | refine tl_str ?_ | refine tl_row rfl ?_ | exact cl_ints _ | exact cl_txts _ | exact cl_nds _ | exact cl_mp _ | exact Nat.succ_pos _ | exact pl_ints _ | exact pl_txts _ | exact pl_nds _ | with_reducible refine tl_f ?_)
    | false =>
      have h1 := h1 rfl
      rw [hd, riseF] at h1
      rw [← h1]
      (conv => whnf)
      refine ⟨(out ++ [n]).map intW, ⟨app_one intW out _, by simp; omega⟩, ?_⟩
      (conv => whnf)
      refine ⟨[], [(1000, 672)], ?_⟩
      (repeat' first | exact trivial | exact rfl | exact tl_pv rfl rfl rfl (List.cons_ne_nil _ _) | exact ⟨_, rfl, frzC_map _⟩ | exact tl_ints rfl rfl rfl (by simp) | exact tl_txts rfl rfl rfl (by simp) | exact tl_nds rfl rfl rfl (by simp) | ((conv => whnf); first | exact trivial | exact rfl | exact .inr rfl | exact .inl ⟨rfl, rfl⟩ | apply And.intro) | refine tl_int ?_ | refine tl_bool ?_ | refine tl_str ?_ | refine tl_row rfl ?_ | exact cl_ints _ | exact cl_txts _ | exact cl_nds _ | exact cl_mp _ | exact Nat.succ_pos _ | exact pl_ints _ | exact pl_txts _ | exact pl_nds _ | with_reducible refine tl_f ?_)
      all_goals simp
end Go.Proofs.YtchfpgpboifbeaaGreat.Ac
namespace Go.Proofs
open Go.Shelf
def Tryz.lays189_ren : Go.Shelf.Ren := ⟨fun | 189 => 249 | 125 => 294 | 257 => 293 | 128 => 311 | 129 => 312 | 294 => 302 | 295 => 303 | 296 => 304 | 297 => 305 | 298 => 306 | 299 => 307 | 216 => 308 | 300 => 309 | 301 => 310 | 328 => 314 | 329 => 315 | 330 => 316 | 331 => 317 | 332 => 318 | 215 => 300 | 343 => 319 | n => n, fun | 28 => 54 | 3 => 3 | 46 => 257 | 0 => 0 | 51 => 274 | 53 => 276 | 4 => 4 | 183 => 268 | 182 => 267 | 131 => 238 | 5 => 5 | 9 => 9 | 218 => 278 | 222 => 282 | 228 => 284 | 229 => 104 | n => n, fun | n => n⟩
theorem Tryz.lays189 : Go.Proofs.Lays.n189 Tryz.prog Tryz.lays189_ren := {
  mixed := by kernel_rfl
  f125 := Tryz.func294.trans (congrArg some (by kernel_rfl))
  f128 := Tryz.func311.trans (congrArg some (by kernel_rfl))
  f129 := Tryz.func312.trans (congrArg some (by kernel_rfl))
  f189 := Tryz.func249.trans (congrArg some (by kernel_rfl))
  f215 := Tryz.func300.trans (congrArg some (by kernel_rfl))
  f216 := Tryz.func308.trans (congrArg some (by kernel_rfl))
  f257 := Tryz.func293.trans (congrArg some (by kernel_rfl))
  f294 := Tryz.func302.trans (congrArg some (by kernel_rfl))
  f295 := Tryz.func303.trans (congrArg some (by kernel_rfl))
  f296 := Tryz.func304.trans (congrArg some (by kernel_rfl))
  f297 := Tryz.func305.trans (congrArg some (by kernel_rfl))
  f298 := Tryz.func306.trans (congrArg some (by kernel_rfl))
  f299 := Tryz.func307.trans (congrArg some (by kernel_rfl))
  f300 := Tryz.func309.trans (congrArg some (by kernel_rfl))
  f301 := Tryz.func310.trans (congrArg some (by kernel_rfl))
  f328 := Tryz.func314.trans (congrArg some (by kernel_rfl))
  f329 := Tryz.func315.trans (congrArg some (by kernel_rfl))
  f330 := Tryz.func316.trans (congrArg some (by kernel_rfl))
  f331 := Tryz.func317.trans (congrArg some (by kernel_rfl))
  f332 := Tryz.func318.trans (congrArg some (by kernel_rfl))
  f343 := Tryz.func319.trans (congrArg some (by kernel_rfl))
  t0 := Tryz.underlying0
  a0 := Tryz.isAgg0
  z0 := Tryz.sizeOf0
  v0 := Tryz.zeroValue0
  t3 := Tryz.underlying3
  a3 := Tryz.isAgg3
  z3 := Tryz.sizeOf3
  v3 := Tryz.zeroValue3
  t4 := Tryz.underlying4
  a4 := Tryz.isAgg4
  z4 := Tryz.sizeOf4
  v4 := Tryz.zeroValue4
  t5 := Tryz.underlying5
  a5 := Tryz.isAgg5
  z5 := Tryz.sizeOf5
  v5 := Tryz.zeroValue5
  t9 := Tryz.underlying9
  a9 := Tryz.isAgg9
  z9 := Tryz.sizeOf9
  v9 := Tryz.zeroValue9
  t28 := Tryz.underlying54
  a28 := Tryz.isAgg54
  z28 := Tryz.sizeOf54
  v28 := Tryz.zeroValue54
  t46 := Tryz.underlying257
  a46 := Tryz.isAgg257
  z46 := Tryz.sizeOf257
  v46 := Tryz.zeroValue257
  t51 := Tryz.underlying274
  a51 := Tryz.isAgg274
  z51 := Tryz.sizeOf274
  v51 := Tryz.zeroValue274
  t53 := Tryz.underlying276
  a53 := Tryz.isAgg276
  z53 := Tryz.sizeOf276
  v53 := Tryz.zeroValue276
  t131 := Tryz.underlying238
  a131 := Tryz.isAgg238
  z131 := Tryz.sizeOf238
  v131 := Tryz.zeroValue238
  t182 := Tryz.underlying267
  a182 := Tryz.isAgg267
  z182 := Tryz.sizeOf267
  v182 := Tryz.zeroValue267
  t183 := Tryz.underlying268
  a183 := Tryz.isAgg268
  z183 := Tryz.sizeOf268
  v183 := Tryz.zeroValue268
  t218 := Tryz.underlying278
  a218 := Tryz.isAgg278
  z218 := Tryz.sizeOf278
  v218 := Tryz.zeroValue278
  t222 := Tryz.underlying282
  a222 := Tryz.isAgg282
  z222 := Tryz.sizeOf282
  v222 := Tryz.zeroValue282
  t228 := Tryz.underlying284
  a228 := Tryz.isAgg284
  z228 := Tryz.sizeOf284
  v228 := Tryz.zeroValue284
  t229 := Tryz.underlying104
  a229 := Tryz.isAgg104
  z229 := Tryz.sizeOf104
  v229 := Tryz.zeroValue104 }
open Go.Sort Go.RowKit in
theorem Tryz.slices_Sort_int (blk off cap : Nat) (zs : List Int) (w : World) (hH : Holds (Value.int .i64) w blk off zs.toArray) (hblk : blk < w.heap.size) (hsz : zs.length < 4611686018427387904) :
    Calls Tryz.prog 249 #[.slice (some ⟨blk, off, none⟩) zs.length cap] w fun e w' =>
      e = .returned (.tuple #[]) ∧ ∃ n os, w' = grow (putRow (Value.int .i64) (Sort.ahead w n) blk off (zs.mergeSort fun x y => decide (x ≤ y)).toArray) os := Any.slices_Sort_int Tryz.lays189 blk off cap zs w hH hblk hsz
open Go.RowKit Go.Sort in
theorem Tryz.slices_Sort_int_none (p : Option Addr) (cap : Nat) (w : World) :
    Calls Tryz.prog 249 #[.slice p 0 cap] w fun e w' => e = .returned (.tuple #[]) ∧ w' = w := Any.slices_Sort_int_none Tryz.lays189 p cap w
end Go.Proofs
