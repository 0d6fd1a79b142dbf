/- Several of our texts, one behind the other, without what this claim does not need: Wo, Tv, Wu, ShSrt, Ws, Tu. -/
import Derived.Test.YtecnmodeggnjoaaGreatZ2e4902f1
import Derived.Test.YtecnmodeggnjoaaGreatZb0c9fef1
import Derived.Test.YtecnmodeggnjoaaGreatZe0d619a2
import Derived.Shelf.Sort.Plain
import Derived.Ground.Names2Prog
import Derived.Shelf.Slices.In.SortNone
import Derived.Test.YtecnmodeggnjoaaGreatProg
set_option linter.unusedVariables false
set_option linter.unusedSimpArgs false
set_option maxRecDepth 20000
set_option maxHeartbeats 2000000
namespace Go.Proofs.YtecnmodeggnjoaaGreat.Ac
open Go.RowKit
theorem cp_ints (l : List Int) : cpE (((l.map intW).take l.length).drop 0) = l.map intW := by
  rw [List.take_of_length_le (by simp), List.drop_zero]
  unfold cpE
  rw [List.map_map]
  rfl
theorem l02Order_ok (d : Dc) (hlen : d.nodes.length < 2 ^ 62) (hks : ∀ n ∈ d.nodes, n.kids.length < 2 ^ 62) : ∀ (k : Nat) (id : Int), Fits d.nodes k id → (orderF d.nodes k id).length < 2 ^ 30 →
    FC Tryz.prog 234 [(true, dcL d), (false, [iL id])] [(1000, some ⟨0, 1, (orderF d.nodes k id).map intW⟩)] [(false, [.row 1000 0 (orderF d.nodes k id).length])]
  | 0, id, hf, _ => hf.elim
  | k + 1, id, hf, hb => by
    obtain ⟨n, hn, hfk⟩ := hf
    have ih := l02Order_ok d hlen hks k
    have hat := l02At_ok d id hlen
    obtain ⟨x, hx, ex, exn⟩ := at_some hn
    rw [ex] at hat
    have ho : orderF d.nodes (k + 1) id = id :: n.kids.flatMap (orderF d.nodes k) := by simp only [orderF, kidsAt, hn, Option.map_some, Option.getD_some]
    rw [ho] at hb ⊢
    have hnk := hks n (ndAt_mem hn).1
    refine en Tryz.func234 Tryz.ntmps234 (⟨cl_ints _, trivial⟩) ?_
    refine nw ?_
    refine ⟨by kernel_rfl, ?_⟩
    refine nw ?_
    refine ⟨([], _), hat, ?_⟩
    refine nw ?_
    refine ⟨(x, ndL n), ⟨rfl, by simp [hx, exn]⟩, ?_⟩
    refine nw ?_
    refine ⟨by kernel_rfl, ?_⟩
    refine nw ?_
    refine ⟨fun (m : Nat) (es : Es) (hs : Hs) => ∃ i : Nat, m + i = n.kids.length ∧ es = [(7, .val false [.f (iL i)]), (6, .val false [.f (ints n.kids)]), (5, .val false [.row 3 0 (id :: (n.kids.take i).flatMap (orderF d.nodes k)).length]), (2, .val false [.pt 48 0 0])] ∧ hs = [(3, some ⟨0, 1, (id :: (n.kids.take i).flatMap (orderF d.nodes k)).map intW⟩), (48, some ⟨3, 3, [(dcL d).map .f]⟩)],
      ⟨n.kids.length, [], [(3, 160)], _, _, ⟨?_, ?_, ?_⟩, 0, rfl, rfl, rfl⟩, ?_⟩
    · rfl
    · exact tel
    · exact tel
    rintro m es hs ⟨i, hm, rfl, rfl⟩
    refine nw ?_
    refine ⟨fun h => ?_, fun h => ?_⟩
    · have hi : i < n.kids.length := by simpa using h
      have hsp : n.kids.flatMap (orderF d.nodes k) = (n.kids.take i).flatMap (orderF d.nodes k) ++ (orderF d.nodes k n.kids[i] ++ (n.kids.drop (i + 1)).flatMap (orderF d.nodes k)) := by
        conv => lhs; rw [← List.take_append_drop i n.kids, List.drop_eq_getElem_cons hi]
        rw [List.flatMap_append, List.flatMap_cons]
      have hst : id :: (n.kids.take (i + 1)).flatMap (orderF d.nodes k) = (id :: (n.kids.take i).flatMap (orderF d.nodes k)) ++ orderF d.nodes k n.kids[i] := by
        rw [List.take_succ_eq_append_getElem hi, List.flatMap_append]; simp
      rw [hsp] at hb
      simp only [List.length_append, List.length_cons] at hb
      have hc := ih n.kids[i] (hfk _ (List.getElem_mem _)) (by omega)
      refine nw ?_
      refine ⟨by kernel_rfl, ?_⟩
      refine nw ?_
      refine ⟨(i, intE n.kids[i]), ⟨rfl, by simp [hi]⟩, ?_⟩
      refine nw ?_
      refine ⟨(_, _), hc, ?_⟩
      refine nw ?_
      refine ⟨(orderF d.nodes k n.kids[i]).map intW, cp_ints _, ?_⟩
      refine nw ?_
      refine ⟨((id :: (n.kids.take i).flatMap (orderF d.nodes k)) ++ orderF d.nodes k n.kids[i]).map intW, ⟨app_row intW _ _, by simp only [List.length_map, List.length_append, List.length_cons]; omega⟩, ?_⟩
      refine nw ?_
      refine ⟨by kernel_rfl, ?_⟩
      refine nw ?_
      refine ⟨m - 1, [], [(3, 512)], [(7, .val false [.f (iL (i + 1 : Nat))]), (6, .val false [.f (ints n.kids)]), (5, .val false [.row 3 0 (id :: (n.kids.take (i + 1)).flatMap (orderF d.nodes k)).length]), (2, .val false [.pt 48 0 0])], [(3, some ⟨0, 1, (id :: (n.kids.take (i + 1)).flatMap (orderF d.nodes k)).map intW⟩), (48, some ⟨3, 3, [(dcL d).map .f]⟩)], by omega, ⟨?_, ?_, ?_⟩, i + 1, by omega, rfl, rfl⟩
      · rfl
      · refine tel2 ?_ ?_
        · exact wrap_suc (by omega)
        · rw [hst]; simp
      · refine tel1 ?_
        dsimp only
        rw [hst]
    · have hi : n.kids.length ≤ i := by simpa using h
      rw [List.take_of_length_le hi]
      refine nw ?_
      refine ⟨[], [(1000, 3)], ?_⟩
      exact tel
end Go.Proofs.YtecnmodeggnjoaaGreat.Ac
set_option linter.unusedVariables false
set_option linter.unusedSimpArgs false
namespace Go.Proofs.YtecnmodeggnjoaaGreat.Ac
theorem Fits.mono {l : List Nd} : ∀ {k : Nat} {id : Int}, Fits l k id → Fits l (k + 1) id
  | 0, _, h => h.elim
  | k + 1, id, ⟨n, hn, h⟩ => ⟨n, hn, fun c hc => (h c hc).mono⟩
theorem Fits.sub {l : List Nd} : ∀ {k : Nat} {id x : Int}, Fits l k id → x ∈ orderF l k id → Fits l k x
  | 0, _, _, h, _ => h.elim
  | k + 1, id, x, ⟨n, hn, h⟩, hx => by
    rw [orderF, kidsAt_some hn, List.mem_cons] at hx
    rcases hx with rfl | hx
    · exact ⟨n, hn, h⟩
    · obtain ⟨c, hc, hx⟩ := List.mem_flatMap.1 hx
      exact ((h c hc).sub hx).mono
theorem ord_depth {root : Int} {l : List Nd} (hT : Tree root l) : ∀ (m : Nat) (id x : Int), (ndAt l id).isSome → x ∈ orderF l m id → ∃ s, s < m ∧ upP l s x = id
  | 0, id, x, _, h => by simp [orderF] at h
  | m + 1, id, x, hh, h => by
    rw [orderF, List.mem_cons] at h
    rcases h with rfl | h
    · exact ⟨0, by omega, rfl⟩
    · obtain ⟨k, hk, hx⟩ := List.mem_flatMap.1 h
      obtain ⟨h1, h2⟩ := kid_par hT hh hk
      obtain ⟨s, hs, hu⟩ := ord_depth hT m k x h2 hx
      exact ⟨s + 1, by omega, by rw [up_succ, hu, h1]⟩
theorem DOK.all {d : Dc} (h : DOK d) {x : Int} (hx : (ndAt d.nodes x).isSome) : x ∈ orderF d.nodes 6 d.root := by
  have hT := h.tree
  have hnd := ord_nodup hT 6 d.root hT.top ⟨0, rfl⟩
  have hsub : ∀ x ∈ orderF d.nodes 6 d.root, x ∈ d.nodes.map (·.id) := fun x hx => by
    obtain ⟨_, _, hp⟩ := ord_up hT 6 d.root x hT.top hx
    obtain ⟨n, hn⟩ := Option.isSome_iff_exists.1 hp
    obtain ⟨h1, rfl⟩ := ndAt_mem hn
    exact List.mem_map.2 ⟨_, h1, rfl⟩
  obtain ⟨n, hn⟩ := Option.isSome_iff_exists.1 hx
  obtain ⟨h1, rfl⟩ := ndAt_mem hn
  exact sub_eq hnd hsub (by rw [List.length_map, h.2.2.2.2.2]; exact Nat.le_refl _) n.id (List.mem_map.2 ⟨_, h1, rfl⟩)
theorem DOK.up {d : Dc} (h : DOK d) {x : Int} (hx : (ndAt d.nodes x).isSome) : upP d.nodes 7 x = 0 := by
  obtain ⟨s, hs, hu⟩ := ord_depth h.tree 6 d.root x h.tree.top (h.all hx)
  rw [show 7 = s + (1 + (6 - s)) by omega, up_add, hu, up_add]
  show upP d.nodes (6 - s) (parP d.nodes d.root) = 0
  rw [par_root h.tree]
  exact up_zero h.tree _
theorem DOK.par0 {d : Dc} (h : DOK d) : parP d.nodes 0 = 0 := par_zero h.tree
theorem mem_ups {l : List Nd} (h0 : parP l 0 = 0) {t : Int} (ht : t ≠ 0) : ∀ (s : Nat) (x : Int), t ∈ upsF l s x ↔ ∃ j, j < s ∧ upP l j x = t
  | 0, x => by simp [upsF]
  | s + 1, x => by
    have hz : ∀ j, upP l j 0 = 0 := fun j => by
      induction j with
      | zero => rfl
      | succ j ih => show upP l j (parP l 0) = 0; rw [h0]; exact ih
    simp only [upsF]
    by_cases hx : x = 0
    · rw [if_pos hx]
      subst hx
      constructor
      · intro h; simp at h
      · rintro ⟨j, _, hj⟩; rw [hz] at hj; exact absurd hj.symm ht
    · rw [if_neg hx, List.mem_cons, mem_ups h0 ht s (parP l x)]
      constructor
      · rintro (rfl | ⟨j, hj, hu⟩)
        · exact ⟨0, by omega, rfl⟩
        · exact ⟨j + 1, by omega, hu⟩
      · rintro ⟨j, hj, hu⟩
        cases j with
        | zero => exact .inl hu.symm
        | succ j => exact .inr ⟨j, by omega, hu⟩
end Go.Proofs.YtecnmodeggnjoaaGreat.Ac
set_option linter.unusedVariables false
set_option linter.unusedSimpArgs false
set_option maxRecDepth 20000
set_option maxHeartbeats 2000000
namespace Go.Proofs.YtecnmodeggnjoaaGreat.Ac
open Go.RowKit
def riseF : List Int → Int → List Int
  | [], n => [n]
  | x :: l, n => if x > n then n :: x :: l else x :: riseF l n
theorem riseF_len (n : Int) : ∀ l : List Int, (riseF l n).length = l.length + 1
  | [] => rfl
  | x :: l => by
    simp only [riseF]
    split
    · rfl
    · simp [riseF_len n l]
theorem rise_ok (l : List Int) (n : Int) (hlen : l.length < 2 ^ 29) : FC Tryz.prog 246 [(false, [ints l]), (false, [iL n])] [(1000, some ⟨0, 1, (riseF l n).map intW⟩)] [(false, [.row 1000 0 (riseF l n).length])] := by
  have hrl := riseF_len n l
  refine en Tryz.func246 Tryz.ntmps246 (⟨cl_ints _, trivial⟩) ?_
  refine nw ?_
  refine ⟨fun (m : Nat) (es : Es) (hs : Hs) => ∃ (i : Nat) (out : List Int) (done : Bool), m + i = l.length ∧ (done = false → out ++ riseF (l.drop i) n = riseF l n) ∧ (done = true → out ++ l.drop i = riseF l n) ∧ es = [(7, .val false [.f (iL i)]), (6, .val false [.f (bL done)]), (5, .val false [.row 3 0 out.length]), (1, .val false [.f (iL n)]), (0, .val false [.f (ints l)])] ∧ hs = [(3, some ⟨0, 1, out.map intW⟩)],
    ⟨l.length, [], [(3, 144)], _, _, ⟨?_, ?_, ?_⟩, 0, [], false, rfl, fun _ => rfl, (fun h => by cases h), rfl, rfl⟩, ?_⟩
  · rfl
  · exact tel
  · exact tel
  rintro m es hs ⟨i, out, done, hm, h1, h2, rfl, rfl⟩
  have hol : out.length ≤ l.length + 1 := by
    cases done with
    | false => have := congrArg List.length (h1 rfl); rw [List.length_append] at this; omega
    | true => have := congrArg List.length (h2 rfl); rw [List.length_append] at this; omega
  refine nw ?_
  refine ⟨fun h => ?_, fun h => ?_⟩
  · have hi : i < l.length := by simpa using h
    have hd := List.drop_eq_getElem_cons hi
    cases done with
    | true =>
      have h2 := h2 rfl
      rw [hd] at h2
      refine nw ?_
      refine ⟨(i, intE l[i]), ⟨rfl, by simp [hi]⟩, ?_⟩
      refine nw ?_
      refine ⟨(out ++ [l[i]]).map intW, ⟨app_one intW out _, by simp; omega⟩, ?_⟩
      refine nw ?_
      refine ⟨m - 1, [], [(3, 576)], [(7, .val false [.f (iL (i + 1 : Nat))]), (6, .val false [.f (bL true)]), (5, .val false [.row 3 0 (out ++ [l[i]]).length]), (1, .val false [.f (iL n)]), (0, .val false [.f (ints l)])], [(3, some ⟨0, 1, (out ++ [l[i]]).map intW⟩)], by omega, ⟨?_, ?_, ?_⟩, i + 1, out ++ [l[i]], true, by omega, (fun h => by cases h), (fun _ => by rw [List.append_assoc]; exact h2), rfl, rfl⟩
      · rfl
      · refine tel2 ?_ ?_
        · exact wrap_suc (by omega)
        · simp
      · exact tel
    | false =>
      have h1 := h1 rfl
      rw [hd] at h1
      refine nw ?_
      refine ⟨(i, intE l[i]), ⟨rfl, by simp [hi]⟩, ?_⟩
      refine nw ?_
      refine ⟨fun k => ?_, fun k => ?_⟩
      · have h1' : out ++ n :: l[i] :: l.drop (i + 1) = riseF l n := by rw [← h1, riseF, if_pos k]
        have hol2 : out.length + 2 ≤ l.length + 1 := by
          have := congrArg List.length h1'
          rw [List.length_append, List.length_cons, List.length_cons] at this; omega
        refine nw ?_
        refine ⟨(out ++ [n]).map intW, ⟨app_one intW out _, by simp; omega⟩, ?_⟩
        refine nw ?_
        refine ⟨(i, intE l[i]), ⟨rfl, by simp [hi]⟩, ?_⟩
        refine nw ?_
        refine ⟨(out ++ [n] ++ [l[i]]).map intW, ⟨?_, by simp; omega⟩, ?_⟩
        · rw [List.take_of_length_le (Nat.le_refl _)]; simp
        refine nw ?_
        refine ⟨m - 1, [], [(3, 576)], [(7, .val false [.f (iL (i + 1 : Nat))]), (6, .val false [.f (bL true)]), (5, .val false [.row 3 0 (out ++ [n] ++ [l[i]]).length]), (1, .val false [.f (iL n)]), (0, .val false [.f (ints l)])], [(3, some ⟨0, 1, (out ++ [n] ++ [l[i]]).map intW⟩)], by omega, ⟨?_, ?_, ?_⟩, i + 1, out ++ [n] ++ [l[i]], true, by omega, (fun h => by cases h), (fun _ => by rw [← h1']; simp), rfl, rfl⟩
        · rfl
        · refine tel2 ?_ ?_
          · exact wrap_suc (by omega)
          · simp
        · exact tel
      · have h1' : out ++ [l[i]] ++ riseF (l.drop (i + 1)) n = riseF l n := by rw [← h1, riseF, if_neg k]; simp
        have hol2 : out.length + 1 ≤ l.length + 1 := by
          have := congrArg List.length h1'
          rw [List.length_append, List.length_append, List.length_singleton] at this; omega
        refine nw ?_
        refine ⟨(i, intE l[i]), ⟨rfl, by simp [hi]⟩, ?_⟩
        refine nw ?_
        refine ⟨(out ++ [l[i]]).map intW, ⟨app_one intW out _, by simp; omega⟩, ?_⟩
        refine nw ?_
        refine ⟨m - 1, [], [(3, 576)], [(7, .val false [.f (iL (i + 1 : Nat))]), (6, .val false [.f (bL false)]), (5, .val false [.row 3 0 (out ++ [l[i]]).length]), (1, .val false [.f (iL n)]), (0, .val false [.f (ints l)])], [(3, some ⟨0, 1, (out ++ [l[i]]).map intW⟩)], by omega, ⟨?_, ?_, ?_⟩, i + 1, out ++ [l[i]], false, by omega, (fun _ => h1'), (fun h => by cases h), rfl, rfl⟩
        · rfl
        · refine tel2 ?_ ?_
          · exact wrap_suc (by omega)
          · simp
        · exact tel
  · have hi : l.length ≤ i := by simpa using h
    have hd := List.drop_eq_nil_of_le hi
    cases done with
    | true =>
      have h2 := h2 rfl
      rw [hd, List.append_nil] at h2
      subst h2
      refine nw ?_
      refine ⟨[], [(1000, 3)], ?_⟩
      exact tel
    | false =>
      have h1 := h1 rfl
      rw [hd, riseF] at h1
      rw [← h1]
      refine nw ?_
      refine ⟨(out ++ [n]).map intW, ⟨app_one intW out _, by simp; omega⟩, ?_⟩
      refine nw ?_
      refine ⟨[], [(1000, 672)], ?_⟩
      refine tel1 ?_
      all_goals simp
end Go.Proofs.YtecnmodeggnjoaaGreat.Ac
namespace Go.Proofs
open Go.Shelf
def Tryz.lays189_ren : Go.Shelf.Ren := ⟨fun | 189 => 256 | 125 => 323 | 257 => 322 | 128 => 368 | 129 => 369 | 294 => 359 | 295 => 360 | 296 => 361 | 297 => 362 | 298 => 363 | 299 => 364 | 216 => 365 | 300 => 366 | 301 => 367 | 328 => 386 | 329 => 387 | 330 => 388 | 331 => 389 | 332 => 390 | 215 => 357 | 343 => 394 | n => n, fun | 28 => 33 | 3 => 3 | 46 => 293 | 0 => 0 | 51 => 334 | 53 => 336 | 4 => 4 | 183 => 328 | 182 => 327 | 131 => 259 | 5 => 5 | 9 => 9 | 218 => 347 | 222 => 351 | 228 => 355 | 229 => 113 | n => n, fun | n => n⟩
theorem Tryz.lays189 : Go.Proofs.Lays.n189 Tryz.prog Tryz.lays189_ren := {
  mixed := by kernel_rfl
  f125 := Tryz.func323.trans (congrArg some (by kernel_rfl))
  f128 := Tryz.func368.trans (congrArg some (by kernel_rfl))
  f129 := Tryz.func369.trans (congrArg some (by kernel_rfl))
  f189 := Tryz.func256.trans (congrArg some (by kernel_rfl))
  f215 := Tryz.func357.trans (congrArg some (by kernel_rfl))
  f216 := Tryz.func365.trans (congrArg some (by kernel_rfl))
  f257 := Tryz.func322.trans (congrArg some (by kernel_rfl))
  f294 := Tryz.func359.trans (congrArg some (by kernel_rfl))
  f295 := Tryz.func360.trans (congrArg some (by kernel_rfl))
  f296 := Tryz.func361.trans (congrArg some (by kernel_rfl))
  f297 := Tryz.func362.trans (congrArg some (by kernel_rfl))
  f298 := Tryz.func363.trans (congrArg some (by kernel_rfl))
  f299 := Tryz.func364.trans (congrArg some (by kernel_rfl))
  f300 := Tryz.func366.trans (congrArg some (by kernel_rfl))
  f301 := Tryz.func367.trans (congrArg some (by kernel_rfl))
  f328 := Tryz.func386.trans (congrArg some (by kernel_rfl))
  f329 := Tryz.func387.trans (congrArg some (by kernel_rfl))
  f330 := Tryz.func388.trans (congrArg some (by kernel_rfl))
  f331 := Tryz.func389.trans (congrArg some (by kernel_rfl))
  f332 := Tryz.func390.trans (congrArg some (by kernel_rfl))
  f343 := Tryz.func394.trans (congrArg some (by kernel_rfl))
  t0 := Tryz.underlying0
  a0 := Tryz.isAgg0
  z0 := Tryz.sizeOf0
  v0 := Tryz.zeroValue0
  t3 := Tryz.underlying3
  a3 := Tryz.isAgg3
  z3 := Tryz.sizeOf3
  v3 := Tryz.zeroValue3
  t4 := Tryz.underlying4
  a4 := Tryz.isAgg4
  z4 := Tryz.sizeOf4
  v4 := Tryz.zeroValue4
  t5 := Tryz.underlying5
  a5 := Tryz.isAgg5
  z5 := Tryz.sizeOf5
  v5 := Tryz.zeroValue5
  t9 := Tryz.underlying9
  a9 := Tryz.isAgg9
  z9 := Tryz.sizeOf9
  v9 := Tryz.zeroValue9
  t28 := Tryz.underlying33
  a28 := Tryz.isAgg33
  z28 := Tryz.sizeOf33
  v28 := Tryz.zeroValue33
  t46 := Tryz.underlying293
  a46 := Tryz.isAgg293
  z46 := Tryz.sizeOf293
  v46 := Tryz.zeroValue293
  t51 := Tryz.underlying334
  a51 := Tryz.isAgg334
  z51 := Tryz.sizeOf334
  v51 := Tryz.zeroValue334
  t53 := Tryz.underlying336
  a53 := Tryz.isAgg336
  z53 := Tryz.sizeOf336
  v53 := Tryz.zeroValue336
  t131 := Tryz.underlying259
  a131 := Tryz.isAgg259
  z131 := Tryz.sizeOf259
  v131 := Tryz.zeroValue259
  t182 := Tryz.underlying327
  a182 := Tryz.isAgg327
  z182 := Tryz.sizeOf327
  v182 := Tryz.zeroValue327
  t183 := Tryz.underlying328
  a183 := Tryz.isAgg328
  z183 := Tryz.sizeOf328
  v183 := Tryz.zeroValue328
  t218 := Tryz.underlying347
  a218 := Tryz.isAgg347
  z218 := Tryz.sizeOf347
  v218 := Tryz.zeroValue347
  t222 := Tryz.underlying351
  a222 := Tryz.isAgg351
  z222 := Tryz.sizeOf351
  v222 := Tryz.zeroValue351
  t228 := Tryz.underlying355
  a228 := Tryz.isAgg355
  z228 := Tryz.sizeOf355
  v228 := Tryz.zeroValue355
  t229 := Tryz.underlying113
  a229 := Tryz.isAgg113
  z229 := Tryz.sizeOf113
  v229 := Tryz.zeroValue113 }
open Go.Sort Go.RowKit in
theorem Tryz.slices_Sort_int (blk off cap : Nat) (zs : List Int) (w : World) (hH : Holds (Value.int .i64) w blk off zs.toArray) (hblk : blk < w.heap.size) (hsz : zs.length < 4611686018427387904) :
    Calls Tryz.prog 256 #[.slice (some ⟨blk, off, none⟩) zs.length cap] w fun e w' =>
      e = .returned (.tuple #[]) ∧ ∃ n os, w' = grow (putRow (Value.int .i64) (Sort.ahead w n) blk off (zs.mergeSort fun x y => decide (x ≤ y)).toArray) os := Any.slices_Sort_int Tryz.lays189 blk off cap zs w hH hblk hsz
open Go.RowKit Go.Sort in
theorem Tryz.slices_Sort_int_none (p : Option Addr) (cap : Nat) (w : World) :
    Calls Tryz.prog 256 #[.slice p 0 cap] w fun e w' => e = .returned (.tuple #[]) ∧ w' = w := Any.slices_Sort_int_none Tryz.lays189 p cap w
end Go.Proofs
set_option linter.unusedVariables false
set_option linter.unusedSimpArgs false
namespace Go.Proofs.YtecnmodeggnjoaaGreat.Ac
open Go.RowKit
theorem grow_ok {h : Array Obj} {H : Hp} {φ : Phi} (k : HeapOK h H φ) (os : Array Obj) : HeapOK (h ++ os) H φ ∧ Turn h H φ (h ++ os) H φ := by
  have e : ∀ b, b < h.size → (h ++ os)[b]? = h[b]? := fun b hb => by rw [Array.getElem?_append_left hb]
  have t : Turn h H φ (h ++ os) H φ := ⟨rfl, fun b hb hO => ⟨hO, e b hb⟩, fun n h => h, fun n ob hn => .inr ⟨ob, hn, rfl, rfl, Nat.le_refl _⟩⟩
  exact ⟨all_ob (fun n ob hn => (k.ob n ob hn).keep (fun _ _ r => r.turn t) (fun q => rfl) fun q hd hq => e _ (k.lt _ hd hq)) (fun X hd hX => by have := k.lt X hd hX; simp; omega) k.apart (fun b hb => by have := k.old b hb; simp; omega) k.inj, t⟩
def sortI (l : List Int) : List Int := l.mergeSort fun x y => decide (x ≤ y)
theorem sortI_len (l : List Int) : (sortI l).length = l.length := by simp [sortI]
theorem sortT_ok (l t : List Int) (hlen : l.length < 2 ^ 30) : GCalls Tryz.prog 256 [(1, some ⟨0, 1, (l ++ t).map intW⟩)] [(false, [.row 1 0 l.length])] [(1, some ⟨0, 1, (sortI l ++ t).map intW⟩)] [] := by
  refine ⟨clHs_of (show clHs [(1, some ⟨0, 1, (sortI l ++ t).map intW⟩)] from ⟨cl_ints _, trivial⟩), (fun n h => by simp only [hasN, get] at h ⊢; cases hb : Nat.beq 1 n <;> simp_all), ⟨rfl, rfl⟩, fun φ w us hok hr => .inl ⟨⟨_, Tryz.func256, by kernel_rfl, by kernel_rfl⟩, ?_⟩⟩
  cases us with
  | nil => exact hr.elim
  | cons u us =>
    cases us with
    | cons _ _ => exact hr.2.elim
    | nil =>
      obtain ⟨x, hx, rx⟩ := hr.1
      cases hx
      cases rx with
      | row _ _ _ _ r =>
        have r2 := r.2
        simp only [get, Nat.beq, cond_true] at r2
        obtain ⟨_, _, r3⟩ := r2
        rcases (hok.ob 1 _ rfl).row (fun h => by cases h) with ⟨h0, hp⟩ | ⟨hd, c, ty, g1, g2, g3, _, g5⟩
        · obtain ⟨rfl, rfl⟩ : l = [] ∧ t = [] := by simpa using h0
          rw [hp] at r3
          obtain ⟨a, rfl⟩ := r3
          refine (Tryz.slices_Sort_int_none a 0 w).mono ?_
          rintro e w' ⟨rfl, rfl⟩
          have e0 : sortI [] = [] := by simp [sortI]
          rw [e0]
          exact ⟨_, φ, rfl, ⟨#[], rfl, trivial⟩, hok, Turn.refl _ _ _, rfl, rfl, rfl, Nat.le_refl _⟩
        · rw [g1] at r3
          obtain ⟨a, rfl, ha⟩ := r3
          rw [ha (by simp)]
          have hsz : l.length + t.length ≤ hd.cap := by have := g3.le; simpa using this
          have hcs : c.size = hd.off + hd.cap := by have := g3.size; simpa using this
          have hcell : ∀ j (hj : j < l.length), c[hd.off + j]? = some (.int .i64 l[j]) := by
            intro j hj
            have := g5 j (intW l[j]) 0 _ (by rw [List.getElem?_map, List.getElem?_append_left hj, List.getElem?_eq_getElem hj]; rfl) rfl
            cases this with
            | e _ _ _ r =>
              have hv : ∀ {u : Value}, RepE w.heap (get [(1, some ⟨0, 1, (l ++ t).map intW⟩)]) φ (.f (iL l[j])) u → u = .int .i64 l[j] := by
                intro u r
                cases r with
                | f _ _ r => cases r; rfl
              have h1 := hv r
              have hlt : hd.off + j < c.size := by omega
              simp only [Nat.mul_one, Nat.add_zero] at h1
              rw [Array.getElem?_eq_getElem hlt]
              simpa [hlt] using h1
          have hH : Go.Sort.Holds (Value.int .i64) w hd.b hd.off l.toArray := by
            intro j hj
            have hj' : j < l.length := by simpa using hj
            refine ⟨?_, ?_⟩
            · simp only [World.cell?, g2]
              rw [if_neg (by simp), hcell j hj']
              simp [hj']
            · simp [World.frozen?, g2]
          have hlt := lt_of_get g2
          refine (Tryz.slices_Sort_int hd.b hd.off _ l w hH hlt (by omega)).mono ?_
          rintro e w' ⟨rfl, n, os, rfl⟩
          have hpb : (Go.Sort.putRow (Value.int .i64) (Go.Sort.ahead w n) hd.b hd.off (sortI l).toArray).heap[hd.b]? = some (.cells (Go.Sort.putCells (Value.int .i64) hd.off (sortI l).toArray c) ty (0, 0)) := by
            simp [Go.Sort.putRow, Go.Sort.mapBlock, Go.Sort.ahead, Array.getElem?_modify, g2, Go.Sort.onCells]
          have hpo : ∀ m, m ≠ hd.b → (Go.Sort.putRow (Value.int .i64) (Go.Sort.ahead w n) hd.b hd.off (sortI l).toArray).heap[m]? = w.heap[m]? := by
            intro m hm
            simp [Go.Sort.putRow, Go.Sort.mapBlock, Go.Sort.ahead, Array.getElem?_modify, Ne.symm hm]
          have hps : (Go.Sort.putCells (Value.int .i64) hd.off (sortI l).toArray c).size = c.size := by simp [Go.Sort.putCells]
          have hpc : ∀ k, (Go.Sort.putCells (Value.int .i64) hd.off (sortI l).toArray c)[k]? = (c[k]?).map fun x => if hd.off ≤ k ∧ k < hd.off + (sortI l).length then .int .i64 ((sortI l).toArray[k - hd.off]!) else x := by
            intro k
            simp [Go.Sort.putCells]
          have hrow : RowOK 1 ((sortI l ++ t).map intW) hd (Go.Sort.putCells (Value.int .i64) hd.off (sortI l).toArray c) := by
            refine ⟨Nat.succ_pos _, fun e he => by obtain ⟨x, _, rfl⟩ := List.mem_map.1 he; rfl, by simpa [sortI_len] using hsz, g3.cap, by rw [hps]; exact g3.size, fun k hk => ?_⟩
            have hk' : k < c.size := by rw [← hps]; exact hk
            have h1 := hpc k
            rw [Array.getElem?_eq_getElem hk'] at h1
            have h2 := g3.one k hk'
            simp only [Array.getD_eq_getD_getElem?, h1, Array.getElem?_eq_getElem hk', Option.map_some, Option.getD_some] at h2 ⊢
            split
            · rfl
            · exact h2
          have hcl : ∀ i e j x, ((sortI l ++ t).map intW)[i]? = some e → e[j]? = some x → RepA w.heap (get [(1, some ⟨0, 1, (l ++ t).map intW⟩)]) φ (1, [(i, j)]) x ((Go.Sort.putCells (Value.int .i64) hd.off (sortI l).toArray c).getD (hd.off + i * 1 + j) undef) := by
            intro i e j x hi hj
            have hit : i < (sortI l ++ t).length := by
              have := (List.getElem?_eq_some_iff.1 hi).1
              simpa using this
            have hit' : i < l.length + t.length := by rw [List.length_append, sortI_len] at hit; exact hit
            cases j with
            | succ j =>
              obtain ⟨y, _, rfl⟩ := List.mem_map.1 (List.mem_of_getElem? hi)
              simp at hj
            | zero =>
              have hk' : hd.off + i < c.size := by omega
              have h1 := hpc (hd.off + i)
              rw [Array.getElem?_eq_getElem hk'] at h1
              by_cases hil : i < (sortI l).length
              · have hi2 : e = intW (sortI l)[i] := by
                  rw [List.getElem?_map, List.getElem?_append_left hil, List.getElem?_eq_getElem hil] at hi
                  exact (Option.some.inj hi).symm
                subst hi2
                cases hj
                refine .e _ _ _ (.f _ _ ?_)
                simp only [Nat.mul_one, Nat.add_zero, Array.getD_eq_getD_getElem?, h1, Option.map_some, Option.getD_some]
                rw [if_pos (by omega)]
                simp only [Nat.add_sub_cancel_left]
                have e3 : (sortI l).toArray[i]! = (sortI l)[i] := by simp [hil]
                rw [e3]
                exact .v _ rfl
              · have h5 := g5 i e 0 x (by
                  rw [List.getElem?_map, List.getElem?_append_right (by rw [sortI_len] at hil; omega)]
                  rw [List.getElem?_map, List.getElem?_append_right (by omega), sortI_len] at hi
                  exact hi) hj
                simp only [Nat.mul_one, Nat.add_zero, Array.getD_eq_getD_getElem?, h1, Option.map_some, Option.getD_some, Array.getElem?_eq_getElem hk'] at h5 ⊢
                rw [if_neg (by omega)]
                exact h5
          obtain ⟨ok1, t1⟩ := upd_ok (h' := (Go.Sort.putRow (Value.int .i64) (Go.Sort.ahead w n) hd.b hd.off (sortI l).toArray).heap) (ob' := ⟨0, 1, (sortI l ++ t).map intW⟩) hok (fun h => by cases h) (show get [(1, (some ⟨0, 1, (l ++ t).map intW⟩ : Option Ob))] 1 = some (some ⟨0, 1, (l ++ t).map intW⟩) from rfl) g1 hpo hpb rfl (by simp [sortI_len]) hrow (fun h => absurd rfl h) hcl
          obtain ⟨ok2, t2⟩ := grow_ok ok1 os
          refine ⟨_, φ, rfl, ⟨#[], rfl, trivial⟩, ?_, ?_, rfl, rfl, rfl, ?_⟩
          · have e1 : put1 (get [(1, some ⟨0, 1, (l ++ t).map intW⟩)]) 1 (some ⟨0, 1, (sortI l ++ t).map intW⟩) = get [(1, some ⟨0, 1, (sortI l ++ t).map intW⟩)] := by
              funext q
              by_cases hq : q = 1
              · subst hq; rw [put1_self]; rfl
              · rw [put1_ne _ hq, get_cons_ne _ _ (Ne.symm hq), get_cons_ne _ _ (Ne.symm hq)]
            rw [e1] at ok2 
            exact ok2
          · have e1 : put1 (get [(1, some ⟨0, 1, (l ++ t).map intW⟩)]) 1 (some ⟨0, 1, (sortI l ++ t).map intW⟩) = get [(1, some ⟨0, 1, (sortI l ++ t).map intW⟩)] := by
              funext q
              by_cases hq : q = 1
              · subst hq; rw [put1_self]; rfl
              · rw [put1_ne _ hq, get_cons_ne _ _ (Ne.symm hq), get_cons_ne _ _ (Ne.symm hq)]
            have := t1.trans t2
            rw [e1] at this
            exact this
          · simp [Go.Sort.grow, Go.Sort.putRow, Go.Sort.mapBlock, Go.Sort.ahead]
theorem sort_ok (l : List Int) (hlen : l.length < 2 ^ 30) : GCalls Tryz.prog 256 [(1, some ⟨0, 1, l.map intW⟩)] [(false, [.row 1 0 l.length])] [(1, some ⟨0, 1, (sortI l).map intW⟩)] [] := by
  have h := sortT_ok l [] hlen
  rw [List.append_nil, List.append_nil] at h
  exact h
end Go.Proofs.YtecnmodeggnjoaaGreat.Ac
set_option linter.unusedVariables false
set_option linter.unusedSimpArgs false
namespace Go.Proofs.YtecnmodeggnjoaaGreat.Ac
theorem riseF_perm (n : Int) : ∀ l : List Int, (riseF l n).Perm (n :: l)
  | [] => .refl _
  | x :: l => by
    simp only [riseF]
    split
    · exact .refl _
    · exact (List.Perm.cons x (riseF_perm n l)).trans (List.Perm.swap n x l)
theorem riseF_sorted (n : Int) : ∀ l : List Int, l.Pairwise (· ≤ ·) → (riseF l n).Pairwise (· ≤ ·)
  | [], _ => by simp [riseF]
  | x :: l, h => by
    obtain ⟨h1, h2⟩ := List.pairwise_cons.1 h
    simp only [riseF]
    split
    · rename_i hx
      refine List.pairwise_cons.2 ⟨fun y hy => ?_, h⟩
      rcases List.mem_cons.1 hy with rfl | hy
      · omega
      · have := h1 y hy; omega
    · rename_i hx
      refine List.pairwise_cons.2 ⟨fun y hy => ?_, riseF_sorted n l h2⟩
      rcases List.mem_cons.1 ((riseF_perm n l).mem_iff.1 hy) with rfl | hy
      · omega
      · exact h1 y hy
theorem sorted_eq : ∀ {l m : List Int}, l.Perm m → l.Pairwise (· ≤ ·) → m.Pairwise (· ≤ ·) → l = m
  | [], m, h, _, _ => (List.Perm.nil_eq h)
  | x :: l, [], h, _, _ => (List.Perm.eq_nil h)
  | x :: l, y :: m, h, hl, hm => by
    obtain ⟨a1, a2⟩ := List.pairwise_cons.1 hl
    obtain ⟨b1, b2⟩ := List.pairwise_cons.1 hm
    have hxy : x = y := by
      have h1 : x ∈ y :: m := h.mem_iff.1 (by simp)
      have h2 : y ∈ x :: l := h.mem_iff.2 (by simp)
      rcases List.mem_cons.1 h1 with e | h1
      · exact e
      · rcases List.mem_cons.1 h2 with e | h2
        · exact e.symm
        · have := b1 x h1; have := a1 y h2; omega
    subst hxy
    rw [sorted_eq (List.Perm.cons_inv h) a2 b2]
theorem rises_perm : ∀ (ks acc : List Int), (ks.foldl riseF acc).Perm (ks ++ acc)
  | [], acc => .refl _
  | k :: ks, acc => by
    rw [List.foldl_cons]
    refine (rises_perm ks _).trans ?_
    refine (List.Perm.append_left ks (riseF_perm k acc)).trans ?_
    exact List.perm_middle
theorem rises_sorted : ∀ (ks acc : List Int), acc.Pairwise (· ≤ ·) → (ks.foldl riseF acc).Pairwise (· ≤ ·)
  | [], acc, h => h
  | k :: ks, acc, h => by rw [List.foldl_cons]; exact rises_sorted ks _ (riseF_sorted k acc h)
theorem rises_sort (ks : List Int) : ks.foldl riseF [] = sortI ks := by
  refine sorted_eq ?_ (rises_sorted ks [] List.Pairwise.nil) ?_
  · have h1 := rises_perm ks []
    rw [List.append_nil] at h1
    exact h1.trans (List.mergeSort_perm ks _).symm
  · have := List.pairwise_mergeSort (le := fun x y : Int => decide (x ≤ y)) (fun a b c h1 h2 => by simp at *; omega) (fun a b => by simp; omega) ks
    unfold sortI
    exact this.imp fun h => by simpa using h
end Go.Proofs.YtecnmodeggnjoaaGreat.Ac
