/- Several of our texts, one behind the other, without what this claim does not need: Wh, Wo, Tv, Wu, ShSrt. -/
import Derived.Test.YtecnmodeggnjoaaGreatZe2002630
import Derived.Test.YtecnmodeggnjoaaGreatZde51322d
import Derived.Test.YtecnmodeggnjoaaGreatZaa953d4f
import Derived.Test.YtecnmodeggnjoaaGreatZ855f7bb1
import Derived.Shelf.Sort.Plain
import Derived.Ground.Names2Prog
import Derived.Shelf.Slices.In.SortNone
import Derived.Test.YtecnmodeggnjoaaGreatProg
set_option linter.unusedVariables false
set_option linter.unusedSimpArgs false
set_option maxRecDepth 20000
set_option maxHeartbeats 2000000
namespace Go.Proofs.YtecnmodeggnjoaaGreat.Ac
open Go.RowKit
theorem reverse_ok (l : List Int) (hlen : l.length < 2 ^ 62) : GCalls Tryz.prog 279 [(1, some ⟨0, 1, l.map intW⟩)] [(false, [.row 1 0 l.length])] [(1, some ⟨0, 1, l.reverse.map intW⟩)] [] := by
  refine en Tryz.func279 Tryz.ntmps279 (⟨cl_ints _, trivial⟩) ?_
  refine nw ?_
  refine ⟨fun (m : Nat) (es : Es) (hs : Hs) => ∃ (i : Nat) (c : List Int), m + i = l.length ∧ Rev l i c ∧ es = [(3, .val false [.f (iL ((l.length : Int) - 1 - i))]), (2, .val false [.f (iL i)]), (0, .val false [.row 1 0 l.length])] ∧ hs = [(1, some ⟨0, 1, c.map intW⟩)],
    ⟨l.length, [], [], _, _, ⟨?_, ?_, ?_⟩, 0, l, rfl, ⟨rfl, fun k hk => by rw [if_neg (by omega)]⟩, rfl, rfl⟩, ?_⟩
  · rfl
  · refine tel1 ?_
    rw [IntKind.wrap_i64]; omega
  · exact tel
  rintro m es hs ⟨i, c, hm, hr, rfl, rfl⟩
  refine nw ?_
  refine ⟨fun h => ?_, fun h => ?_⟩
  · have hi : 2 * i + 1 < l.length := by omega
    have hcl := hr.1
    have hi1 : i < c.length := by omega
    have hj1 : l.length - 1 - i < c.length := by omega
    refine nw ?_
    refine ⟨by kernel_rfl, ?_⟩
    refine nw ?_
    refine ⟨l.length - 1 - i, ⟨by omega, by omega⟩, ?_⟩
    refine nw ?_
    refine ⟨intW c[l.length - 1 - i], by simp [hj1], ?_⟩
    refine nw ?_
    refine ⟨i, ⟨rfl, by omega⟩, ?_⟩
    refine nw ?_
    refine ⟨intW c[i], by simp [hi1], ?_⟩
    refine nw ?_
    refine ⟨i, ⟨rfl, by omega⟩, ?_⟩
    refine nw ?_
    refine ⟨intW c[i], by simp [hi1], ?_⟩
    refine nw ?_
    refine ⟨l.length - 1 - i, ⟨by omega, by omega⟩, ?_⟩
    refine nw ?_
    refine ⟨intW c[l.length - 1 - i], by rw [List.getElem?_set_ne (by omega)]; simp [hj1], ?_⟩
    refine nw ?_
    refine ⟨by kernel_rfl, ?_⟩
    refine nw ?_
    refine ⟨m - 1, [], [], [(3, .val false [.f (iL ((l.length : Int) - 1 - (i + 1 : Nat)))]), (2, .val false [.f (iL (i + 1 : Nat))]), (0, .val false [.row 1 0 l.length])], [(1, some ⟨0, 1, ((c.set i c[l.length - 1 - i]).set (l.length - 1 - i) c[i]).map intW⟩)], by omega, ⟨?_, ?_, ?_⟩, i + 1, _, by omega, hr.step hi (List.getElem?_eq_getElem hi1) (List.getElem?_eq_getElem hj1), rfl, rfl⟩
    · rfl
    · refine tel2 ?_ ?_
      · rw [IntKind.wrap_i64]; omega
      · exact wrap_suc (by omega)
    · refine tel1 ?_
      dsimp only
      rw [List.map_set, List.map_set]
  · have hi : l.length ≤ 2 * i + 1 := by omega
    obtain rfl := hr.done hi
    refine nw ?_
    refine ⟨[], [], ?_⟩
    exact tel
def upsF (l : List Nd) : Nat → Int → List Int
  | 0, _ => []
  | k + 1, x => if x = 0 then [] else x :: upsF l k (parP l x)
theorem path_ok (d : Dc) (id : Int) (s : Nat) (hs : upP d.nodes s id = 0) (h0 : parP d.nodes 0 = 0) (hsl : s < 2 ^ 29) (hlen : d.nodes.length < 2 ^ 62) (hks : ∀ n ∈ d.nodes, n.kids.length < 2 ^ 62) :
    FC Tryz.prog 198 [(false, [.pv (dcL d)]), (false, [iL id])] [(1000, some ⟨0, 1, (upsF d.nodes s id).reverse.map intW⟩)] [(false, [.row 1000 0 (upsF d.nodes s id).length])] := by
  have hul : ∀ (s : Nat) (x : Int), (upsF d.nodes s x).length ≤ s := by
    intro s
    induction s with
    | zero => intro x; simp [upsF]
    | succ s ih =>
      intro x
      simp only [upsF]
      split
      · simp
      · have := ih (parP d.nodes x); simp; omega
  have hz : ∀ s : Nat, upsF d.nodes s 0 = [] := fun s => by cases s <;> simp [upsF]
  refine en Tryz.func198 Tryz.ntmps198 (⟨cl_ints _, trivial⟩) ?_
  refine nw ?_
  refine ⟨fun (m : Nat) (es : Es) (hs : Hs) => ∃ (x : Int) (out : List Int), upP d.nodes m x = 0 ∧ m ≤ s ∧ out ++ upsF d.nodes m x = upsF d.nodes s id ∧ es = [(5, .val false [.row 3 0 out.length]), (1, .val false [.f (iL x)]), (0, .val false [.f (.pv (dcL d))])] ∧ hs = [(3, some ⟨0, 1, out.map intW⟩)],
    ⟨s, [], [], _, _, ⟨?_, ?_, ?_⟩, id, [], hs, Nat.le_refl _, rfl, rfl, rfl⟩, ?_⟩
  · rfl
  · exact tel
  · exact tel
  rintro m es hs' ⟨x, out, hx, hms, hout, rfl, rfl⟩
  refine nw ?_
  refine ⟨fun h => ?_, fun h => ?_⟩
  · have hm : ∃ k, m = k + 1 := by
      cases m with
      | zero => exact absurd hx h
      | succ k => exact ⟨k, rfl⟩
    obtain ⟨k, rfl⟩ := hm
    have hol : out.length ≤ s := by
      have := hul s id
      rw [← hout, List.length_append] at this; omega
    refine nw ?_
    refine ⟨(out ++ [x]).map intW, ⟨app_one intW out x, by simp; omega⟩, ?_⟩
    refine nw ?_
    refine ⟨([], _), parent_ok d x hlen hks, ?_⟩
    refine nw ?_
    refine ⟨k, [], [(3, 240)], [(5, .val false [.row 3 0 (out ++ [x]).length]), (1, .val false [.f (iL (parP d.nodes x))]), (0, .val false [.f (.pv (dcL d))])], [(3, some ⟨0, 1, (out ++ [x]).map intW⟩)], by omega, ⟨?_, ?_, ?_⟩, parP d.nodes x, out ++ [x], hx, by omega, ?_, rfl, rfl⟩
    · rfl
    · refine tel1 ?_
      all_goals simp
    · exact tel
    · rw [← hout]; simp [upsF, h]
  · have hx0 : x = 0 := Classical.not_not.1 h
    subst hx0
    rw [hz, List.append_nil] at hout
    have hol : out.length < 2 ^ 62 := by
      have := hul s id
      rw [← hout] at this; omega
    rw [← hout]
    refine nw ?_
    refine ⟨⟨false, [(1, 3)], _, _, _, _⟩, reverse_ok out hol, ?_⟩
    refine nw ?_
    refine ⟨⟨?_, ?_, trivial⟩, ?_⟩
    · exact tel
    · exact tel
    refine nw ?_
    refine ⟨[], [(1000, 3)], ?_⟩
    exact tel
theorem upsF_len (l : List Nd) : ∀ (s : Nat) (x : Int), (upsF l s x).length ≤ s
  | 0, x => by simp [upsF]
  | s + 1, x => by
    simp only [upsF]
    split
    · simp
    · have := upsF_len l s (parP l x); simp; omega
theorem isIn_ok (d : Dc) (id top : Int) (s : Nat) (hs : upP d.nodes s id = 0) (h0 : parP d.nodes 0 = 0) (hsl : s < 2 ^ 29) (hlen : d.nodes.length < 2 ^ 62) (hks : ∀ n ∈ d.nodes, n.kids.length < 2 ^ 62) :
    FC Tryz.prog 110 [(false, [.pv (dcL d)]), (false, [iL id]), (false, [iL top])] [] [(false, [.f (bL (decide (top ∈ upsF d.nodes s id)))])] := by
  have hl := upsF_len d.nodes s id
  have hc := contains_ok (upsF d.nodes s id).reverse top (by simp; omega)
  refine en Tryz.func110 Tryz.ntmps110 trivial ?_
  refine nw ?_
  refine ⟨(_, _), path_ok d id s hs h0 hsl hlen hks, ?_⟩
  refine nw ?_
  refine ⟨⟨true, [], _, _, _, _⟩, hc, ?_⟩
  refine nw ?_
  refine ⟨⟨?_, ?_, ?_⟩, ?_⟩
  · exact tel
  · exact tel
  · exact tel
  refine nw ?_
  refine ⟨[], [], ?_⟩
  refine tel1 ?_
  simp
end Go.Proofs.YtecnmodeggnjoaaGreat.Ac
set_option linter.unusedVariables false
set_option linter.unusedSimpArgs false
set_option maxRecDepth 20000
set_option maxHeartbeats 2000000
namespace Go.Proofs.YtecnmodeggnjoaaGreat.Ac
open Go.RowKit
theorem cp_ints (l : List Int) : cpE (((l.map intW).take l.length).drop 0) = l.map intW := by
  rw [List.take_of_length_le (by simp), List.drop_zero]
  unfold cpE
  rw [List.map_map]
  rfl
end Go.Proofs.YtecnmodeggnjoaaGreat.Ac
set_option linter.unusedVariables false
set_option linter.unusedSimpArgs false
namespace Go.Proofs.YtecnmodeggnjoaaGreat.Ac
theorem Fits.mono {l : List Nd} : ∀ {k : Nat} {id : Int}, Fits l k id → Fits l (k + 1) id
  | 0, _, h => h.elim
  | k + 1, id, ⟨n, hn, h⟩ => ⟨n, hn, fun c hc => (h c hc).mono⟩
theorem Fits.sub {l : List Nd} : ∀ {k : Nat} {id x : Int}, Fits l k id → x ∈ orderF l k id → Fits l k x
  | 0, _, _, h, _ => h.elim
  | k + 1, id, x, ⟨n, hn, h⟩, hx => by
    rw [orderF, kidsAt_some hn, List.mem_cons] at hx
    rcases hx with rfl | hx
    · exact ⟨n, hn, h⟩
    · obtain ⟨c, hc, hx⟩ := List.mem_flatMap.1 hx
      exact ((h c hc).sub hx).mono
theorem ord_depth {root : Int} {l : List Nd} (hT : Tree root l) : ∀ (m : Nat) (id x : Int), (ndAt l id).isSome → x ∈ orderF l m id → ∃ s, s < m ∧ upP l s x = id
  | 0, id, x, _, h => by simp [orderF] at h
  | m + 1, id, x, hh, h => by
    rw [orderF, List.mem_cons] at h
    rcases h with rfl | h
    · exact ⟨0, by omega, rfl⟩
    · obtain ⟨k, hk, hx⟩ := List.mem_flatMap.1 h
      obtain ⟨h1, h2⟩ := kid_par hT hh hk
      obtain ⟨s, hs, hu⟩ := ord_depth hT m k x h2 hx
      exact ⟨s + 1, by omega, by rw [up_succ, hu, h1]⟩
theorem DOK.all {d : Dc} (h : DOK d) {x : Int} (hx : (ndAt d.nodes x).isSome) : x ∈ orderF d.nodes 6 d.root := by
  have hT := h.tree
  have hnd := ord_nodup hT 6 d.root hT.top ⟨0, rfl⟩
  have hsub : ∀ x ∈ orderF d.nodes 6 d.root, x ∈ d.nodes.map (·.id) := fun x hx => by
    obtain ⟨_, _, hp⟩ := ord_up hT 6 d.root x hT.top hx
    obtain ⟨n, hn⟩ := Option.isSome_iff_exists.1 hp
    obtain ⟨h1, rfl⟩ := ndAt_mem hn
    exact List.mem_map.2 ⟨_, h1, rfl⟩
  obtain ⟨n, hn⟩ := Option.isSome_iff_exists.1 hx
  obtain ⟨h1, rfl⟩ := ndAt_mem hn
  exact sub_eq hnd hsub (by rw [List.length_map, h.2.2.2.2.2]; exact Nat.le_refl _) n.id (List.mem_map.2 ⟨_, h1, rfl⟩)
theorem DOK.up {d : Dc} (h : DOK d) {x : Int} (hx : (ndAt d.nodes x).isSome) : upP d.nodes 7 x = 0 := by
  obtain ⟨s, hs, hu⟩ := ord_depth h.tree 6 d.root x h.tree.top (h.all hx)
  rw [show 7 = s + (1 + (6 - s)) by omega, up_add, hu, up_add]
  show upP d.nodes (6 - s) (parP d.nodes d.root) = 0
  rw [par_root h.tree]
  exact up_zero h.tree _
theorem DOK.par0 {d : Dc} (h : DOK d) : parP d.nodes 0 = 0 := par_zero h.tree
theorem mem_ups {l : List Nd} (h0 : parP l 0 = 0) {t : Int} (ht : t ≠ 0) : ∀ (s : Nat) (x : Int), t ∈ upsF l s x ↔ ∃ j, j < s ∧ upP l j x = t
  | 0, x => by simp [upsF]
  | s + 1, x => by
    have hz : ∀ j, upP l j 0 = 0 := fun j => by
      induction j with
      | zero => rfl
      | succ j ih => show upP l j (parP l 0) = 0; rw [h0]; exact ih
    simp only [upsF]
    by_cases hx : x = 0
    · rw [if_pos hx]
      subst hx
      constructor
      · intro h; simp at h
      · rintro ⟨j, _, hj⟩; rw [hz] at hj; exact absurd hj.symm ht
    · rw [if_neg hx, List.mem_cons, mem_ups h0 ht s (parP l x)]
      constructor
      · rintro (rfl | ⟨j, hj, hu⟩)
        · exact ⟨0, by omega, rfl⟩
        · exact ⟨j + 1, by omega, hu⟩
      · rintro ⟨j, hj, hu⟩
        cases j with
        | zero => exact .inl hu.symm
        | succ j => exact .inr ⟨j, by omega, hu⟩
end Go.Proofs.YtecnmodeggnjoaaGreat.Ac
set_option linter.unusedVariables false
set_option linter.unusedSimpArgs false
set_option maxRecDepth 20000
set_option maxHeartbeats 2000000
namespace Go.Proofs.YtecnmodeggnjoaaGreat.Ac
open Go.RowKit
def riseF : List Int → Int → List Int
  | [], n => [n]
  | x :: l, n => if x > n then n :: x :: l else x :: riseF l n
theorem riseF_len (n : Int) : ∀ l : List Int, (riseF l n).length = l.length + 1
  | [] => rfl
  | x :: l => by
    simp only [riseF]
    split
    · rfl
    · simp [riseF_len n l]
theorem rise_ok (l : List Int) (n : Int) (hlen : l.length < 2 ^ 29) : FC Tryz.prog 246 [(false, [ints l]), (false, [iL n])] [(1000, some ⟨0, 1, (riseF l n).map intW⟩)] [(false, [.row 1000 0 (riseF l n).length])] := by
  have hrl := riseF_len n l
  refine en Tryz.func246 Tryz.ntmps246 (⟨cl_ints _, trivial⟩) ?_
  refine nw ?_
  refine ⟨fun (m : Nat) (es : Es) (hs : Hs) => ∃ (i : Nat) (out : List Int) (done : Bool), m + i = l.length ∧ (done = false → out ++ riseF (l.drop i) n = riseF l n) ∧ (done = true → out ++ l.drop i = riseF l n) ∧ es = [(7, .val false [.f (iL i)]), (6, .val false [.f (bL done)]), (5, .val false [.row 3 0 out.length]), (1, .val false [.f (iL n)]), (0, .val false [.f (ints l)])] ∧ hs = [(3, some ⟨0, 1, out.map intW⟩)],
    ⟨l.length, [], [(3, 144)], _, _, ⟨?_, ?_, ?_⟩, 0, [], false, rfl, fun _ => rfl, (fun h => by cases h), rfl, rfl⟩, ?_⟩
  · rfl
  · exact tel
  · exact tel
  rintro m es hs ⟨i, out, done, hm, h1, h2, rfl, rfl⟩
  have hol : out.length ≤ l.length + 1 := by
    cases done with
    | false => have := congrArg List.length (h1 rfl); rw [List.length_append] at this; omega
    | true => have := congrArg List.length (h2 rfl); rw [List.length_append] at this; omega
  refine nw ?_
  refine ⟨fun h => ?_, fun h => ?_⟩
  · have hi : i < l.length := by simpa using h
    have hd := List.drop_eq_getElem_cons hi
    cases done with
    | true =>
      have h2 := h2 rfl
      rw [hd] at h2
      refine nw ?_
      refine ⟨(i, intE l[i]), ⟨rfl, by simp [hi]⟩, ?_⟩
      refine nw ?_
      refine ⟨(out ++ [l[i]]).map intW, ⟨app_one intW out _, by simp; omega⟩, ?_⟩
      refine nw ?_
      refine ⟨m - 1, [], [(3, 576)], [(7, .val false [.f (iL (i + 1 : Nat))]), (6, .val false [.f (bL true)]), (5, .val false [.row 3 0 (out ++ [l[i]]).length]), (1, .val false [.f (iL n)]), (0, .val false [.f (ints l)])], [(3, some ⟨0, 1, (out ++ [l[i]]).map intW⟩)], by omega, ⟨?_, ?_, ?_⟩, i + 1, out ++ [l[i]], true, by omega, (fun h => by cases h), (fun _ => by rw [List.append_assoc]; exact h2), rfl, rfl⟩
      · rfl
      · refine tel2 ?_ ?_
        · exact wrap_suc (by omega)
        · simp
      · exact tel
    | false =>
      have h1 := h1 rfl
      rw [hd] at h1
      refine nw ?_
      refine ⟨(i, intE l[i]), ⟨rfl, by simp [hi]⟩, ?_⟩
      refine nw ?_
      refine ⟨fun k => ?_, fun k => ?_⟩
      · have h1' : out ++ n :: l[i] :: l.drop (i + 1) = riseF l n := by rw [← h1, riseF, if_pos k]
        have hol2 : out.length + 2 ≤ l.length + 1 := by
          have := congrArg List.length h1'
          rw [List.length_append, List.length_cons, List.length_cons] at this; omega
        refine nw ?_
        refine ⟨(out ++ [n]).map intW, ⟨app_one intW out _, by simp; omega⟩, ?_⟩
        refine nw ?_
        refine ⟨(i, intE l[i]), ⟨rfl, by simp [hi]⟩, ?_⟩
        refine nw ?_
        refine ⟨(out ++ [n] ++ [l[i]]).map intW, ⟨?_, by simp; omega⟩, ?_⟩
        · rw [List.take_of_length_le (Nat.le_refl _)]; simp
        refine nw ?_
        refine ⟨m - 1, [], [(3, 576)], [(7, .val false [.f (iL (i + 1 : Nat))]), (6, .val false [.f (bL true)]), (5, .val false [.row 3 0 (out ++ [n] ++ [l[i]]).length]), (1, .val false [.f (iL n)]), (0, .val false [.f (ints l)])], [(3, some ⟨0, 1, (out ++ [n] ++ [l[i]]).map intW⟩)], by omega, ⟨?_, ?_, ?_⟩, i + 1, out ++ [n] ++ [l[i]], true, by omega, (fun h => by cases h), (fun _ => by rw [← h1']; simp), rfl, rfl⟩
        · rfl
        · refine tel2 ?_ ?_
          · exact wrap_suc (by omega)
          · simp
        · exact tel
      · have h1' : out ++ [l[i]] ++ riseF (l.drop (i + 1)) n = riseF l n := by rw [← h1, riseF, if_neg k]; simp
        have hol2 : out.length + 1 ≤ l.length + 1 := by
          have := congrArg List.length h1'
          rw [List.length_append, List.length_append, List.length_singleton] at this; omega
        refine nw ?_
        refine ⟨(i, intE l[i]), ⟨rfl, by simp [hi]⟩, ?_⟩
        refine nw ?_
        refine ⟨(out ++ [l[i]]).map intW, ⟨app_one intW out _, by simp; omega⟩, ?_⟩
        refine nw ?_
        refine ⟨m - 1, [], [(3, 576)], [(7, .val false [.f (iL (i + 1 : Nat))]), (6, .val false [.f (bL false)]), (5, .val false [.row 3 0 (out ++ [l[i]]).length]), (1, .val false [.f (iL n)]), (0, .val false [.f (ints l)])], [(3, some ⟨0, 1, (out ++ [l[i]]).map intW⟩)], by omega, ⟨?_, ?_, ?_⟩, i + 1, out ++ [l[i]], false, by omega, (fun _ => h1'), (fun h => by cases h), rfl, rfl⟩
        · rfl
        · refine tel2 ?_ ?_
          · exact wrap_suc (by omega)
          · simp
        · exact tel
  · have hi : l.length ≤ i := by simpa using h
    have hd := List.drop_eq_nil_of_le hi
    cases done with
    | true =>
      have h2 := h2 rfl
      rw [hd, List.append_nil] at h2
      subst h2
      refine nw ?_
      refine ⟨[], [(1000, 3)], ?_⟩
      exact tel
    | false =>
      have h1 := h1 rfl
      rw [hd, riseF] at h1
      rw [← h1]
      refine nw ?_
      refine ⟨(out ++ [n]).map intW, ⟨app_one intW out _, by simp; omega⟩, ?_⟩
      refine nw ?_
      refine ⟨[], [(1000, 672)], ?_⟩
      refine tel1 ?_
      all_goals simp
end Go.Proofs.YtecnmodeggnjoaaGreat.Ac
namespace Go.Proofs
open Go.Shelf
def Tryz.lays189_ren : Go.Shelf.Ren := ⟨fun | 189 => 256 | 125 => 323 | 257 => 322 | 128 => 368 | 129 => 369 | 294 => 359 | 295 => 360 | 296 => 361 | 297 => 362 | 298 => 363 | 299 => 364 | 216 => 365 | 300 => 366 | 301 => 367 | 328 => 386 | 329 => 387 | 330 => 388 | 331 => 389 | 332 => 390 | 215 => 357 | 343 => 394 | n => n, fun | 28 => 33 | 3 => 3 | 46 => 293 | 0 => 0 | 51 => 334 | 53 => 336 | 4 => 4 | 183 => 328 | 182 => 327 | 131 => 259 | 5 => 5 | 9 => 9 | 218 => 347 | 222 => 351 | 228 => 355 | 229 => 113 | n => n, fun | n => n⟩
theorem Tryz.lays189 : Go.Proofs.Lays.n189 Tryz.prog Tryz.lays189_ren := {
  mixed := by kernel_rfl
  f125 := Tryz.func323.trans (congrArg some (by kernel_rfl))
  f128 := Tryz.func368.trans (congrArg some (by kernel_rfl))
  f129 := Tryz.func369.trans (congrArg some (by kernel_rfl))
  f189 := Tryz.func256.trans (congrArg some (by kernel_rfl))
  f215 := Tryz.func357.trans (congrArg some (by kernel_rfl))
  f216 := Tryz.func365.trans (congrArg some (by kernel_rfl))
  f257 := Tryz.func322.trans (congrArg some (by kernel_rfl))
  f294 := Tryz.func359.trans (congrArg some (by kernel_rfl))
  f295 := Tryz.func360.trans (congrArg some (by kernel_rfl))
  f296 := Tryz.func361.trans (congrArg some (by kernel_rfl))
  f297 := Tryz.func362.trans (congrArg some (by kernel_rfl))
  f298 := Tryz.func363.trans (congrArg some (by kernel_rfl))
  f299 := Tryz.func364.trans (congrArg some (by kernel_rfl))
  f300 := Tryz.func366.trans (congrArg some (by kernel_rfl))
  f301 := Tryz.func367.trans (congrArg some (by kernel_rfl))
  f328 := Tryz.func386.trans (congrArg some (by kernel_rfl))
  f329 := Tryz.func387.trans (congrArg some (by kernel_rfl))
  f330 := Tryz.func388.trans (congrArg some (by kernel_rfl))
  f331 := Tryz.func389.trans (congrArg some (by kernel_rfl))
  f332 := Tryz.func390.trans (congrArg some (by kernel_rfl))
  f343 := Tryz.func394.trans (congrArg some (by kernel_rfl))
  t0 := Tryz.underlying0
  a0 := Tryz.isAgg0
  z0 := Tryz.sizeOf0
  v0 := Tryz.zeroValue0
  t3 := Tryz.underlying3
  a3 := Tryz.isAgg3
  z3 := Tryz.sizeOf3
  v3 := Tryz.zeroValue3
  t4 := Tryz.underlying4
  a4 := Tryz.isAgg4
  z4 := Tryz.sizeOf4
  v4 := Tryz.zeroValue4
  t5 := Tryz.underlying5
  a5 := Tryz.isAgg5
  z5 := Tryz.sizeOf5
  v5 := Tryz.zeroValue5
  t9 := Tryz.underlying9
  a9 := Tryz.isAgg9
  z9 := Tryz.sizeOf9
  v9 := Tryz.zeroValue9
  t28 := Tryz.underlying33
  a28 := Tryz.isAgg33
  z28 := Tryz.sizeOf33
  v28 := Tryz.zeroValue33
  t46 := Tryz.underlying293
  a46 := Tryz.isAgg293
  z46 := Tryz.sizeOf293
  v46 := Tryz.zeroValue293
  t51 := Tryz.underlying334
  a51 := Tryz.isAgg334
  z51 := Tryz.sizeOf334
  v51 := Tryz.zeroValue334
  t53 := Tryz.underlying336
  a53 := Tryz.isAgg336
  z53 := Tryz.sizeOf336
  v53 := Tryz.zeroValue336
  t131 := Tryz.underlying259
  a131 := Tryz.isAgg259
  z131 := Tryz.sizeOf259
  v131 := Tryz.zeroValue259
  t182 := Tryz.underlying327
  a182 := Tryz.isAgg327
  z182 := Tryz.sizeOf327
  v182 := Tryz.zeroValue327
  t183 := Tryz.underlying328
  a183 := Tryz.isAgg328
  z183 := Tryz.sizeOf328
  v183 := Tryz.zeroValue328
  t218 := Tryz.underlying347
  a218 := Tryz.isAgg347
  z218 := Tryz.sizeOf347
  v218 := Tryz.zeroValue347
  t222 := Tryz.underlying351
  a222 := Tryz.isAgg351
  z222 := Tryz.sizeOf351
  v222 := Tryz.zeroValue351
  t228 := Tryz.underlying355
  a228 := Tryz.isAgg355
  z228 := Tryz.sizeOf355
  v228 := Tryz.zeroValue355
  t229 := Tryz.underlying113
  a229 := Tryz.isAgg113
  z229 := Tryz.sizeOf113
  v229 := Tryz.zeroValue113 }
open Go.Sort Go.RowKit in
theorem Tryz.slices_Sort_int (blk off cap : Nat) (zs : List Int) (w : World) (hH : Holds (Value.int .i64) w blk off zs.toArray) (hblk : blk < w.heap.size) (hsz : zs.length < 4611686018427387904) :
    Calls Tryz.prog 256 #[.slice (some ⟨blk, off, none⟩) zs.length cap] w fun e w' =>
      e = .returned (.tuple #[]) ∧ ∃ n os, w' = grow (putRow (Value.int .i64) (Sort.ahead w n) blk off (zs.mergeSort fun x y => decide (x ≤ y)).toArray) os := Any.slices_Sort_int Tryz.lays189 blk off cap zs w hH hblk hsz
open Go.RowKit Go.Sort in
theorem Tryz.slices_Sort_int_none (p : Option Addr) (cap : Nat) (w : World) :
    Calls Tryz.prog 256 #[.slice p 0 cap] w fun e w' => e = .returned (.tuple #[]) ∧ w' = w := Any.slices_Sort_int_none Tryz.lays189 p cap w
end Go.Proofs
