/- Several of our texts, one behind the other, without what this claim does not need: DocW, DocT. -/
import Derived.Test.YtnppmhijoaeibaaZb240e979
set_option linter.unusedVariables false
set_option linter.unusedSimpArgs false
namespace Go.Proofs.Ytnppmhijoaeibaa.H
open Go.RowKit Go.Proofs.YtnppmhijoaeibaaW.PrintWords Go.Proofs.YtnppmhijoaeibaaW.PrintLast Go.Proofs.Ytnppmhijoaeibaa.Q
theorem bytesOf_len (s : ByteArray) : (bytesOf s).length = s.size := by unfold bytesOf; rw [List.length_map]; rfl
def nodeL (x : Nd) : List Int := numsL [x.f0, x.f1, x.f2] ++ bytesOf (textS x.f3) ++ numsL [(x.f4.length : Int)] ++ numsL x.f4
def docL (root next : Int) (ns : List Nd) : List Int := numsL [root, next, (ns.length : Int)] ++ ns.flatMap nodeL
def NodeW (x : Nd) : Prop := (x.f0 < 2097152 ∧ x.f1 < 2097152 ∧ x.f2 < 2097152) ∧ x.f3.size ≤ 20 ∧ x.f4.length ≤ 12 ∧ ∀ k ∈ x.f4, k < 2097152
def DocW (root next : Int) (ns : List Nd) : Prop := (root < 2097152 ∧ next < 2097152) ∧ ns.length ≤ 40 ∧ ∀ t : Nat, t < ns.length → NodeW (rdN ns (t : Int))
theorem nodeL_len {x : Nd} (h : NodeW x) : (nodeL x).length ≤ 71 := by
  have h1 := numsL_len [x.f0, x.f1, x.f2]
  have h2 := numsL_len [(x.f4.length : Int)]
  have h3 := numsL_len x.f4
  have h4 := textS_len x.f3
  have h5 := bytesOf_len (textS x.f3)
  obtain ⟨_, h6, h7, _⟩ := h
  unfold nodeL
  rw [List.length_append, List.length_append, List.length_append, h5]
  simp only [List.length_cons, List.length_nil] at h1 h2
  omega
theorem nodes_len {ns : List Nd} (h : ∀ t : Nat, t < ns.length → NodeW (rdN ns (t : Int))) : ∀ i, i ≤ ns.length → ((ns.take i).flatMap nodeL).length ≤ i * 71
  | 0, _ => by simp
  | i + 1, hi => by
    have h1 := nodes_len h i (by omega)
    have h2 := nodeL_len (h i (by omega))
    rw [rdN_get (by omega)] at h2
    rw [List.take_add_one, List.getElem?_eq_getElem (by omega), List.flatMap_append, List.length_append, Nat.succ_mul]
    have h3 : ((some ns[i]).toList.flatMap nodeL).length = (nodeL ns[i]).length := by
      show ([ns[i]].flatMap nodeL).length = _
      rw [List.flatMap_cons, List.flatMap_nil, List.append_nil]
    omega
theorem isW_set {w : World} {B g g2 : Nat} {l : List Int} {cs : Array Value} (h : IsW w B g l) (hb : w.heap[g2]? = some (.cells cs 108 (0, 0))) (j : Nat) (v : Value) : IsW (w.setCell ⟨g2, j, none⟩ v) B g l := by
  refine h.mono (Below.heap_setCell w ⟨g2, j, none⟩ v g (fun e => ?_)) (fun k cs' fr hk => Below.heap_setCell w ⟨g2, j, none⟩ v k (fun e => ?_))
  · obtain ⟨cs', fr, hg⟩ : ∃ cs' fr, w.heap[g]? = some (Obj.cells cs' 75 fr) := by rcases h with ⟨_, v, h1, _⟩ | ⟨_, v, h1, _⟩ <;> exact ⟨_, _, h1⟩
    have e : g = g2 := e
    subst e
    rw [hb] at hg
    injection hg with hg
    injection hg with _ hq _
    exact absurd hq (by decide)
  · have e : k = g2 := e
    subst e
    rw [hb] at hk
    injection hk with hk
    injection hk with _ hq _
    exact absurd hq (by decide)
theorem isW_s5 {w : World} {B g g2 : Nat} {l : List Int} {c0 c1 c2 c3 c4 : Value} (h : IsW w B g l) (hb : w.heap[g2]? = some (.cells #[c0, c1, c2, c3, c4] 108 (0, 0))) (v0 v1 v2 v3 v4 : Value) : IsW (((((w.setCell ⟨g2, 0, none⟩ v0).setCell ⟨g2, 1, none⟩ v1).setCell ⟨g2, 2, none⟩ v2).setCell ⟨g2, 3, none⟩ v3).setCell ⟨g2, 4, none⟩ v4) B g l := by
  have b1 := blk_set hb 0 v0
  have b2 := blk_set b1 1 v1
  have b3 := blk_set b2 2 v2
  have b4 := blk_set b3 3 v3
  exact isW_set (isW_set (isW_set (isW_set (isW_set h hb 0 v0) b1 1 v1) b2 2 v2) b3 3 v3) b4 4 v4
theorem kp_set {w w' : World} (h : Kp w w') {g2 : Nat} (hg : w.heap.size ≤ g2) (j : Nat) (v : Value) : Kp w (w'.setCell ⟨g2, j, none⟩ v) :=
  ⟨by simpa [World.setCell] using h.size, fun i cs q fr hi h1 h2 => (Below.heap_setCell w' ⟨g2, j, none⟩ v i (fun e => by have e : i = g2 := e; have := blk_lt hi; omega)).trans (h.blk i cs q fr hi h1 h2)⟩
theorem kp_s5 {w w' : World} (h : Kp w w') {g2 : Nat} (hg : w.heap.size ≤ g2) (v0 v1 v2 v3 v4 : Value) : Kp w (((((w'.setCell ⟨g2, 0, none⟩ v0).setCell ⟨g2, 1, none⟩ v1).setCell ⟨g2, 2, none⟩ v2).setCell ⟨g2, 3, none⟩ v3).setCell ⟨g2, 4, none⟩ v4) :=
  kp_set (kp_set (kp_set (kp_set (kp_set h hg 0 v0) hg 1 v1) hg 2 v2) hg 3 v3) hg 4 v4
set_option maxHeartbeats 8000000 in
set_option maxRecDepth 100000 in
theorem doc_calls (root next : Int) (A : Option Addr) (c : Nat) (ns : List Nd) (w0 : World) (hC : kNd.C w0 A ns.length ns) (hc : ns.length ≤ c) (hD : DocW root next ns) (g : Nat) (l : List Int) (w : World) (hW : IsW w w0.heap.size g l) (hB : Below w0.heap.size w0 w) (hl : l.length ≤ 100000) :
    Calls Try.prog 77 #[.pointer (some ⟨g, 0, none⟩), .agg #[.int .i64 root, .int .i64 next, .slice A ns.length c]] w fun e w' => e = .returned (.tuple #[]) ∧ IsW w' w0.heap.size g (l ++ docL root next ns) ∧ Below w0.heap.size w0 w' ∧ Kp w w' := by
  have hu := Try.underlying108
  have hu2 := Try.underlying56
  have HC := Lib.hid hC
  have HD := Lib.hid hD
  have HW := Lib.hid hW
  have HB := Lib.hid hB
  have HL := Lib.hid hl
  have HX0 := Lib.hid (show ∀ x ∈ [root, next, (ns.length : Int)], x < 2097152 from fun x hx => by have := hD.1; have := hD.2.1; simp at hx; omega)
  have HK0 := Lib.hid (Kp.refl w)
  clear hC hD hW hB hl
  go_enter Try.func77, Try.ntmps77
  go_wp2_with (first | ((with_reducible refine gate_dst (N := 3) rfl ?_); refine box_event ?hg (N := 3) ?hd (cs := #[.int .i64 root, .int .i64 next, .slice A ns.length c]) (t := 56) ?hr ?_; (case hd => rfl); (case hg => rfl); (case hr => first | (go_simp; done) | (go_simp; rfl)); intro gd hg w1 hb1 hB1; clear hg; have BK := Lib.hid hb1; have HB1 := Lib.hid (HB.out.trans (hB1.mono HB.out.size)); have HW1 := Lib.hid (HW.out.below hB1); have HK1 := Lib.hid (HK0.out.trans (Kp.below hB1)); have hz0 : w1.cell? ⟨gd, 0, none⟩ = some (.int .i64 root) := (blk_cell hb1 0).trans rfl; have hz1 : w1.cell? ⟨gd, 1, none⟩ = some (.int .i64 next) := (blk_cell hb1 1).trans rfl; have hz2 : w1.cell? ⟨gd, 2, none⟩ = some (.slice A ns.length c) := (blk_cell hb1 2).trans rfl; clear hb1 hB1))
  refine (numbers_lit w0.heap.size g l [root, next, (ns.length : Int)] w1 HW1.out HB1.out.size HX0.out (by have := HL.out; simp only [List.length_cons, List.length_nil]; omega)).mono ?_
  rintro e w2 ⟨rfl, hw2, hb2, hk2⟩
  have hq2 := (hk2.blk _ _ _ _ BK.out (by decide) (by decide)).trans BK.out
  have HB2 := Lib.hid (HB1.out.trans hb2)
  have HW2 := Lib.hid hw2
  have HK2 := Lib.hid (HK1.out.trans hk2)
  have hz2' : w2.cell? ⟨gd, 2, none⟩ = some (.slice A ns.length c) := (blk_cell hq2 2).trans rfl
  clear hz0 hz1 hz2 BK HB1 HW1 HK1 hw2 hb2 hk2 hq2 HB HW
  go_wp2
  go_loopg [19] ns.length (fun kx s19 wr => ∃ i : Nat, s19 = .int .i64 i ∧ i ≤ ns.length ∧ ns.length - i ≤ kx ∧ Aside0 (IsW wr w0.heap.size g (l ++ numsL [root, next, (ns.length : Int)] ++ (ns.take i).flatMap nodeL)) ∧ Aside0 (Below w0.heap.size w0 wr) ∧ Aside0 (Kp w wr))
  case atStart => exact ⟨0, rfl, Nat.zero_le _, by omega, ⟨by simpa using HW2.out⟩, ⟨HB2.out⟩, ⟨HK2.out⟩⟩
  case round =>
    clear HW2 HB2 HK2 hz2'
    obtain ⟨i, rfl, hil, hgi, HW, HB, HK⟩ := hrel
    by_cases hlt : i < ns.length
    · obtain ⟨ad, A4, c4, e4, hx0, hx1, hx2, hx3, hx4, hl4, hi4⟩ := at_T108 HC.out (i : Int) (by omega) (by omega)
      have HNW := Lib.hid (HD.out.2.2 i hlt)
      have HTK := Lib.hid (show (ns.take (i + 1)).flatMap nodeL = (ns.take i).flatMap nodeL ++ nodeL (rdN ns (i : Int)) from by rw [List.take_add_one, List.getElem?_eq_getElem hlt, List.flatMap_append, rdN_get hlt]; simp)
      have HLN := Lib.hid (show (l ++ numsL [root, next, (ns.length : Int)] ++ (ns.take i).flatMap nodeL).length ≤ 200000 from by
        have h1 := nodes_len HD.out.2.2 i hil
        have h2 := numsL_len [root, next, (ns.length : Int)]
        have h3 := HL.out
        have h4 := HD.out.2.1
        rw [List.length_append, List.length_append]
        simp only [List.length_cons, List.length_nil] at h2
        omega)
      cases e4
      rw [Int.toNat_natCast] at hx0 hx1 hx2 hx3 hx4
      replace hx0 := (HB.out.cell (World.block_lt_of_cell? w0 _ hx0)).trans hx0
      replace hx1 := (HB.out.cell (World.block_lt_of_cell? w0 _ hx1)).trans hx1
      replace hx2 := (HB.out.cell (World.block_lt_of_cell? w0 _ hx2)).trans hx2
      replace hx3 := (HB.out.cell (World.block_lt_of_cell? w0 _ hx3)).trans hx3
      replace hx4 := (HB.out.cell (World.block_lt_of_cell? w0 _ hx4)).trans hx4
      have H4 := Lib.hid hi4
      have HL4 := Lib.hid hl4
      clear hi4 hl4
      have HNL := Lib.hid (show nodeL (rdN ns (i : Int)) = numsL [(rd_T108 ns (i : Int)).f0, (rd_T108 ns (i : Int)).f1, (rd_T108 ns (i : Int)).f2] ++ bytesOf (textS (rd_T108 ns (i : Int)).f3) ++ numsL [((rd_T108 ns (i : Int)).f4.length : Int)] ++ numsL (rd_T108 ns (i : Int)).f4 from rfl)
      have HN2 := Lib.hid (show ((rd_T108 ns (i : Int)).f0 < 2097152 ∧ (rd_T108 ns (i : Int)).f1 < 2097152 ∧ (rd_T108 ns (i : Int)).f2 < 2097152) ∧ (rd_T108 ns (i : Int)).f3.size ≤ 20 ∧ (rd_T108 ns (i : Int)).f4.length ≤ 12 ∧ ∀ k ∈ (rd_T108 ns (i : Int)).f4, k < 2097152 from HNW.out)
      clear HNW
      generalize (rd_T108 ns (i : Int)).f0 = q0 at hx0 HNL HN2
      generalize (rd_T108 ns (i : Int)).f1 = q1 at hx1 HNL HN2
      generalize (rd_T108 ns (i : Int)).f2 = q2 at hx2 HNL HN2
      generalize (rd_T108 ns (i : Int)).f3 = q3 at hx3 HNL HN2
      generalize (rd_T108 ns (i : Int)).f4 = q4 at hx4 HNL HN2 H4 HL4
      have HX1 := Lib.hid (show ∀ x ∈ [q0, q1, q2], x < 2097152 from fun x hx => by have := HN2.out.1; simp at hx; omega)
      have HX2 := Lib.hid (show ∀ x ∈ [(q4.length : Int)], x < 2097152 from fun x hx => by have := HN2.out.2.2.1; simp at hx; omega)
      have HX3 := Lib.hid HN2.out.2.2.2
      go_upto_region 5 with (first | ((with_reducible refine gate_dst (N := 5) rfl ?_); refine box_event ?hg (N := 5) ?hd (cs := #[.int .i64 0, .int .i64 0, .int .i64 0, .string (⟨#[]⟩ : ByteArray), .slice none 0 0]) (t := 108) ?hr ?_; (case hd => rfl); (case hg => rfl); (case hr => first | (go_simp; done) | (go_simp; rfl)); intro g2 hg2 w2 hb2 hB2; have GW2 := Lib.hid (show w0.heap.size ≤ g2 from by rw [hg2]; exact HB.out.size); have GNE := Lib.hid (show g2 ≠ g from by rw [hg2]; exact Nat.ne_of_gt HW.out.lt); have GWS := Lib.hid (show w.heap.size ≤ g2 from by rw [hg2]; exact HK.out.size); clear hg2; have BK2 := Lib.hid hb2; have HB2 := Lib.hid (HB.out.trans (hB2.mono HB.out.size)); have HW2 := Lib.hid (HW.out.below hB2); have HK2 := Lib.hid (HK.out.trans (Kp.below hB2)); have hy0 : w2.cell? ⟨g2, 0, none⟩ = some (.int .i64 0) := (blk_cell hb2 0).trans rfl; have hy1 : w2.cell? ⟨g2, 1, none⟩ = some (.int .i64 0) := (blk_cell hb2 1).trans rfl; have hy2 : w2.cell? ⟨g2, 2, none⟩ = some (.int .i64 0) := (blk_cell hb2 2).trans rfl; have hy3 : w2.cell? ⟨g2, 3, none⟩ = some (.string (⟨#[]⟩ : ByteArray)) := (blk_cell hb2 3).trans rfl; have hy4 : w2.cell? ⟨g2, 4, none⟩ = some (.slice none 0 0) := (blk_cell hb2 4).trans rfl; have fy0 := blk_frozen hb2 0; have fy1 := blk_frozen hb2 1; have fy2 := blk_frozen hb2 2; have fy3 := blk_frozen hb2 3; have fy4 := blk_frozen hb2 4; clear hb2 hB2))
      have BK3 := Lib.hid (s5 BK2.out (.int .i64 q0) (.int .i64 q1) (.int .i64 q2) (.string q3) (.slice A4 q4.length c4))
      have HB3 := Lib.hid (s5_below HB2.out GW2.out (.int .i64 q0) (.int .i64 q1) (.int .i64 q2) (.string q3) (.slice A4 q4.length c4))
      have HW3 := Lib.hid (isW_s5 HW2.out BK2.out (.int .i64 q0) (.int .i64 q1) (.int .i64 q2) (.string q3) (.slice A4 q4.length c4))
      have HK3 := Lib.hid (kp_s5 HK2.out GWS.out (.int .i64 q0) (.int .i64 q1) (.int .i64 q2) (.string q3) (.slice A4 q4.length c4))
      generalize (((((w2.setCell ⟨g2, 0, none⟩ (.int .i64 q0)).setCell ⟨g2, 1, none⟩ (.int .i64 q1)).setCell ⟨g2, 2, none⟩ (.int .i64 q2)).setCell ⟨g2, 3, none⟩ (.string q3)).setCell ⟨g2, 4, none⟩ (.slice A4 q4.length c4)) = w3 at BK3 HB3 HW3 HK3 ⊢
      clear hx0 hx1 hx2 hx3 hx4 hy0 hy1 hy2 hy3 hy4 fy0 fy1 fy2 fy3 fy4 BK2 HB2 HW2 HK2 HB HW HK
      have z0 : w3.cell? ⟨g2, 0, none⟩ = some (.int .i64 q0) := (blk_cell BK3.out 0).trans rfl
      have z1 : w3.cell? ⟨g2, 1, none⟩ = some (.int .i64 q1) := (blk_cell BK3.out 1).trans rfl
      have z2 : w3.cell? ⟨g2, 2, none⟩ = some (.int .i64 q2) := (blk_cell BK3.out 2).trans rfl
      go_wp2_with fail
      refine (numbers_lit w0.heap.size g _ [q0, q1, q2] w3 HW3.out HB3.out.size HX1.out (by have := HLN.out; simp only [List.length_cons, List.length_nil]; omega)).mono ?_
      rintro e w4 ⟨rfl, hw4, hb4, hk4⟩
      have BK4 := Lib.hid ((hk4.blk _ _ _ _ BK3.out (by decide) (by decide)).trans BK3.out)
      have HB4 := Lib.hid (HB3.out.trans hb4)
      have HW4 := Lib.hid hw4
      have HK4 := Lib.hid (HK3.out.trans hk4)
      clear z0 z1 z2 BK3 HB3 HW3 HK3 hw4 hb4 hk4
      have z3 : w4.cell? ⟨g2, 3, none⟩ = some (.string q3) := (blk_cell BK4.out 3).trans rfl
      have HTX := Lib.hid (text_eq (t := q3) (by have := HN2.out.2.1; omega))
      have HTL := Lib.hid (show (l ++ numsL [root, next, (ns.length : Int)] ++ (ns.take i).flatMap nodeL ++ numsL [q0, q1, q2]).length + (textS q3).size ≤ 140737488355328 from by
        have h1 := HLN.out
        have h2 := numsL_len [q0, q1, q2]
        have h3 := textS_len q3
        have h4 := HN2.out.2.1
        rw [List.length_append]
        simp only [List.length_cons, List.length_nil] at h2
        omega)
      go_upto_region 6 with fail
      refine start_ (n := 7) (S := fun w' => w'.cell? ⟨g2, 3, none⟩ = some (.string q3)) (ds := []) #[false, false, false, false, false, false, false] (by kernel_rfl) rfl rfl (z3) (fun hHeld => ?_)
      refine pure_ (i := 0) (N := some 32) (v := ?_) (a' := ?_) #[true, false, false, false, false, false, false] rfl rfl (by kernel_rfl) (fun _ _ _ h => h) (Or.inl ⟨by rfl, ?_⟩) ?_ ?_
      rotate_left
      · intro w'
        go_simp
        with_reducible rfl
      rotate_left
      · simp only [Act.put, List.setIfInBounds_toArray, List.set_cons_zero, List.set_cons_succ, i64_w, i32_w]
        rfl
      refine pure_ (i := 1) (N := some 33) (v := ?_) (a' := ?_) #[true, true, false, false, false, false, false] rfl rfl (by kernel_rfl) (fun _ _ _ h => h) (Or.inl ⟨by rfl, ?_⟩) ?_ ?_
      rotate_left
      · intro w'
        go_simp
        with_reducible rfl
      rotate_left
      · simp only [Act.put, List.setIfInBounds_toArray, List.set_cons_zero, List.set_cons_succ, i64_w, i32_w]
        rfl
      refine pure_ (i := 2) (N := some 34) (v := ?_) (a' := ?_) #[true, true, true, false, false, false, false] rfl rfl (by kernel_rfl) (fun _ _ _ h => h) (Or.inl ⟨by rfl, ?_⟩) ?_ ?_
      rotate_left
      · intro w'
        go_simp
        with_reducible rfl
      rotate_left
      · simp only [Act.put, List.setIfInBounds_toArray, List.set_cons_zero, List.set_cons_succ, i64_w, i32_w]
        rfl
      refine pure_ (i := 3) (N := some 35) (v := ?_) (a' := ?_) #[true, true, true, true, false, false, false] rfl rfl (by kernel_rfl) (fun _ _ _ h => h) (Or.inl ⟨by rfl, ?_⟩) ?_ ?_
      rotate_left
      · intro w'
        go_simp
        with_reducible rfl
      rotate_left
      · simp only [Act.put, List.setIfInBounds_toArray, List.set_cons_zero, List.set_cons_succ, i64_w, i32_w]
        rfl
      refine take_ (i := 4) (N := some 36) (v := ?_) (a' := ?_) #[true, true, true, true, true, false, false] rfl rfl (by kernel_rfl) (fun _ _ _ h => h) (Or.inl ⟨by rfl, ?_⟩) hHeld ?_ ?_
      rotate_left
      · intro w' s0
        go_simp
        with_reducible rfl
      rotate_left
      · simp only [Act.put, List.setIfInBounds_toArray, List.set_cons_zero, List.set_cons_succ, i64_w, i32_w]
        rfl
      refine one_ (i := 5) (N := some 37) #[true, true, true, true, true, true, false] rfl rfl (by kernel_rfl) (by decide) (fun K hK => ?_)
      refine goes_ Try.func49 (by kernel_rfl) rfl #[.string q3] (by rfl) rfl rfl (by simp only [List.map_toArray, List.map_cons, List.map_nil]; rfl) ?_
      with_reducible refine (impl_text.calls q3 (textS q3) _ HTX.out).mono ?_
      rintro e w5 ⟨rfl, hb5⟩
      refine ⟨_, rfl, ?_⟩
      have BK5 := Lib.hid (blk_below (show w4.drew.heap[g2]? = _ from BK4.out) hb5)
      have HB5 := Lib.hid ((below_drew1 HB4.out).trans (hb5.mono HB4.out.size))
      have HW5 := Lib.hid (IsW.below (w := w4.drew) HW4.out hb5)
      have HK5 := Lib.hid (HK4.out.trans (show Kp w4 w5 from ⟨(Kp.below hb5).size, (Kp.below hb5).blk⟩))
      refine hK.out _ _ ((blk_cell BK5.out 3).trans rfl) (fun hHeld => ?_)
      clear hK K
      refine norm_ (a' := ?_) ?_ ?_
      rotate_left
      · show Act.put _ (some 37) _ = _
        simp only [Act.put, List.setIfInBounds_toArray, List.set_cons_zero, List.set_cons_succ, i64_w, i32_w]
        rfl
      refine one_ (i := 6) (N := some 38) #[true, true, true, true, true, true, true] rfl rfl (by kernel_rfl) (by decide) (fun K hK => ?_)
      refine goes_ Try.func65 (by kernel_rfl) rfl #[.pointer (some ⟨g, 0, none⟩), .string (textS q3)] (by rfl) rfl rfl (by simp only [List.map_toArray, List.map_cons, List.map_nil]; rfl) ?_
      with_reducible refine (writeW w0.heap.size g _ (textS q3) _ HW5.out HTL.out HB5.out.size).mono ?_
      rintro e w6 ⟨rfl, hw6, hb6, hk6⟩
      refine ⟨_, rfl, ?_⟩
      have BK6 := Lib.hid ((hk6.blk _ _ _ _ BK5.out (by decide) (by decide)).trans BK5.out)
      refine hK.out _ _ ((blk_cell BK6.out 3).trans rfl) (fun hHeld => ?_)
      clear hK K
      refine norm_ (a' := ?_) ?_ ?_
      rotate_left
      · show Act.put _ (some 38) _ = _
        simp only [Act.put, List.setIfInBounds_toArray, List.set_cons_zero, List.set_cons_succ, i64_w, i32_w]
        rfl
      refine done_ (by kernel_rfl) ?_
      
      have HB6 := Lib.hid (HB5.out.trans hb6)
      have HW6 := Lib.hid hw6
      have HK6 := Lib.hid (HK5.out.trans hk6)
      clear z3 BK4 HB4 HW4 HK4 BK5 HB5 HW5 HK5 hw6 hb6 hk6
      have z4 : w6.cell? ⟨g2, 4, none⟩ = some (.slice A4 q4.length c4) := (blk_cell BK6.out 4).trans rfl
      go_wp2_with fail
      have HL6 := Lib.hid (show (l ++ numsL [root, next, (ns.length : Int)] ++ (ns.take i).flatMap nodeL ++ numsL [q0, q1, q2] ++ bytesOf (textS q3)).length ≤ 300000 from by
        have h1 := HLN.out
        have h2 := numsL_len [q0, q1, q2]
        have h3 := textS_len q3
        have h4 := HN2.out.2.1
        rw [List.length_append, List.length_append, bytesOf_len]
        simp only [List.length_cons, List.length_nil] at h2
        omega)
      refine (numbers_lit w0.heap.size g _ [(q4.length : Int)] w6 HW6.out HB6.out.size HX2.out (by have := HL6.out; simp only [List.length_cons, List.length_nil]; omega)).mono ?_
      rintro e w7 ⟨rfl, hw7, hb7, hk7⟩
      have BK7 := Lib.hid ((hk7.blk _ _ _ _ BK6.out (by decide) (by decide)).trans BK6.out)
      have HB7 := Lib.hid (HB6.out.trans hb7)
      have HW7 := Lib.hid hw7
      have HK7 := Lib.hid (HK6.out.trans hk7)
      clear z4 BK6 HB6 HW6 HK6 hw7 hb7 hk7
      have z5 : w7.cell? ⟨g2, 4, none⟩ = some (.slice A4 q4.length c4) := (blk_cell BK7.out 4).trans rfl
      go_wp2_with fail
      refine (numbers w0.heap.size g _ q4 A4 c4 w7 HW7.out HB7.out.size (fun w' _ hb => Kd.C_below H4.out (HB7.out.trans hb)) HX3.out (by
        have h1 := HL6.out
        have h2 := numsL_len [(q4.length : Int)]
        have h3 := HN2.out.2.2.1
        rw [List.length_append]
        simp only [List.length_cons, List.length_nil] at h2
        omega)).mono ?_
      rintro e w8 ⟨rfl, hw8, hb8, hk8⟩
      have HB8 := Lib.hid (HB7.out.trans hb8)
      have HW8 := Lib.hid hw8
      have HK8 := Lib.hid (HK7.out.trans hk8)
      have hil2 := w64_nat (i := i) (by have := HD.out.2.1; omega)
      clear z5 BK7 HB7 HW7 HK7 hw8 hb8 hk8
      go_wp2
      go_roundg (ns.length - (i + 1))
      case measure => omega
      case rel => exact ⟨i + 1, by rw [hil2], hlt, Nat.le_refl _, ⟨by
        rw [HTK.out, HNL.out]
        have := HW8.out
        simpa only [List.append_assoc] using this⟩, ⟨HB8.out⟩, ⟨HK8.out⟩⟩
    · obtain rfl : i = ns.length := by omega
      rw [List.take_length] at HW
      go_wp2
      go_end0
      exact ⟨rfl, by unfold docL; rw [← List.append_assoc]; exact HW.out, HB.out, HK.out⟩
end Go.Proofs.Ytnppmhijoaeibaa.H
set_option linter.unusedVariables false
set_option linter.unusedSimpArgs false
namespace Go.Proofs.Ytnppmhijoaeibaa.H
open Go.RowKit Go.Proofs.YtnppmhijoaeibaaW.PrintWords Go.Proofs.YtnppmhijoaeibaaW.PrintLast Go.Proofs.Ytnppmhijoaeibaa.Q
theorem docW_of {root next : Int} {ns : List Nd} (h : DOK root next ns) : DocW root next ns := by
  have hin : ∀ k, hasP ns k = true → k < 2097152 := fun k hk => by
    obtain ⟨t, ht, he⟩ := hasP_at hk
    have h1 := (h.2.2.1 t ht).1.1
    have h2 := h.2.1
    omega
  have hh := h.2.1
  refine ⟨⟨hin root h.2.2.2.2.1.1, by omega⟩, h.1.2, fun t ht => ?_⟩
  obtain ⟨⟨a1, a2⟩, ⟨b1, b2⟩, ⟨c1, c2⟩, d, e⟩ := (h.2.2.1 t ht).1
  refine ⟨⟨by omega, by omega, by omega⟩, d, e, fun k hk => hin k ?_⟩
  refine (h.2.2.2.1.2 k ?_).2
  exact List.mem_flatMap.2 ⟨_, List.getElem_mem ht, by rw [← rdN_get ht]; exact hk⟩
theorem docL_ne (root next : Int) (ns : List Nd) : docL root next ns ≠ [] := by
  have := putL_ne root
  unfold docL numsL
  simp [this]
theorem docL_range {root next : Int} {ns : List Nd} (h : DocW root next ns) : ∀ x ∈ docL root next ns, 0 ≤ x ∧ x ≤ 255 := by
  intro x hx
  rcases List.mem_append.1 hx with hx | hx
  · exact numsL_range (fun y hy => by have := h.1; have := h.2.1; simp at hy; omega) x hx
  · obtain ⟨n, hn, hx⟩ := List.mem_flatMap.1 hx
    obtain ⟨t, ht, rfl⟩ := List.getElem_of_mem hn
    have hw := h.2.2 t ht
    rw [rdN_get ht] at hw
    obtain ⟨⟨h1, h2, h3⟩, h4, h5, h6⟩ := hw
    unfold nodeL at hx
    rcases List.mem_append.1 hx with hx | hx
    · rcases List.mem_append.1 hx with hx | hx
      · rcases List.mem_append.1 hx with hx | hx
        · exact numsL_range (fun y hy => by simp at hy; omega) x hx
        · exact bytesOf_range _ x hx
      · exact numsL_range (fun y hy => by simp at hy; omega) x hx
    · exact numsL_range h6 x hx
noncomputable def impl_DocText.f (k : Nat) (a0_0 : Int) (a0_1 : Int) (l0_2 : List (S108)) : Option (ByteArray × Int) :=
  (impl_DocOK.f a0_0 a0_1 l0_2).bind fun b => if b = true then (impl_frame.f k (strOfNums (docL a0_0 a0_1 l0_2))).bind fun r => some (r, 0) else some (⟨#[]⟩, 1)
theorem impl_DocText.mono : ∀ a0 a1 a2 k, LeO (impl_DocText.f k a0 a1 a2) (impl_DocText.f (k + 1) a0 a1 a2) := by
  intro a0 a1 a2 k
  unfold impl_DocText.f
  repeat' first
    | (with_reducible exact impl_frame.mono _ _)
    | (with_reducible exact LeO.refl _)
    | (with_reducible exact LeO.none _)
    | (with_reducible refine LeO.ite ?_ ?_)
    | (with_reducible refine LeO.bind ?_ (fun _ => ?_))
set_option maxHeartbeats 4000000 in
set_option maxRecDepth 100000 in
theorem impl_DocText.calls (k : Nat) (a0_0 : Int) (a0_1 : Int) (A0_2 : Option Addr) (c0_2 : Nat) (l0_2 : List (S108)) (r1 : ByteArray) (r2 : Int) (w : World) (hr0_2 : Kd.C k108 w A0_2 l0_2.length l0_2) (hc0_2 : l0_2.length ≤ c0_2) (h : impl_DocText.f k a0_0 a0_1 l0_2 = some (r1, r2)) :
    Calls Try.prog 38 #[.agg #[.int .i64 a0_0, .int .i64 a0_1, .slice A0_2 l0_2.length c0_2]] w fun e w' => e = .returned (.tuple #[.string r1, .int .i64 r2]) ∧ Below w.heap.size w w' := by
  have hu2 := Try.underlying56
  have HC := Lib.hid hr0_2
  have HLC := Lib.hid hc0_2
  unfold impl_DocText.f at h
  obtain ⟨b, hb, h⟩ := Option.bind_eq_some_iff.1 h
  have HOK := Lib.hid hb
  have HH := Lib.hid h
  clear hb h hr0_2 hc0_2
  go_enter Try.func38, Try.ntmps38
  go_wp2_with (first | ((with_reducible refine gate_dst (N := 1) rfl ?_); refine box_event ?hg (N := 1) ?hd (cs := #[.int .i64 a0_0, .int .i64 a0_1, .slice A0_2 l0_2.length c0_2]) (t := 56) ?hr ?_; (case hd => rfl); (case hg => rfl); (case hr => first | (go_simp; done) | (go_simp; rfl)); intro gd hg w1 hb1 hB1; clear hg; have BK := Lib.hid hb1; have HB1 := Lib.hid hB1; have hz0 : w1.cell? ⟨gd, 0, none⟩ = some (.int .i64 a0_0) := (blk_cell hb1 0).trans rfl; have hz1 : w1.cell? ⟨gd, 1, none⟩ = some (.int .i64 a0_1) := (blk_cell hb1 1).trans rfl; have hz2 : w1.cell? ⟨gd, 2, none⟩ = some (.slice A0_2 l0_2.length c0_2) := (blk_cell hb1 2).trans rfl; clear hb1 hB1))
  refine (impl_DocOK.calls a0_0 a0_1 A0_2 c0_2 l0_2 b w1 (Kd.C_below HC.out HB1.out) HLC.out HOK.out).mono ?_
  rintro e w2 ⟨rfl, hb2⟩
  have HB2 := Lib.hid (below_step HB1.out hb2)
  have BK2 := Lib.hid (blk_below BK.out hb2)
  clear hz0 hz1 hz2 hb2 BK HB1
  cases b with
  | false =>
    have h2 := HH.out
    rw [if_neg (by simp)] at h2
    simp only [Option.some.injEq, Prod.mk.injEq] at h2
    obtain ⟨rfl, rfl⟩ := h2
    go_wp2
    go_ret2
    exact ⟨rfl, HB2.out⟩
  | true =>
    have h2 := HH.out
    rw [if_pos rfl] at h2
    obtain ⟨r, hr, h2⟩ := Option.bind_eq_some_iff.1 h2
    simp only [Option.some.injEq, Prod.mk.injEq] at h2
    obtain ⟨rfl, rfl⟩ := h2
    have HR := Lib.hid hr
    have HDW := Lib.hid (show DocW a0_0 a0_1 l0_2 from docW_of (docB_iff.1 (by
      have := HOK.out
      unfold impl_DocOK.f at this
      by_cases c : All64 a0_0 l0_2
      · rw [if_pos c] at this; exact Option.some.inj this
      · rw [if_neg c] at this; cases this)))
    clear hr
    have hz0 : w2.cell? ⟨gd, 0, none⟩ = some (.int .i64 a0_0) := (blk_cell BK2.out 0).trans rfl
    have hz1 : w2.cell? ⟨gd, 1, none⟩ = some (.int .i64 a0_1) := (blk_cell BK2.out 1).trans rfl
    have hz2 : w2.cell? ⟨gd, 2, none⟩ = some (.slice A0_2 l0_2.length c0_2) := (blk_cell BK2.out 2).trans rfl
    go_wp2_with (first | ((with_reducible refine gate_dst (N := 4) rfl ?_); refine box_event ?hg (N := 4) ?hd (cs := #[.pointer none, .slice none 0 0]) (t := 75) ?hr ?_; (case hd => rfl); (case hg => rfl); (case hr => first | (go_simp; done) | (go_simp; rfl)); intro gw hgw w3 hw3 hb3; have BK3 := Lib.hid (blk_below BK2.out hb3); have HB3 := Lib.hid (below_step HB2.out hb3); have HW3 := Lib.hid (show IsW w3 w.heap.size gw [] from .inl ⟨by rw [hgw]; exact HB2.out.size, .slice none 0 0, hw3, own_nil _ _ _ _, by simp [Value.ownBlock]⟩); clear hz0 hz1 hz2 hb3 hgw hw3; have hy0 : w3.cell? ⟨gd, 0, none⟩ = some (.int .i64 a0_0) := (blk_cell BK3.out 0).trans rfl; have hy1 : w3.cell? ⟨gd, 1, none⟩ = some (.int .i64 a0_1) := (blk_cell BK3.out 1).trans rfl; have hy2 : w3.cell? ⟨gd, 2, none⟩ = some (.slice A0_2 l0_2.length c0_2) := (blk_cell BK3.out 2).trans rfl))
    refine (doc_calls a0_0 a0_1 A0_2 c0_2 l0_2 w HC.out HLC.out HDW.out gw [] w3 HW3.out HB3.out (by simp)).mono ?_
    rintro e w4 ⟨rfl, hw4, hb4, hk4⟩
    have HB4 := Lib.hid hb4
    have HW4 := Lib.hid hw4
    clear hy0 hy1 hy2 hw4 hb4 hk4 HW3 HB3 BK3
    go_wp2_with fail
    refine (stringW w.heap.size gw _ w4 HW4.out (by rw [List.nil_append]; exact docL_range HDW.out) (by rw [List.nil_append]; exact docL_ne _ _ _)).mono ?_
    rintro e w5 ⟨rfl, hb5⟩
    rw [List.nil_append]
    have HB5 := Lib.hid (HB4.out.trans hb5)
    go_wp2_with fail
    refine (impl_frame.calls k _ r w5 HR.out).mono ?_
    rintro e w6 ⟨rfl, hb6⟩
    go_wp2
    go_ret2
    exact ⟨rfl, HB5.out.trans (hb6.mono HB5.out.size)⟩
end Go.Proofs.Ytnppmhijoaeibaa.H
