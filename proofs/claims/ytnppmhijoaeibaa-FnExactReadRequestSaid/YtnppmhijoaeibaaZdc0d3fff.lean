/- Several of our texts, one behind the other, without what this claim does not need: Rdr, TakeReq, L10Req, ReadM. -/
import Derived.Test.YtnppmhijoaeibaaZ9f904f2b
import Derived.Test.YtnppmhijoaeibaaZbec7c042
import Derived.Test.YtnppmhijoaeibaaZ119db45c
set_option linter.unusedVariables false
set_option linter.unusedSimpArgs false
namespace Go.Proofs.Ytnppmhijoaeibaa.H
open Go.RowKit Go.Proofs.YtnppmhijoaeibaaW.PrintWords Go.Proofs.YtnppmhijoaeibaaW.PrintLast Go.Proofs.Ytnppmhijoaeibaa.Q
def impl_reader_number.f (k : Nat) (s : ByteArray) (a c : Int) : Option (Int × ByteArray × Int × Int) :=
  if c = 0 then (impl_takeNumber.f k s a).bind fun r => if r.2 = 0 then (impl_number.f r.1).bind fun t => some (r.1, s, wrap64 (a + (t.size : Int)), 0) else some (r.1, s, a, r.2) else some (0, s, a, c)
set_option maxHeartbeats 4000000 in
set_option maxRecDepth 100000 in
theorem impl_reader_number.calls (k : Nat) (g : Nat) (s : ByteArray) (a c : Int) (r1 : Int) (r2 : ByteArray) (r3 r4 : Int) (w0 w : World) (hI : IsS133 w0 w g s a c) (hB : Below w0.heap.size w0 w) (h : impl_reader_number.f k s a c = some (r1, r2, r3, r4)) :
    Calls Try.prog 106 #[.pointer (some ⟨g, 0, none⟩)] w fun e w' => e = .returned (.int .i64 r1) ∧ IsS133 w0 w' g r2 r3 r4 ∧ Below w0.heap.size w0 w' ∧ KeepBut w w' g none := by
  obtain ⟨hg, hge⟩ := hI
  have hc0 : w.cell? ⟨g, 0, none⟩ = some (.string s) := (blk_cell hg 0).trans rfl
  have hc1 : w.cell? ⟨g, 1, none⟩ = some (.int .i64 a) := (blk_cell hg 1).trans rfl
  have hc2 : w.cell? ⟨g, 2, none⟩ = some (.int .i64 c) := (blk_cell hg 2).trans rfl
  unfold impl_reader_number.f at h
  by_cases c0 : c = 0
  · rw [if_pos c0] at h
    obtain ⟨⟨n, cd⟩, ht, h⟩ := Option.bind_eq_some_iff.1 h
    have HT := Lib.hid ht
    have c0b : (c != 0) = false := bne_eq_false_iff_eq.mpr c0
    clear ht c0
    dsimp only at h
    by_cases c1 : cd = 0
    · rw [if_pos c1] at h
      obtain ⟨t, hn, h⟩ := Option.bind_eq_some_iff.1 h
      simp only [Option.some.injEq, Prod.mk.injEq] at h
      obtain ⟨rfl, rfl, rfl, rfl⟩ := h
      have HN := Lib.hid hn
      have c1b : (cd == 0) = true := beq_iff_eq.mpr c1
      have C1 := Lib.hid c1
      clear hn c1
      go_enter Try.func106, Try.ntmps106
      go_wp2_with fail
      refine start_ (n := 17) (S := fun w' => w'.cell? ⟨g, 0, none⟩ = some (.string s) ∧ w'.cell? ⟨g, 1, none⟩ = some (.int .i64 a)) (ds := []) #[false, false, false, false, false, false, false, false, false, false, false, false, false, false, false, false, false] (by kernel_rfl) rfl rfl ⟨hc0, hc1⟩ (fun hHeld => ?_)
      refine pure_ (i := 0) (N := some 10) (v := ?_) (a' := ?_) #[true, false, false, false, false, false, false, false, false, false, false, false, false, false, false, false, false] rfl rfl (by kernel_rfl) (fun _ _ _ h => h) (Or.inl ⟨by rfl, ?_⟩) ?_ ?_
      rotate_left
      · intro w'
        go_simp
        with_reducible rfl
      rotate_left
      · simp only [Act.put, List.setIfInBounds_toArray, List.set_cons_zero, List.set_cons_succ, i64_w, i32_w]
        rfl
      refine pure_ (i := 1) (N := some 11) (v := ?_) (a' := ?_) #[true, true, false, false, false, false, false, false, false, false, false, false, false, false, false, false, false] rfl rfl (by kernel_rfl) (fun _ _ _ h => h) (Or.inl ⟨by rfl, ?_⟩) ?_ ?_
      rotate_left
      · intro w'
        go_simp
        with_reducible rfl
      rotate_left
      · simp only [Act.put, List.setIfInBounds_toArray, List.set_cons_zero, List.set_cons_succ, i64_w, i32_w]
        rfl
      refine pure_ (i := 2) (N := some 12) (v := ?_) (a' := ?_) #[true, true, true, false, false, false, false, false, false, false, false, false, false, false, false, false, false] rfl rfl (by kernel_rfl) (fun _ _ _ h => h) (Or.inl ⟨by rfl, ?_⟩) ?_ ?_
      rotate_left
      · intro w'
        go_simp
        with_reducible rfl
      rotate_left
      · simp only [Act.put, List.setIfInBounds_toArray, List.set_cons_zero, List.set_cons_succ, i64_w, i32_w]
        rfl
      refine pure_ (i := 3) (N := some 13) (v := ?_) (a' := ?_) #[true, true, true, true, false, false, false, false, false, false, false, false, false, false, false, false, false] rfl rfl (by kernel_rfl) (fun _ _ _ h => h) (Or.inl ⟨by rfl, ?_⟩) ?_ ?_
      rotate_left
      · intro w'
        go_simp
        with_reducible rfl
      rotate_left
      · simp only [Act.put, List.setIfInBounds_toArray, List.set_cons_zero, List.set_cons_succ, i64_w, i32_w]
        rfl
      refine pure_ (i := 5) (N := some 15) (v := ?_) (a' := ?_) #[true, true, true, true, false, true, false, false, false, false, false, false, false, false, false, false, false] rfl rfl (by kernel_rfl) (fun _ _ _ h => h) (Or.inl ⟨by rfl, ?_⟩) ?_ ?_
      rotate_left
      · intro w'
        go_simp
        with_reducible rfl
      rotate_left
      · simp only [Act.put, List.setIfInBounds_toArray, List.set_cons_zero, List.set_cons_succ, i64_w, i32_w]
        rfl
      refine pure_ (i := 6) (N := some 16) (v := ?_) (a' := ?_) #[true, true, true, true, false, true, true, false, false, false, false, false, false, false, false, false, false] rfl rfl (by kernel_rfl) (fun _ _ _ h => h) (Or.inl ⟨by rfl, ?_⟩) ?_ ?_
      rotate_left
      · intro w'
        go_simp
        with_reducible rfl
      rotate_left
      · simp only [Act.put, List.setIfInBounds_toArray, List.set_cons_zero, List.set_cons_succ, i64_w, i32_w]
        rfl
      refine pure_ (i := 7) (N := some 17) (v := ?_) (a' := ?_) #[true, true, true, true, false, true, true, true, false, false, false, false, false, false, false, false, false] rfl rfl (by kernel_rfl) (fun _ _ _ h => h) (Or.inl ⟨by rfl, ?_⟩) ?_ ?_
      rotate_left
      · intro w'
        go_simp
        with_reducible rfl
      rotate_left
      · simp only [Act.put, List.setIfInBounds_toArray, List.set_cons_zero, List.set_cons_succ, i64_w, i32_w]
        rfl
      refine take_ (i := 4) (N := some 14) (v := ?_) (a' := ?_) #[true, true, true, true, true, true, true, true, false, false, false, false, false, false, false, false, false] rfl rfl (by kernel_rfl) (fun _ _ _ h => h) (Or.inl ⟨by rfl, ?_⟩) hHeld ?_ ?_
      rotate_left
      · rintro w' ⟨s0, s1⟩
        go_simp
        with_reducible rfl
      rotate_left
      · simp only [Act.put, List.setIfInBounds_toArray, List.set_cons_zero, List.set_cons_succ, i64_w, i32_w]
        rfl
      refine take_ (i := 8) (N := some 18) (v := ?_) (a' := ?_) #[true, true, true, true, true, true, true, true, true, false, false, false, false, false, false, false, false] rfl rfl (by kernel_rfl) (fun _ _ _ h => h) (Or.inl ⟨by rfl, ?_⟩) hHeld ?_ ?_
      rotate_left
      · rintro w' ⟨s0, s1⟩
        go_simp
        with_reducible rfl
      rotate_left
      · simp only [Act.put, List.setIfInBounds_toArray, List.set_cons_zero, List.set_cons_succ, i64_w, i32_w]
        rfl
      refine one_ (i := 9) (N := some 19) #[true, true, true, true, true, true, true, true, true, true, false, false, false, false, false, false, false] rfl rfl (by kernel_rfl) (by decide) (fun K hK => ?_)
      refine goes_ Try.func56 (by kernel_rfl) rfl #[.string s, .int .i64 a] (by rfl) rfl rfl (by simp only [List.map_toArray, List.map_cons, List.map_nil]; rfl) ?_
      with_reducible refine (impl_takeNumber.calls k s a n cd _ HT.out).mono ?_
      rintro e w5 ⟨rfl, hd⟩
      refine ⟨_, rfl, ?_⟩
      have hg5 := blk_below (show w.drew.heap[g]? = _ from hg) hd.below
      have hb5 := hd.below
      have he2 : w5.cell? ⟨g, 2, none⟩ = some (.int .i64 c) := (blk_cell hg5 2).trans rfl
      have hf2 : w5.frozen? ⟨g, 2, none⟩ = false := blk_frozen hg5 2
      refine hK.out _ _ ⟨(blk_cell hg5 0).trans rfl, (blk_cell hg5 1).trans rfl⟩ (fun hHeld => ?_)
      clear hK K
      refine norm_ (a' := ?_) ?_ ?_
      rotate_left
      · show Act.put _ (some 19) _ = _
        simp only [Act.put, List.setIfInBounds_toArray, List.set_cons_zero, List.set_cons_succ, i64_w, i32_w]
        rfl
      refine pure_ (i := 10) (N := some 9) (v := ?_) (a' := ?_) #[true, true, true, true, true, true, true, true, true, true, true, false, false, false, false, false, false] rfl rfl (by kernel_rfl) (fun _ _ _ h => h) (Or.inl ⟨by rfl, ?_⟩) ?_ ?_
      rotate_left
      · intro w'
        go_simp
        with_reducible rfl
      rotate_left
      · simp only [Act.put, List.setIfInBounds_toArray, List.set_cons_zero, List.set_cons_succ, i64_w, i32_w]
        rfl
      refine pure_ (i := 11) (N := some 20) (v := ?_) (a' := ?_) #[true, true, true, true, true, true, true, true, true, true, true, true, false, false, false, false, false] rfl rfl (by kernel_rfl) (fun _ _ _ h => h) (Or.inl ⟨by rfl, ?_⟩) ?_ ?_
      rotate_left
      · intro w'
        go_simp
        with_reducible rfl
      rotate_left
      · simp only [Act.put, List.setIfInBounds_toArray, List.set_cons_zero, List.set_cons_succ, i64_w, i32_w]
        rfl
      refine pure_ (i := 12) (N := some 21) (v := ?_) (a' := ?_) #[true, true, true, true, true, true, true, true, true, true, true, true, true, false, false, false, false] rfl rfl (by kernel_rfl) (fun _ _ _ h => h) (Or.inl ⟨by rfl, ?_⟩) ?_ ?_
      rotate_left
      · intro w'
        go_simp
        with_reducible rfl
      rotate_left
      · simp only [Act.put, List.setIfInBounds_toArray, List.set_cons_zero, List.set_cons_succ, i64_w, i32_w]
        rfl
      refine pure_ (i := 13) (N := some 3) (v := ?_) (a' := ?_) #[true, true, true, true, true, true, true, true, true, true, true, true, true, true, false, false, false] rfl rfl (by kernel_rfl) (fun _ _ _ h => h) (Or.inl ⟨by rfl, ?_⟩) ?_ ?_
      rotate_left
      · intro w'
        go_simp
        with_reducible rfl
      rotate_left
      · simp only [Act.put, List.setIfInBounds_toArray, List.set_cons_zero, List.set_cons_succ, i64_w, i32_w]
        rfl
      refine pure_ (i := 14) (N := some 22) (v := ?_) (a' := ?_) #[true, true, true, true, true, true, true, true, true, true, true, true, true, true, true, false, false] rfl rfl (by kernel_rfl) (fun _ _ _ h => h) (Or.inl ⟨by rfl, ?_⟩) ?_ ?_
      rotate_left
      · intro w'
        go_simp
        with_reducible rfl
      rotate_left
      · simp only [Act.put, List.setIfInBounds_toArray, List.set_cons_zero, List.set_cons_succ, i64_w, i32_w]
        rfl
      refine pure_ (i := 15) (N := some 23) (v := ?_) (a' := ?_) #[true, true, true, true, true, true, true, true, true, true, true, true, true, true, true, true, false] rfl rfl (by kernel_rfl) (fun _ _ _ h => h) (Or.inl ⟨by rfl, ?_⟩) ?_ ?_
      rotate_left
      · intro w'
        go_simp
        with_reducible rfl
      rotate_left
      · simp only [Act.put, List.setIfInBounds_toArray, List.set_cons_zero, List.set_cons_succ, i64_w, i32_w]
        rfl
      refine one_ (i := 16) (N := none) #[true, true, true, true, true, true, true, true, true, true, true, true, true, true, true, true, true] rfl rfl (by kernel_rfl) (by decide) (fun K hK => ?_)
      refine skip_ (w1 := ?_) (by rfl) rfl ?_ ?_
      rotate_left
      · go_simp
        rfl
      refine hK.out _ _ ⟨(blk_cell (blk_set hg5 2 _) 0).trans rfl, (blk_cell (blk_set hg5 2 _) 1).trans rfl⟩ (fun hHeld => ?_)
      clear hK K
      refine done_ (by kernel_rfl) ?_
      
      have hg6 : (w5.setCell ⟨g, 2, none⟩ (.int .i64 cd)).heap[g]? = some (.cells #[.string s, .int .i64 a, .int .i64 cd] 133 (0, 0)) := blk_put hg5 2 _ rfl
      have HB6 := Lib.hid (show Below w0.heap.size w0 (w5.setCell ⟨g, 2, none⟩ (.int .i64 cd)) from ((below_drew1 hB).trans (hb5.mono hB.size)).setCell (p := ⟨g, 2, none⟩) hge _)
      have HK6 := Lib.hid (show KeepBut w (w5.setCell ⟨g, 2, none⟩ (.int .i64 cd)) g none from KeepBut.set_ (KeepBut.of_below hb5 g none) 2 _)
      generalize w5.setCell ⟨g, 2, none⟩ (.int .i64 cd) = w6 at *
      have hd2 : w6.cell? ⟨g, 2, none⟩ = some (.int .i64 cd) := (blk_cell hg6 2).trans rfl
      go_wp2_with fail
      have hd1 : w6.cell? ⟨g, 1, none⟩ = some (.int .i64 a) := (blk_cell hg6 1).trans rfl
      have hf1 : w6.frozen? ⟨g, 1, none⟩ = false := blk_frozen hg6 1
      refine start_ (n := 11) (S := fun w' => w'.cell? ⟨g, 1, none⟩ = some (.int .i64 a)) (ds := [10]) #[false, false, false, false, false, false, false, false, false, false, false] (by kernel_rfl) rfl rfl (hd1) (fun hHeld => ?_)
      refine pure_ (i := 0) (N := some 29) (v := ?_) (a' := ?_) #[true, false, false, false, false, false, false, false, false, false, false] rfl rfl (by kernel_rfl) (fun _ _ _ h => h) (Or.inl ⟨by rfl, ?_⟩) ?_ ?_
      rotate_left
      · intro w'
        go_simp
        with_reducible rfl
      rotate_left
      · simp only [Act.put, List.setIfInBounds_toArray, List.set_cons_zero, List.set_cons_succ, i64_w, i32_w]
        rfl
      refine pure_ (i := 1) (N := some 30) (v := ?_) (a' := ?_) #[true, true, false, false, false, false, false, false, false, false, false] rfl rfl (by kernel_rfl) (fun _ _ _ h => h) (Or.inl ⟨by rfl, ?_⟩) ?_ ?_
      rotate_left
      · intro w'
        go_simp
        with_reducible rfl
      rotate_left
      · simp only [Act.put, List.setIfInBounds_toArray, List.set_cons_zero, List.set_cons_succ, i64_w, i32_w]
        rfl
      refine pure_ (i := 2) (N := some 31) (v := ?_) (a' := ?_) #[true, true, true, false, false, false, false, false, false, false, false] rfl rfl (by kernel_rfl) (fun _ _ _ h => h) (Or.inl ⟨by rfl, ?_⟩) ?_ ?_
      rotate_left
      · intro w'
        go_simp
        with_reducible rfl
      rotate_left
      · simp only [Act.put, List.setIfInBounds_toArray, List.set_cons_zero, List.set_cons_succ, i64_w, i32_w]
        rfl
      refine pure_ (i := 4) (N := some 33) (v := ?_) (a' := ?_) #[true, true, true, false, true, false, false, false, false, false, false] rfl rfl (by kernel_rfl) (fun _ _ _ h => h) (Or.inl ⟨by rfl, ?_⟩) ?_ ?_
      rotate_left
      · intro w'
        go_simp
        with_reducible rfl
      rotate_left
      · simp only [Act.put, List.setIfInBounds_toArray, List.set_cons_zero, List.set_cons_succ, i64_w, i32_w]
        rfl
      refine take_ (i := 3) (N := some 32) (v := ?_) (a' := ?_) #[true, true, true, true, true, false, false, false, false, false, false] rfl rfl (by kernel_rfl) (fun _ _ _ h => h) (Or.inl ⟨by rfl, ?_⟩) hHeld ?_ ?_
      rotate_left
      · intro w' s0
        go_simp
        with_reducible rfl
      rotate_left
      · simp only [Act.put, List.setIfInBounds_toArray, List.set_cons_zero, List.set_cons_succ, i64_w, i32_w]
        rfl
      refine one_ (i := 5) (N := some 34) #[true, true, true, true, true, true, false, false, false, false, false] rfl rfl (by kernel_rfl) (by decide) (fun K hK => ?_)
      refine goes_ Try.func46 (by kernel_rfl) rfl #[.int .i64 n] (by rfl) rfl rfl (by simp only [List.map_toArray, List.map_cons, List.map_nil]; rfl) ?_
      with_reducible refine (impl_number.calls n t _ HN.out).mono ?_
      rintro e w7 ⟨rfl, hb7⟩
      refine ⟨_, rfl, ?_⟩
      have hg7 := blk_below (show w6.drew.heap[g]? = _ from hg6) hb7
      have he1 : w7.cell? ⟨g, 1, none⟩ = some (.int .i64 a) := (blk_cell hg7 1).trans rfl
      have hfe : w7.frozen? ⟨g, 1, none⟩ = false := blk_frozen hg7 1
      refine hK.out _ _ (he1) (fun hHeld => ?_)
      clear hK K
      refine norm_ (a' := ?_) ?_ ?_
      rotate_left
      · show Act.put _ (some 34) _ = _
        simp only [Act.put, List.setIfInBounds_toArray, List.set_cons_zero, List.set_cons_succ, i64_w, i32_w]
        rfl
      refine pure_ (i := 6) (N := some 35) (v := ?_) (a' := ?_) #[true, true, true, true, true, true, true, false, false, false, false] rfl rfl (by kernel_rfl) (fun _ _ _ h => h) (Or.inl ⟨by rfl, ?_⟩) ?_ ?_
      rotate_left
      · intro w'
        go_simp
        with_reducible rfl
      rotate_left
      · simp only [Act.put, List.setIfInBounds_toArray, List.set_cons_zero, List.set_cons_succ, i64_w, i32_w]
        rfl
      refine pure_ (i := 7) (N := some 36) (v := ?_) (a' := ?_) #[true, true, true, true, true, true, true, true, false, false, false] rfl rfl (by kernel_rfl) (fun _ _ _ h => h) (Or.inl ⟨by rfl, ?_⟩) ?_ ?_
      rotate_left
      · intro w'
        go_simp
        with_reducible rfl
      rotate_left
      · simp only [Act.put, List.setIfInBounds_toArray, List.set_cons_zero, List.set_cons_succ, i64_w, i32_w]
        rfl
      refine pure_ (i := 8) (N := some 37) (v := ?_) (a' := ?_) #[true, true, true, true, true, true, true, true, true, false, false] rfl rfl (by kernel_rfl) (fun _ _ _ h => h) (Or.inl ⟨by rfl, ?_⟩) ?_ ?_
      rotate_left
      · intro w'
        go_simp
        with_reducible rfl
      rotate_left
      · simp only [Act.put, List.setIfInBounds_toArray, List.set_cons_zero, List.set_cons_succ, i64_w, i32_w]
        rfl
      refine pure_ (i := 9) (N := some 38) (v := ?_) (a' := ?_) #[true, true, true, true, true, true, true, true, true, true, false] rfl rfl (by kernel_rfl) (fun _ _ _ h => h) (Or.inl ⟨by rfl, ?_⟩) ?_ ?_
      rotate_left
      · intro w'
        go_simp
        with_reducible rfl
      rotate_left
      · simp only [Act.put, List.setIfInBounds_toArray, List.set_cons_zero, List.set_cons_succ, i64_w, i32_w]
        rfl
      refine last_ (i := 10) (N := none) #[true, true, true, true, true, true, true, true, true, true, true] rfl rfl (by kernel_rfl) (by decide) (fun K hK => ?_)
      refine skip_ (w1 := ?_) (by rfl) rfl ?_ ?_
      rotate_left
      · go_simp
        rfl
      refine hK.out _ _ ?_
      clear hK K
      refine done_ (by kernel_rfl) ?_
      
      have hg8 : (w7.setCell ⟨g, 1, none⟩ (.int .i64 (wrap64 (a + (t.size : Int))))).heap[g]? = some (.cells #[.string s, .int .i64 (wrap64 (a + (t.size : Int))), .int .i64 cd] 133 (0, 0)) := blk_put hg7 1 _ rfl
      have HB8 := Lib.hid (show Below w0.heap.size w0 (w7.setCell ⟨g, 1, none⟩ (.int .i64 (wrap64 (a + (t.size : Int))))) from ((below_drew1 HB6.out).trans (hb7.mono HB6.out.size)).setCell (p := ⟨g, 1, none⟩) hge _)
      have HK8 := Lib.hid (show KeepBut w (w7.setCell ⟨g, 1, none⟩ (.int .i64 (wrap64 (a + (t.size : Int))))) g none from KeepBut.set_ (HK6.out.trans (show KeepBut w6 w7 g none from KeepBut.of_below hb7 g none) (.inl rfl)) 1 _)
      rw [C1.out] at hg8
      generalize w7.setCell ⟨g, 1, none⟩ (.int .i64 (wrap64 (a + (t.size : Int)))) = w8 at *
      go_wp2
      go_ret
      exact ⟨rfl, ⟨hg8, hge⟩, HB8.out, HK8.out⟩
    · rw [if_neg c1] at h
      simp only [Option.some.injEq, Prod.mk.injEq] at h
      obtain ⟨rfl, rfl, rfl, rfl⟩ := h
      have c1b : (cd == 0) = false := beq_eq_false_iff_ne.mpr c1
      clear c1
      go_enter Try.func106, Try.ntmps106
      go_wp2_with fail
      refine start_ (n := 17) (S := fun w' => w'.cell? ⟨g, 0, none⟩ = some (.string s) ∧ w'.cell? ⟨g, 1, none⟩ = some (.int .i64 a)) (ds := []) #[false, false, false, false, false, false, false, false, false, false, false, false, false, false, false, false, false] (by kernel_rfl) rfl rfl ⟨hc0, hc1⟩ (fun hHeld => ?_)
      refine pure_ (i := 0) (N := some 10) (v := ?_) (a' := ?_) #[true, false, false, false, false, false, false, false, false, false, false, false, false, false, false, false, false] rfl rfl (by kernel_rfl) (fun _ _ _ h => h) (Or.inl ⟨by rfl, ?_⟩) ?_ ?_
      rotate_left
      · intro w'
        go_simp
        with_reducible rfl
      rotate_left
      · simp only [Act.put, List.setIfInBounds_toArray, List.set_cons_zero, List.set_cons_succ, i64_w, i32_w]
        rfl
      refine pure_ (i := 1) (N := some 11) (v := ?_) (a' := ?_) #[true, true, false, false, false, false, false, false, false, false, false, false, false, false, false, false, false] rfl rfl (by kernel_rfl) (fun _ _ _ h => h) (Or.inl ⟨by rfl, ?_⟩) ?_ ?_
      rotate_left
      · intro w'
        go_simp
        with_reducible rfl
      rotate_left
      · simp only [Act.put, List.setIfInBounds_toArray, List.set_cons_zero, List.set_cons_succ, i64_w, i32_w]
        rfl
      refine pure_ (i := 2) (N := some 12) (v := ?_) (a' := ?_) #[true, true, true, false, false, false, false, false, false, false, false, false, false, false, false, false, false] rfl rfl (by kernel_rfl) (fun _ _ _ h => h) (Or.inl ⟨by rfl, ?_⟩) ?_ ?_
      rotate_left
      · intro w'
        go_simp
        with_reducible rfl
      rotate_left
      · simp only [Act.put, List.setIfInBounds_toArray, List.set_cons_zero, List.set_cons_succ, i64_w, i32_w]
        rfl
      refine pure_ (i := 3) (N := some 13) (v := ?_) (a' := ?_) #[true, true, true, true, false, false, false, false, false, false, false, false, false, false, false, false, false] rfl rfl (by kernel_rfl) (fun _ _ _ h => h) (Or.inl ⟨by rfl, ?_⟩) ?_ ?_
      rotate_left
      · intro w'
        go_simp
        with_reducible rfl
      rotate_left
      · simp only [Act.put, List.setIfInBounds_toArray, List.set_cons_zero, List.set_cons_succ, i64_w, i32_w]
        rfl
      refine pure_ (i := 5) (N := some 15) (v := ?_) (a' := ?_) #[true, true, true, true, false, true, false, false, false, false, false, false, false, false, false, false, false] rfl rfl (by kernel_rfl) (fun _ _ _ h => h) (Or.inl ⟨by rfl, ?_⟩) ?_ ?_
      rotate_left
      · intro w'
        go_simp
        with_reducible rfl
      rotate_left
      · simp only [Act.put, List.setIfInBounds_toArray, List.set_cons_zero, List.set_cons_succ, i64_w, i32_w]
        rfl
      refine pure_ (i := 6) (N := some 16) (v := ?_) (a' := ?_) #[true, true, true, true, false, true, true, false, false, false, false, false, false, false, false, false, false] rfl rfl (by kernel_rfl) (fun _ _ _ h => h) (Or.inl ⟨by rfl, ?_⟩) ?_ ?_
      rotate_left
      · intro w'
        go_simp
        with_reducible rfl
      rotate_left
      · simp only [Act.put, List.setIfInBounds_toArray, List.set_cons_zero, List.set_cons_succ, i64_w, i32_w]
        rfl
      refine pure_ (i := 7) (N := some 17) (v := ?_) (a' := ?_) #[true, true, true, true, false, true, true, true, false, false, false, false, false, false, false, false, false] rfl rfl (by kernel_rfl) (fun _ _ _ h => h) (Or.inl ⟨by rfl, ?_⟩) ?_ ?_
      rotate_left
      · intro w'
        go_simp
        with_reducible rfl
      rotate_left
      · simp only [Act.put, List.setIfInBounds_toArray, List.set_cons_zero, List.set_cons_succ, i64_w, i32_w]
        rfl
      refine take_ (i := 4) (N := some 14) (v := ?_) (a' := ?_) #[true, true, true, true, true, true, true, true, false, false, false, false, false, false, false, false, false] rfl rfl (by kernel_rfl) (fun _ _ _ h => h) (Or.inl ⟨by rfl, ?_⟩) hHeld ?_ ?_
      rotate_left
      · rintro w' ⟨s0, s1⟩
        go_simp
        with_reducible rfl
      rotate_left
      · simp only [Act.put, List.setIfInBounds_toArray, List.set_cons_zero, List.set_cons_succ, i64_w, i32_w]
        rfl
      refine take_ (i := 8) (N := some 18) (v := ?_) (a' := ?_) #[true, true, true, true, true, true, true, true, true, false, false, false, false, false, false, false, false] rfl rfl (by kernel_rfl) (fun _ _ _ h => h) (Or.inl ⟨by rfl, ?_⟩) hHeld ?_ ?_
      rotate_left
      · rintro w' ⟨s0, s1⟩
        go_simp
        with_reducible rfl
      rotate_left
      · simp only [Act.put, List.setIfInBounds_toArray, List.set_cons_zero, List.set_cons_succ, i64_w, i32_w]
        rfl
      refine one_ (i := 9) (N := some 19) #[true, true, true, true, true, true, true, true, true, true, false, false, false, false, false, false, false] rfl rfl (by kernel_rfl) (by decide) (fun K hK => ?_)
      refine goes_ Try.func56 (by kernel_rfl) rfl #[.string s, .int .i64 a] (by rfl) rfl rfl (by simp only [List.map_toArray, List.map_cons, List.map_nil]; rfl) ?_
      with_reducible refine (impl_takeNumber.calls k s a n cd _ HT.out).mono ?_
      rintro e w5 ⟨rfl, hd⟩
      refine ⟨_, rfl, ?_⟩
      have hg5 := blk_below (show w.drew.heap[g]? = _ from hg) hd.below
      have hb5 := hd.below
      have he2 : w5.cell? ⟨g, 2, none⟩ = some (.int .i64 c) := (blk_cell hg5 2).trans rfl
      have hf2 : w5.frozen? ⟨g, 2, none⟩ = false := blk_frozen hg5 2
      refine hK.out _ _ ⟨(blk_cell hg5 0).trans rfl, (blk_cell hg5 1).trans rfl⟩ (fun hHeld => ?_)
      clear hK K
      refine norm_ (a' := ?_) ?_ ?_
      rotate_left
      · show Act.put _ (some 19) _ = _
        simp only [Act.put, List.setIfInBounds_toArray, List.set_cons_zero, List.set_cons_succ, i64_w, i32_w]
        rfl
      refine pure_ (i := 10) (N := some 9) (v := ?_) (a' := ?_) #[true, true, true, true, true, true, true, true, true, true, true, false, false, false, false, false, false] rfl rfl (by kernel_rfl) (fun _ _ _ h => h) (Or.inl ⟨by rfl, ?_⟩) ?_ ?_
      rotate_left
      · intro w'
        go_simp
        with_reducible rfl
      rotate_left
      · simp only [Act.put, List.setIfInBounds_toArray, List.set_cons_zero, List.set_cons_succ, i64_w, i32_w]
        rfl
      refine pure_ (i := 11) (N := some 20) (v := ?_) (a' := ?_) #[true, true, true, true, true, true, true, true, true, true, true, true, false, false, false, false, false] rfl rfl (by kernel_rfl) (fun _ _ _ h => h) (Or.inl ⟨by rfl, ?_⟩) ?_ ?_
      rotate_left
      · intro w'
        go_simp
        with_reducible rfl
      rotate_left
      · simp only [Act.put, List.setIfInBounds_toArray, List.set_cons_zero, List.set_cons_succ, i64_w, i32_w]
        rfl
      refine pure_ (i := 12) (N := some 21) (v := ?_) (a' := ?_) #[true, true, true, true, true, true, true, true, true, true, true, true, true, false, false, false, false] rfl rfl (by kernel_rfl) (fun _ _ _ h => h) (Or.inl ⟨by rfl, ?_⟩) ?_ ?_
      rotate_left
      · intro w'
        go_simp
        with_reducible rfl
      rotate_left
      · simp only [Act.put, List.setIfInBounds_toArray, List.set_cons_zero, List.set_cons_succ, i64_w, i32_w]
        rfl
      refine pure_ (i := 13) (N := some 3) (v := ?_) (a' := ?_) #[true, true, true, true, true, true, true, true, true, true, true, true, true, true, false, false, false] rfl rfl (by kernel_rfl) (fun _ _ _ h => h) (Or.inl ⟨by rfl, ?_⟩) ?_ ?_
      rotate_left
      · intro w'
        go_simp
        with_reducible rfl
      rotate_left
      · simp only [Act.put, List.setIfInBounds_toArray, List.set_cons_zero, List.set_cons_succ, i64_w, i32_w]
        rfl
      refine pure_ (i := 14) (N := some 22) (v := ?_) (a' := ?_) #[true, true, true, true, true, true, true, true, true, true, true, true, true, true, true, false, false] rfl rfl (by kernel_rfl) (fun _ _ _ h => h) (Or.inl ⟨by rfl, ?_⟩) ?_ ?_
      rotate_left
      · intro w'
        go_simp
        with_reducible rfl
      rotate_left
      · simp only [Act.put, List.setIfInBounds_toArray, List.set_cons_zero, List.set_cons_succ, i64_w, i32_w]
        rfl
      refine pure_ (i := 15) (N := some 23) (v := ?_) (a' := ?_) #[true, true, true, true, true, true, true, true, true, true, true, true, true, true, true, true, false] rfl rfl (by kernel_rfl) (fun _ _ _ h => h) (Or.inl ⟨by rfl, ?_⟩) ?_ ?_
      rotate_left
      · intro w'
        go_simp
        with_reducible rfl
      rotate_left
      · simp only [Act.put, List.setIfInBounds_toArray, List.set_cons_zero, List.set_cons_succ, i64_w, i32_w]
        rfl
      refine one_ (i := 16) (N := none) #[true, true, true, true, true, true, true, true, true, true, true, true, true, true, true, true, true] rfl rfl (by kernel_rfl) (by decide) (fun K hK => ?_)
      refine skip_ (w1 := ?_) (by rfl) rfl ?_ ?_
      rotate_left
      · go_simp
        rfl
      refine hK.out _ _ ⟨(blk_cell (blk_set hg5 2 _) 0).trans rfl, (blk_cell (blk_set hg5 2 _) 1).trans rfl⟩ (fun hHeld => ?_)
      clear hK K
      refine done_ (by kernel_rfl) ?_
      
      have hg6 : (w5.setCell ⟨g, 2, none⟩ (.int .i64 cd)).heap[g]? = some (.cells #[.string s, .int .i64 a, .int .i64 cd] 133 (0, 0)) := blk_put hg5 2 _ rfl
      have HB6 := Lib.hid (show Below w0.heap.size w0 (w5.setCell ⟨g, 2, none⟩ (.int .i64 cd)) from ((below_drew1 hB).trans (hb5.mono hB.size)).setCell (p := ⟨g, 2, none⟩) hge _)
      have HK6 := Lib.hid (show KeepBut w (w5.setCell ⟨g, 2, none⟩ (.int .i64 cd)) g none from KeepBut.set_ (KeepBut.of_below hb5 g none) 2 _)
      generalize w5.setCell ⟨g, 2, none⟩ (.int .i64 cd) = w6 at *
      have hd2 : w6.cell? ⟨g, 2, none⟩ = some (.int .i64 cd) := (blk_cell hg6 2).trans rfl

      go_wp2
      go_ret
      exact ⟨rfl, ⟨hg6, hge⟩, HB6.out, HK6.out⟩
  · rw [if_neg c0] at h
    simp only [Option.some.injEq, Prod.mk.injEq] at h
    obtain ⟨rfl, rfl, rfl, rfl⟩ := h
    have c0b : (c != 0) = true := bne_iff_ne.mpr c0
    clear c0
    go_enter Try.func106, Try.ntmps106
    go_wp2
    go_ret
    exact ⟨rfl, ⟨hg, hge⟩, hB, KeepBut.refl _ _ _⟩
def impl_reader_string.f (k : Nat) (s : ByteArray) (a c : Int) : Option (ByteArray × ByteArray × Int × Int) :=
  if c = 0 then (impl_takeText.f k s a).bind fun r => if r.2.2 = 0 then some (r.1, s, r.2.1, 0) else some (r.1, s, a, r.2.2) else some ((⟨#[]⟩ : ByteArray), s, a, c)
set_option maxHeartbeats 4000000 in
set_option maxRecDepth 100000 in
theorem impl_reader_string.calls (k : Nat) (g : Nat) (s : ByteArray) (a c : Int) (r1 : ByteArray) (r2 : ByteArray) (r3 r4 : Int) (w0 w : World) (hI : IsS133 w0 w g s a c) (hB : Below w0.heap.size w0 w) (h : impl_reader_string.f k s a c = some (r1, r2, r3, r4)) :
    Calls Try.prog 107 #[.pointer (some ⟨g, 0, none⟩)] w fun e w' => e = .returned (.string r1) ∧ IsS133 w0 w' g r2 r3 r4 ∧ Below w0.heap.size w0 w' ∧ KeepBut w w' g none := by
  obtain ⟨hg, hge⟩ := hI
  have hc0 : w.cell? ⟨g, 0, none⟩ = some (.string s) := (blk_cell hg 0).trans rfl
  have hc1 : w.cell? ⟨g, 1, none⟩ = some (.int .i64 a) := (blk_cell hg 1).trans rfl
  have hc2 : w.cell? ⟨g, 2, none⟩ = some (.int .i64 c) := (blk_cell hg 2).trans rfl
  unfold impl_reader_string.f at h
  by_cases c0 : c = 0
  · rw [if_pos c0] at h
    obtain ⟨⟨tx, nx, cd⟩, ht, h⟩ := Option.bind_eq_some_iff.1 h
    have HT := Lib.hid ht
    have c0b : (c != 0) = false := bne_eq_false_iff_eq.mpr c0
    clear ht c0
    dsimp only at h
    by_cases c1 : cd = 0
    · rw [if_pos c1] at h
      simp only [Option.some.injEq, Prod.mk.injEq] at h
      obtain ⟨rfl, rfl, rfl, rfl⟩ := h
      have c1b : (cd == 0) = true := beq_iff_eq.mpr c1
      have C1 := Lib.hid c1
      clear c1
      go_enter Try.func107, Try.ntmps107
      go_wp2_with fail
      refine start_ (n := 16) (S := fun w' => w'.cell? ⟨g, 0, none⟩ = some (.string s) ∧ w'.cell? ⟨g, 1, none⟩ = some (.int .i64 a)) (ds := []) #[false, false, false, false, false, false, false, false, false, false, false, false, false, false, false, false] (by kernel_rfl) rfl rfl ⟨hc0, hc1⟩ (fun hHeld => ?_)
      refine pure_ (i := 0) (N := some 12) (v := ?_) (a' := ?_) #[true, false, false, false, false, false, false, false, false, false, false, false, false, false, false, false] rfl rfl (by kernel_rfl) (fun _ _ _ h => h) (Or.inl ⟨by rfl, ?_⟩) ?_ ?_
      rotate_left
      · intro w'
        go_simp
        with_reducible rfl
      rotate_left
      · simp only [Act.put, List.setIfInBounds_toArray, List.set_cons_zero, List.set_cons_succ, i64_w, i32_w]
        rfl
      refine pure_ (i := 1) (N := some 13) (v := ?_) (a' := ?_) #[true, true, false, false, false, false, false, false, false, false, false, false, false, false, false, false] rfl rfl (by kernel_rfl) (fun _ _ _ h => h) (Or.inl ⟨by rfl, ?_⟩) ?_ ?_
      rotate_left
      · intro w'
        go_simp
        with_reducible rfl
      rotate_left
      · simp only [Act.put, List.setIfInBounds_toArray, List.set_cons_zero, List.set_cons_succ, i64_w, i32_w]
        rfl
      refine pure_ (i := 2) (N := some 14) (v := ?_) (a' := ?_) #[true, true, true, false, false, false, false, false, false, false, false, false, false, false, false, false] rfl rfl (by kernel_rfl) (fun _ _ _ h => h) (Or.inl ⟨by rfl, ?_⟩) ?_ ?_
      rotate_left
      · intro w'
        go_simp
        with_reducible rfl
      rotate_left
      · simp only [Act.put, List.setIfInBounds_toArray, List.set_cons_zero, List.set_cons_succ, i64_w, i32_w]
        rfl
      refine pure_ (i := 4) (N := some 16) (v := ?_) (a' := ?_) #[true, true, true, false, true, false, false, false, false, false, false, false, false, false, false, false] rfl rfl (by kernel_rfl) (fun _ _ _ h => h) (Or.inl ⟨by rfl, ?_⟩) ?_ ?_
      rotate_left
      · intro w'
        go_simp
        with_reducible rfl
      rotate_left
      · simp only [Act.put, List.setIfInBounds_toArray, List.set_cons_zero, List.set_cons_succ, i64_w, i32_w]
        rfl
      refine pure_ (i := 5) (N := some 17) (v := ?_) (a' := ?_) #[true, true, true, false, true, true, false, false, false, false, false, false, false, false, false, false] rfl rfl (by kernel_rfl) (fun _ _ _ h => h) (Or.inl ⟨by rfl, ?_⟩) ?_ ?_
      rotate_left
      · intro w'
        go_simp
        with_reducible rfl
      rotate_left
      · simp only [Act.put, List.setIfInBounds_toArray, List.set_cons_zero, List.set_cons_succ, i64_w, i32_w]
        rfl
      refine pure_ (i := 6) (N := some 18) (v := ?_) (a' := ?_) #[true, true, true, false, true, true, true, false, false, false, false, false, false, false, false, false] rfl rfl (by kernel_rfl) (fun _ _ _ h => h) (Or.inl ⟨by rfl, ?_⟩) ?_ ?_
      rotate_left
      · intro w'
        go_simp
        with_reducible rfl
      rotate_left
      · simp only [Act.put, List.setIfInBounds_toArray, List.set_cons_zero, List.set_cons_succ, i64_w, i32_w]
        rfl
      refine take_ (i := 3) (N := some 15) (v := ?_) (a' := ?_) #[true, true, true, true, true, true, true, false, false, false, false, false, false, false, false, false] rfl rfl (by kernel_rfl) (fun _ _ _ h => h) (Or.inl ⟨by rfl, ?_⟩) hHeld ?_ ?_
      rotate_left
      · rintro w' ⟨s0, s1⟩
        go_simp
        with_reducible rfl
      rotate_left
      · simp only [Act.put, List.setIfInBounds_toArray, List.set_cons_zero, List.set_cons_succ, i64_w, i32_w]
        rfl
      refine take_ (i := 7) (N := some 19) (v := ?_) (a' := ?_) #[true, true, true, true, true, true, true, true, false, false, false, false, false, false, false, false] rfl rfl (by kernel_rfl) (fun _ _ _ h => h) (Or.inl ⟨by rfl, ?_⟩) hHeld ?_ ?_
      rotate_left
      · rintro w' ⟨s0, s1⟩
        go_simp
        with_reducible rfl
      rotate_left
      · simp only [Act.put, List.setIfInBounds_toArray, List.set_cons_zero, List.set_cons_succ, i64_w, i32_w]
        rfl
      refine one_ (i := 8) (N := some 20) #[true, true, true, true, true, true, true, true, true, false, false, false, false, false, false, false] rfl rfl (by kernel_rfl) (by decide) (fun K hK => ?_)
      refine goes_ Try.func53 (by kernel_rfl) rfl #[.string s, .int .i64 a] (by rfl) rfl rfl (by simp only [List.map_toArray, List.map_cons, List.map_nil]; rfl) ?_
      with_reducible refine (impl_takeText.calls k s a tx nx cd _ HT.out).mono ?_
      rintro e w5 ⟨rfl, hb5⟩
      refine ⟨_, rfl, ?_⟩
      have hg5 := blk_below (show w.drew.heap[g]? = _ from hg) hb5
      have hd1 : w5.cell? ⟨g, 1, none⟩ = some (.int .i64 a) := (blk_cell hg5 1).trans rfl
      have hf1 : w5.frozen? ⟨g, 1, none⟩ = false := blk_frozen hg5 1
      have hd2 : w5.cell? ⟨g, 2, none⟩ = some (.int .i64 c) := (blk_cell hg5 2).trans rfl
      have hf2 : w5.frozen? ⟨g, 2, none⟩ = false := blk_frozen hg5 2
      refine hK.out _ _ ⟨(blk_cell hg5 0).trans rfl, (blk_cell hg5 1).trans rfl⟩ (fun hHeld => ?_)
      clear hK K
      refine norm_ (a' := ?_) ?_ ?_
      rotate_left
      · show Act.put _ (some 20) _ = _
        simp only [Act.put, List.setIfInBounds_toArray, List.set_cons_zero, List.set_cons_succ, i64_w, i32_w]
        rfl
      refine pure_ (i := 9) (N := some 11) (v := ?_) (a' := ?_) #[true, true, true, true, true, true, true, true, true, true, false, false, false, false, false, false] rfl rfl (by kernel_rfl) (fun _ _ _ h => h) (Or.inl ⟨by rfl, ?_⟩) ?_ ?_
      rotate_left
      · intro w'
        go_simp
        with_reducible rfl
      rotate_left
      · simp only [Act.put, List.setIfInBounds_toArray, List.set_cons_zero, List.set_cons_succ, i64_w, i32_w]
        rfl
      refine pure_ (i := 10) (N := some 21) (v := ?_) (a' := ?_) #[true, true, true, true, true, true, true, true, true, true, true, false, false, false, false, false] rfl rfl (by kernel_rfl) (fun _ _ _ h => h) (Or.inl ⟨by rfl, ?_⟩) ?_ ?_
      rotate_left
      · intro w'
        go_simp
        with_reducible rfl
      rotate_left
      · simp only [Act.put, List.setIfInBounds_toArray, List.set_cons_zero, List.set_cons_succ, i64_w, i32_w]
        rfl
      refine pure_ (i := 11) (N := some 22) (v := ?_) (a' := ?_) #[true, true, true, true, true, true, true, true, true, true, true, true, false, false, false, false] rfl rfl (by kernel_rfl) (fun _ _ _ h => h) (Or.inl ⟨by rfl, ?_⟩) ?_ ?_
      rotate_left
      · intro w'
        go_simp
        with_reducible rfl
      rotate_left
      · simp only [Act.put, List.setIfInBounds_toArray, List.set_cons_zero, List.set_cons_succ, i64_w, i32_w]
        rfl
      refine pure_ (i := 12) (N := some 23) (v := ?_) (a' := ?_) #[true, true, true, true, true, true, true, true, true, true, true, true, true, false, false, false] rfl rfl (by kernel_rfl) (fun _ _ _ h => h) (Or.inl ⟨by rfl, ?_⟩) ?_ ?_
      rotate_left
      · intro w'
        go_simp
        with_reducible rfl
      rotate_left
      · simp only [Act.put, List.setIfInBounds_toArray, List.set_cons_zero, List.set_cons_succ, i64_w, i32_w]
        rfl
      refine pure_ (i := 13) (N := some 3) (v := ?_) (a' := ?_) #[true, true, true, true, true, true, true, true, true, true, true, true, true, true, false, false] rfl rfl (by kernel_rfl) (fun _ _ _ h => h) (Or.inl ⟨by rfl, ?_⟩) ?_ ?_
      rotate_left
      · intro w'
        go_simp
        with_reducible rfl
      rotate_left
      · simp only [Act.put, List.setIfInBounds_toArray, List.set_cons_zero, List.set_cons_succ, i64_w, i32_w]
        rfl
      refine pure_ (i := 14) (N := some 4) (v := ?_) (a' := ?_) #[true, true, true, true, true, true, true, true, true, true, true, true, true, true, true, false] rfl rfl (by kernel_rfl) (fun _ _ _ h => h) (Or.inl ⟨by rfl, ?_⟩) ?_ ?_
      rotate_left
      · intro w'
        go_simp
        with_reducible rfl
      rotate_left
      · simp only [Act.put, List.setIfInBounds_toArray, List.set_cons_zero, List.set_cons_succ, i64_w, i32_w]
        rfl
      refine pure_ (i := 15) (N := some 5) (v := ?_) (a' := ?_) #[true, true, true, true, true, true, true, true, true, true, true, true, true, true, true, true] rfl rfl (by kernel_rfl) (fun _ _ _ h => h) (Or.inl ⟨by rfl, ?_⟩) ?_ ?_
      rotate_left
      · intro w'
        go_simp
        with_reducible rfl
      rotate_left
      · simp only [Act.put, List.setIfInBounds_toArray, List.set_cons_zero, List.set_cons_succ, i64_w, i32_w]
        rfl
      refine done_ (by kernel_rfl) ?_
      
      go_wp2
      have hg8 := blk_put (cs' := #[.string s, .int .i64 nx, .int .i64 cd]) (blk_put (cs' := #[.string s, .int .i64 a, .int .i64 cd]) hg5 2 (.int .i64 cd) rfl) 1 (.int .i64 nx) rfl
      rw [C1.out] at hg8
      go_ret
      exact ⟨rfl, ⟨by rw [← C1.out] at hg8 ⊢; exact hg8, hge⟩, (((below_drew1 hB).trans (hb5.mono hB.size)).setCell (p := ⟨g, 2, none⟩) hge _).setCell (p := ⟨g, 1, none⟩) hge _, KeepBut.set_ (KeepBut.set_ (show KeepBut w w5 g none from KeepBut.of_below hb5 g none) 2 _) 1 _⟩
    · rw [if_neg c1] at h
      simp only [Option.some.injEq, Prod.mk.injEq] at h
      obtain ⟨rfl, rfl, rfl, rfl⟩ := h
      have c1b : (cd == 0) = false := beq_eq_false_iff_ne.mpr c1
      clear c1
      go_enter Try.func107, Try.ntmps107
      go_wp2_with fail
      refine start_ (n := 16) (S := fun w' => w'.cell? ⟨g, 0, none⟩ = some (.string s) ∧ w'.cell? ⟨g, 1, none⟩ = some (.int .i64 a)) (ds := []) #[false, false, false, false, false, false, false, false, false, false, false, false, false, false, false, false] (by kernel_rfl) rfl rfl ⟨hc0, hc1⟩ (fun hHeld => ?_)
      refine pure_ (i := 0) (N := some 12) (v := ?_) (a' := ?_) #[true, false, false, false, false, false, false, false, false, false, false, false, false, false, false, false] rfl rfl (by kernel_rfl) (fun _ _ _ h => h) (Or.inl ⟨by rfl, ?_⟩) ?_ ?_
      rotate_left
      · intro w'
        go_simp
        with_reducible rfl
      rotate_left
      · simp only [Act.put, List.setIfInBounds_toArray, List.set_cons_zero, List.set_cons_succ, i64_w, i32_w]
        rfl
      refine pure_ (i := 1) (N := some 13) (v := ?_) (a' := ?_) #[true, true, false, false, false, false, false, false, false, false, false, false, false, false, false, false] rfl rfl (by kernel_rfl) (fun _ _ _ h => h) (Or.inl ⟨by rfl, ?_⟩) ?_ ?_
      rotate_left
      · intro w'
        go_simp
        with_reducible rfl
      rotate_left
      · simp only [Act.put, List.setIfInBounds_toArray, List.set_cons_zero, List.set_cons_succ, i64_w, i32_w]
        rfl
      refine pure_ (i := 2) (N := some 14) (v := ?_) (a' := ?_) #[true, true, true, false, false, false, false, false, false, false, false, false, false, false, false, false] rfl rfl (by kernel_rfl) (fun _ _ _ h => h) (Or.inl ⟨by rfl, ?_⟩) ?_ ?_
      rotate_left
      · intro w'
        go_simp
        with_reducible rfl
      rotate_left
      · simp only [Act.put, List.setIfInBounds_toArray, List.set_cons_zero, List.set_cons_succ, i64_w, i32_w]
        rfl
      refine pure_ (i := 4) (N := some 16) (v := ?_) (a' := ?_) #[true, true, true, false, true, false, false, false, false, false, false, false, false, false, false, false] rfl rfl (by kernel_rfl) (fun _ _ _ h => h) (Or.inl ⟨by rfl, ?_⟩) ?_ ?_
      rotate_left
      · intro w'
        go_simp
        with_reducible rfl
      rotate_left
      · simp only [Act.put, List.setIfInBounds_toArray, List.set_cons_zero, List.set_cons_succ, i64_w, i32_w]
        rfl
      refine pure_ (i := 5) (N := some 17) (v := ?_) (a' := ?_) #[true, true, true, false, true, true, false, false, false, false, false, false, false, false, false, false] rfl rfl (by kernel_rfl) (fun _ _ _ h => h) (Or.inl ⟨by rfl, ?_⟩) ?_ ?_
      rotate_left
      · intro w'
        go_simp
        with_reducible rfl
      rotate_left
      · simp only [Act.put, List.setIfInBounds_toArray, List.set_cons_zero, List.set_cons_succ, i64_w, i32_w]
        rfl
      refine pure_ (i := 6) (N := some 18) (v := ?_) (a' := ?_) #[true, true, true, false, true, true, true, false, false, false, false, false, false, false, false, false] rfl rfl (by kernel_rfl) (fun _ _ _ h => h) (Or.inl ⟨by rfl, ?_⟩) ?_ ?_
      rotate_left
      · intro w'
        go_simp
        with_reducible rfl
      rotate_left
      · simp only [Act.put, List.setIfInBounds_toArray, List.set_cons_zero, List.set_cons_succ, i64_w, i32_w]
        rfl
      refine take_ (i := 3) (N := some 15) (v := ?_) (a' := ?_) #[true, true, true, true, true, true, true, false, false, false, false, false, false, false, false, false] rfl rfl (by kernel_rfl) (fun _ _ _ h => h) (Or.inl ⟨by rfl, ?_⟩) hHeld ?_ ?_
      rotate_left
      · rintro w' ⟨s0, s1⟩
        go_simp
        with_reducible rfl
      rotate_left
      · simp only [Act.put, List.setIfInBounds_toArray, List.set_cons_zero, List.set_cons_succ, i64_w, i32_w]
        rfl
      refine take_ (i := 7) (N := some 19) (v := ?_) (a' := ?_) #[true, true, true, true, true, true, true, true, false, false, false, false, false, false, false, false] rfl rfl (by kernel_rfl) (fun _ _ _ h => h) (Or.inl ⟨by rfl, ?_⟩) hHeld ?_ ?_
      rotate_left
      · rintro w' ⟨s0, s1⟩
        go_simp
        with_reducible rfl
      rotate_left
      · simp only [Act.put, List.setIfInBounds_toArray, List.set_cons_zero, List.set_cons_succ, i64_w, i32_w]
        rfl
      refine one_ (i := 8) (N := some 20) #[true, true, true, true, true, true, true, true, true, false, false, false, false, false, false, false] rfl rfl (by kernel_rfl) (by decide) (fun K hK => ?_)
      refine goes_ Try.func53 (by kernel_rfl) rfl #[.string s, .int .i64 a] (by rfl) rfl rfl (by simp only [List.map_toArray, List.map_cons, List.map_nil]; rfl) ?_
      with_reducible refine (impl_takeText.calls k s a tx nx cd _ HT.out).mono ?_
      rintro e w5 ⟨rfl, hb5⟩
      refine ⟨_, rfl, ?_⟩
      have hg5 := blk_below (show w.drew.heap[g]? = _ from hg) hb5
      have hd1 : w5.cell? ⟨g, 1, none⟩ = some (.int .i64 a) := (blk_cell hg5 1).trans rfl
      have hf1 : w5.frozen? ⟨g, 1, none⟩ = false := blk_frozen hg5 1
      have hd2 : w5.cell? ⟨g, 2, none⟩ = some (.int .i64 c) := (blk_cell hg5 2).trans rfl
      have hf2 : w5.frozen? ⟨g, 2, none⟩ = false := blk_frozen hg5 2
      refine hK.out _ _ ⟨(blk_cell hg5 0).trans rfl, (blk_cell hg5 1).trans rfl⟩ (fun hHeld => ?_)
      clear hK K
      refine norm_ (a' := ?_) ?_ ?_
      rotate_left
      · show Act.put _ (some 20) _ = _
        simp only [Act.put, List.setIfInBounds_toArray, List.set_cons_zero, List.set_cons_succ, i64_w, i32_w]
        rfl
      refine pure_ (i := 9) (N := some 11) (v := ?_) (a' := ?_) #[true, true, true, true, true, true, true, true, true, true, false, false, false, false, false, false] rfl rfl (by kernel_rfl) (fun _ _ _ h => h) (Or.inl ⟨by rfl, ?_⟩) ?_ ?_
      rotate_left
      · intro w'
        go_simp
        with_reducible rfl
      rotate_left
      · simp only [Act.put, List.setIfInBounds_toArray, List.set_cons_zero, List.set_cons_succ, i64_w, i32_w]
        rfl
      refine pure_ (i := 10) (N := some 21) (v := ?_) (a' := ?_) #[true, true, true, true, true, true, true, true, true, true, true, false, false, false, false, false] rfl rfl (by kernel_rfl) (fun _ _ _ h => h) (Or.inl ⟨by rfl, ?_⟩) ?_ ?_
      rotate_left
      · intro w'
        go_simp
        with_reducible rfl
      rotate_left
      · simp only [Act.put, List.setIfInBounds_toArray, List.set_cons_zero, List.set_cons_succ, i64_w, i32_w]
        rfl
      refine pure_ (i := 11) (N := some 22) (v := ?_) (a' := ?_) #[true, true, true, true, true, true, true, true, true, true, true, true, false, false, false, false] rfl rfl (by kernel_rfl) (fun _ _ _ h => h) (Or.inl ⟨by rfl, ?_⟩) ?_ ?_
      rotate_left
      · intro w'
        go_simp
        with_reducible rfl
      rotate_left
      · simp only [Act.put, List.setIfInBounds_toArray, List.set_cons_zero, List.set_cons_succ, i64_w, i32_w]
        rfl
      refine pure_ (i := 12) (N := some 23) (v := ?_) (a' := ?_) #[true, true, true, true, true, true, true, true, true, true, true, true, true, false, false, false] rfl rfl (by kernel_rfl) (fun _ _ _ h => h) (Or.inl ⟨by rfl, ?_⟩) ?_ ?_
      rotate_left
      · intro w'
        go_simp
        with_reducible rfl
      rotate_left
      · simp only [Act.put, List.setIfInBounds_toArray, List.set_cons_zero, List.set_cons_succ, i64_w, i32_w]
        rfl
      refine pure_ (i := 13) (N := some 3) (v := ?_) (a' := ?_) #[true, true, true, true, true, true, true, true, true, true, true, true, true, true, false, false] rfl rfl (by kernel_rfl) (fun _ _ _ h => h) (Or.inl ⟨by rfl, ?_⟩) ?_ ?_
      rotate_left
      · intro w'
        go_simp
        with_reducible rfl
      rotate_left
      · simp only [Act.put, List.setIfInBounds_toArray, List.set_cons_zero, List.set_cons_succ, i64_w, i32_w]
        rfl
      refine pure_ (i := 14) (N := some 4) (v := ?_) (a' := ?_) #[true, true, true, true, true, true, true, true, true, true, true, true, true, true, true, false] rfl rfl (by kernel_rfl) (fun _ _ _ h => h) (Or.inl ⟨by rfl, ?_⟩) ?_ ?_
      rotate_left
      · intro w'
        go_simp
        with_reducible rfl
      rotate_left
      · simp only [Act.put, List.setIfInBounds_toArray, List.set_cons_zero, List.set_cons_succ, i64_w, i32_w]
        rfl
      refine pure_ (i := 15) (N := some 5) (v := ?_) (a' := ?_) #[true, true, true, true, true, true, true, true, true, true, true, true, true, true, true, true] rfl rfl (by kernel_rfl) (fun _ _ _ h => h) (Or.inl ⟨by rfl, ?_⟩) ?_ ?_
      rotate_left
      · intro w'
        go_simp
        with_reducible rfl
      rotate_left
      · simp only [Act.put, List.setIfInBounds_toArray, List.set_cons_zero, List.set_cons_succ, i64_w, i32_w]
        rfl
      refine done_ (by kernel_rfl) ?_
      
      go_wp2
      go_ret
      exact ⟨rfl, ⟨blk_put hg5 2 _ rfl, hge⟩, ((below_drew1 hB).trans (hb5.mono hB.size)).setCell (p := ⟨g, 2, none⟩) hge _, KeepBut.set_ (show KeepBut w w5 g none from KeepBut.of_below hb5 g none) 2 _⟩
  · rw [if_neg c0] at h
    simp only [Option.some.injEq, Prod.mk.injEq] at h
    obtain ⟨rfl, rfl, rfl, rfl⟩ := h
    have c0b : (c != 0) = true := bne_iff_ne.mpr c0
    clear c0
    go_enter Try.func107, Try.ntmps107
    go_wp2
    go_ret
    exact ⟨rfl, ⟨hg, hge⟩, hB, KeepBut.refl _ _ _⟩
set_option maxHeartbeats 1000000 in
set_option maxRecDepth 100000 in
theorem newReader (k : Nat) (t body : ByteArray) (code : Int) (w : World) (h : impl_readFrame.f k t = some (body, code)) :
    Calls Try.prog 105 #[.string t] w fun e w' => ∃ g, e = .returned (.tuple #[.pointer (some ⟨g, 0, none⟩), .int .i64 code]) ∧ w.heap.size ≤ g ∧ w'.heap[g]? = some (.cells #[.string body, .int .i64 0, .int .i64 0] 133 (0, 0)) ∧ Below w.heap.size w w' := by
  have HT := Lib.hid h
  clear h
  have hu := Try.underlying133
  go_enter Try.func105, Try.ntmps105
  go_wp2_with fail
  refine (impl_readFrame.calls k t body code _ HT.out).mono ?_
  rintro e w1 ⟨rfl, hb1⟩
  go_wp2_with (first | ((with_reducible refine gate_dst (N := 13) rfl ?_); refine box_event ?hg (N := 13) ?hd (cs := #[.string body, .int .i64 0, .int .i64 0]) (t := 133) ?hr ?_; (case hd => rfl); (case hg => rfl); (case hr => first | (go_simp; done) | (go_simp; rfl)); intro g hg w2 hr hb2; have HG := Lib.hid hg; clear hg))
  go_ret2
  exact ⟨g, rfl, by rw [HG.out]; exact hb1.size, hr, hb1.trans (hb2.mono hb1.size)⟩
end Go.Proofs.Ytnppmhijoaeibaa.H
set_option linter.unusedVariables false
set_option linter.unusedSimpArgs false
namespace Go.Proofs.Ytnppmhijoaeibaa.H
open Go.RowKit Go.Proofs.YtnppmhijoaeibaaW.PrintWords Go.Proofs.YtnppmhijoaeibaaW.PrintLast Go.Proofs.Ytnppmhijoaeibaa.Q
abbrev St := ByteArray × Int × Int
def num (k : Nat) (s : St) : Option (Int × St) := impl_reader_number.f k s.1 s.2.1 s.2.2
def str (k : Nat) (s : St) : Option (ByteArray × St) := impl_reader_string.f k s.1 s.2.1 s.2.2
def IsR (w0 w : World) (g : Nat) (s : St) : Prop := IsS133 w0 w g s.1 s.2.1 s.2.2
theorem num_call (k g : Nat) (s : St) (x : Int × St) (w0 w : World) (hI : IsR w0 w g s) (hB : Below w0.heap.size w0 w) (h : num k s = some x) :
    Calls Try.prog 106 #[.pointer (some ⟨g, 0, none⟩)] w fun e w' => e = .returned (.int .i64 x.1) ∧ IsR w0 w' g x.2 ∧ Below w0.heap.size w0 w' ∧ KeepBut w w' g none :=
  impl_reader_number.calls k g s.1 s.2.1 s.2.2 x.1 x.2.1 x.2.2.1 x.2.2.2 w0 w hI hB h
theorem str_call (k g : Nat) (s : St) (x : ByteArray × St) (w0 w : World) (hI : IsR w0 w g s) (hB : Below w0.heap.size w0 w) (h : str k s = some x) :
    Calls Try.prog 107 #[.pointer (some ⟨g, 0, none⟩)] w fun e w' => e = .returned (.string x.1) ∧ IsR w0 w' g x.2 ∧ Below w0.heap.size w0 w' ∧ KeepBut w w' g none :=
  impl_reader_string.calls k g s.1 s.2.1 s.2.2 x.1 x.2.1 x.2.2.1 x.2.2.2 w0 w hI hB h
theorem end_call (g : Nat) (s : St) (x : Int × St) (w0 w : World) (hI : IsR w0 w g s) (hB : Below w0.heap.size w0 w) (h : impl_reader_end.f s.1 s.2.1 s.2.2 = some x) :
    Calls Try.prog 108 #[.pointer (some ⟨g, 0, none⟩)] w fun e w' => e = .returned (.int .i64 x.1) ∧ IsR w0 w' g x.2 ∧ Below w0.heap.size w0 w' ∧ KeepBut w w' g none :=
  impl_reader_end.calls g s.1 s.2.1 s.2.2 x.1 x.2.1 x.2.2.1 x.2.2.2 w0 w hI hB h
theorem st9 {w : World} {g T : Nat} {c0 c1 c2 c3 c4 c5 c6 c7 c8 : Value} (h : w.heap[g]? = some (.cells #[c0, c1, c2, c3, c4, c5, c6, c7, c8] T (0, 0))) (v0 v1 v2 v3 v4 v5 v6 v7 v8 : Value) : (((((((((w.setCell ⟨g, 0, none⟩ v0).setCell ⟨g, 1, none⟩ v1).setCell ⟨g, 2, none⟩ v2).setCell ⟨g, 3, none⟩ v3).setCell ⟨g, 4, none⟩ v4).setCell ⟨g, 5, none⟩ v5).setCell ⟨g, 6, none⟩ v6).setCell ⟨g, 7, none⟩ v7).setCell ⟨g, 8, none⟩ v8).heap[g]? = some (.cells #[v0, v1, v2, v3, v4, v5, v6, v7, v8] T (0, 0)) := by
  replace h : (w.setCell ⟨g, 0, none⟩ v0).heap[g]? = some (.cells #[v0, c1, c2, c3, c4, c5, c6, c7, c8] T (0, 0)) := blk_put h 0 v0 rfl
  generalize w.setCell ⟨g, 0, none⟩ v0 = w at h ⊢
  replace h : (w.setCell ⟨g, 1, none⟩ v1).heap[g]? = some (.cells #[v0, v1, c2, c3, c4, c5, c6, c7, c8] T (0, 0)) := blk_put h 1 v1 rfl
  generalize w.setCell ⟨g, 1, none⟩ v1 = w at h ⊢
  replace h : (w.setCell ⟨g, 2, none⟩ v2).heap[g]? = some (.cells #[v0, v1, v2, c3, c4, c5, c6, c7, c8] T (0, 0)) := blk_put h 2 v2 rfl
  generalize w.setCell ⟨g, 2, none⟩ v2 = w at h ⊢
  replace h : (w.setCell ⟨g, 3, none⟩ v3).heap[g]? = some (.cells #[v0, v1, v2, v3, c4, c5, c6, c7, c8] T (0, 0)) := blk_put h 3 v3 rfl
  generalize w.setCell ⟨g, 3, none⟩ v3 = w at h ⊢
  replace h : (w.setCell ⟨g, 4, none⟩ v4).heap[g]? = some (.cells #[v0, v1, v2, v3, v4, c5, c6, c7, c8] T (0, 0)) := blk_put h 4 v4 rfl
  generalize w.setCell ⟨g, 4, none⟩ v4 = w at h ⊢
  replace h : (w.setCell ⟨g, 5, none⟩ v5).heap[g]? = some (.cells #[v0, v1, v2, v3, v4, v5, c6, c7, c8] T (0, 0)) := blk_put h 5 v5 rfl
  generalize w.setCell ⟨g, 5, none⟩ v5 = w at h ⊢
  replace h : (w.setCell ⟨g, 6, none⟩ v6).heap[g]? = some (.cells #[v0, v1, v2, v3, v4, v5, v6, c7, c8] T (0, 0)) := blk_put h 6 v6 rfl
  generalize w.setCell ⟨g, 6, none⟩ v6 = w at h ⊢
  replace h : (w.setCell ⟨g, 7, none⟩ v7).heap[g]? = some (.cells #[v0, v1, v2, v3, v4, v5, v6, v7, c8] T (0, 0)) := blk_put h 7 v7 rfl
  generalize w.setCell ⟨g, 7, none⟩ v7 = w at h ⊢
  replace h : (w.setCell ⟨g, 8, none⟩ v8).heap[g]? = some (.cells #[v0, v1, v2, v3, v4, v5, v6, v7, v8] T (0, 0)) := blk_put h 8 v8 rfl
  generalize w.setCell ⟨g, 8, none⟩ v8 = w at h ⊢
  exact h
theorem st9_below {w0 w : World} {g : Nat} (h : Below w0.heap.size w0 w) (hg : w0.heap.size ≤ g) (v0 v1 v2 v3 v4 v5 v6 v7 v8 : Value) : Below w0.heap.size w0 (((((((((w.setCell ⟨g, 0, none⟩ v0).setCell ⟨g, 1, none⟩ v1).setCell ⟨g, 2, none⟩ v2).setCell ⟨g, 3, none⟩ v3).setCell ⟨g, 4, none⟩ v4).setCell ⟨g, 5, none⟩ v5).setCell ⟨g, 6, none⟩ v6).setCell ⟨g, 7, none⟩ v7).setCell ⟨g, 8, none⟩ v8) :=
  below_set (below_set (below_set (below_set (below_set (below_set (below_set (below_set (below_set (h) hg) hg) hg) hg) hg) hg) hg) hg) hg
theorem st5 {w : World} {g T : Nat} {c0 c1 c2 c3 c4 c5 c6 c7 c8 : Value} (h : w.heap[g]? = some (.cells #[c0, c1, c2, c3, c4, c5, c6, c7, c8] T (0, 0))) (v0 v1 v2 v3 v4 : Value) : (((((w.setCell ⟨g, 4, none⟩ (v0)).setCell ⟨g, 5, none⟩ (v1)).setCell ⟨g, 6, none⟩ (v2)).setCell ⟨g, 7, none⟩ (v3)).setCell ⟨g, 8, none⟩ (v4)).heap[g]? = some (.cells #[c0, c1, c2, c3, v0, v1, v2, v3, v4] T (0, 0)) := by
  replace h : (w.setCell ⟨g, 4, none⟩ v0).heap[g]? = some (.cells #[c0, c1, c2, c3, v0, c5, c6, c7, c8] T (0, 0)) := blk_put h 4 v0 rfl
  generalize w.setCell ⟨g, 4, none⟩ v0 = w at h ⊢
  replace h : (w.setCell ⟨g, 5, none⟩ v1).heap[g]? = some (.cells #[c0, c1, c2, c3, v0, v1, c6, c7, c8] T (0, 0)) := blk_put h 5 v1 rfl
  generalize w.setCell ⟨g, 5, none⟩ v1 = w at h ⊢
  replace h : (w.setCell ⟨g, 6, none⟩ v2).heap[g]? = some (.cells #[c0, c1, c2, c3, v0, v1, v2, c7, c8] T (0, 0)) := blk_put h 6 v2 rfl
  generalize w.setCell ⟨g, 6, none⟩ v2 = w at h ⊢
  replace h : (w.setCell ⟨g, 7, none⟩ v3).heap[g]? = some (.cells #[c0, c1, c2, c3, v0, v1, v2, v3, c8] T (0, 0)) := blk_put h 7 v3 rfl
  generalize w.setCell ⟨g, 7, none⟩ v3 = w at h ⊢
  replace h : (w.setCell ⟨g, 8, none⟩ v4).heap[g]? = some (.cells #[c0, c1, c2, c3, v0, v1, v2, v3, v4] T (0, 0)) := blk_put h 8 v4 rfl
  generalize w.setCell ⟨g, 8, none⟩ v4 = w at h ⊢
  exact h
theorem st5_far {w : World} {g g2 T : Nat} {cs : Array Value} (h : w.heap[g2]? = some (.cells cs T (0, 0))) (hne : g2 ≠ g) (v0 v1 v2 v3 v4 : Value) : (((((w.setCell ⟨g, 4, none⟩ (v0)).setCell ⟨g, 5, none⟩ (v1)).setCell ⟨g, 6, none⟩ (v2)).setCell ⟨g, 7, none⟩ (v3)).setCell ⟨g, 8, none⟩ (v4)).heap[g2]? = some (.cells cs T (0, 0)) :=
  blk_far (blk_far (blk_far (blk_far (blk_far (h) (p := ⟨g, 4, none⟩) hne _) (p := ⟨g, 5, none⟩) hne _) (p := ⟨g, 6, none⟩) hne _) (p := ⟨g, 7, none⟩) hne _) (p := ⟨g, 8, none⟩) hne _
theorem st5_below {w0 w : World} {g : Nat} (h : Below w0.heap.size w0 w) (hg : w0.heap.size ≤ g) (v0 v1 v2 v3 v4 : Value) : Below w0.heap.size w0 (((((w.setCell ⟨g, 4, none⟩ (v0)).setCell ⟨g, 5, none⟩ (v1)).setCell ⟨g, 6, none⟩ (v2)).setCell ⟨g, 7, none⟩ (v3)).setCell ⟨g, 8, none⟩ (v4)) :=
  below_set (below_set (below_set (below_set (below_set (h) hg) hg) hg) hg) hg
abbrev Rq := Int × Int × Int × Int × Int × Int × Int × Int × ByteArray × Int
def noRq (c : Int) : Rq := (0, 0, 0, 0, 0, 0, 0, 0, ⟨#[]⟩, c)
def finReq (k : Nat) (q0 q1 q2 q3 q4 q5 q6 q7 : Int) (q8 : ByteArray) (s : St) : Option Rq :=
  (impl_reader_end.f s.1 s.2.1 s.2.2).bind fun e => if e.1 = 0 then (impl_RequestOK.f k q0 q1 q2 q3 q4 q5 q6 q7 q8).bind fun b => if b = true then some (q0, q1, q2, q3, q4, q5, q6, q7, q8, 0) else some (noRq 10) else some (noRq e.1)
def impl_takeRequest.f (k : Nat) (t : ByteArray) : Option Rq :=
  (impl_readFrame.f k t).bind fun r => if r.2 = 0 then
    (num k (r.1, 0, 0)).bind fun x0 => (num k x0.2).bind fun x1 => (num k x1.2).bind fun x2 => (num k x2.2).bind fun x3 =>
      if x0.1 = 7 then (num k x3.2).bind fun x4 => (num k x4.2).bind fun x5 => (num k x5.2).bind fun x6 => (num k x6.2).bind fun x7 => (str k x7.2).bind fun x8 =>
        finReq k x0.1 x1.1 x2.1 x3.1 x4.1 x5.1 x6.1 x7.1 x8.1 x8.2
      else finReq k x0.1 x1.1 x2.1 x3.1 0 0 0 0 ⟨#[]⟩ x3.2
  else some (noRq r.2)
set_option maxHeartbeats 4000000 in
set_option maxRecDepth 100000 in
theorem impl_takeRequest.calls (k : Nat) (t : ByteArray) (r1 r2 r3 r4 r5 r6 r7 r8 : Int) (r9 : ByteArray) (r10 : Int) (w : World) (h : impl_takeRequest.f k t = some (r1, r2, r3, r4, r5, r6, r7, r8, r9, r10)) :
    Calls Try.prog 80 #[.string t] w fun e w' => e = .returned (.tuple #[.agg #[.int .i64 r1, .int .i64 r2, .int .i64 r3, .int .i64 r4, .int .i64 r5, .int .i64 r6, .int .i64 r7, .int .i64 r8, .string r9], .int .i64 r10]) ∧ Below w.heap.size w w' := by
  have hu44 := Try.underlying44
  have hu42 := Try.underlying42
  unfold impl_takeRequest.f at h
  obtain ⟨⟨body, code⟩, hr, h⟩ := Option.bind_eq_some_iff.1 h
  have HR := Lib.hid hr
  clear hr
  dsimp only at h
  by_cases c0 : code = 0
  · rw [if_pos c0] at h
    obtain ⟨x0, h0, h⟩ := Option.bind_eq_some_iff.1 h
    obtain ⟨x1, h1, h⟩ := Option.bind_eq_some_iff.1 h
    obtain ⟨x2, h2, h⟩ := Option.bind_eq_some_iff.1 h
    obtain ⟨x3, h3, h⟩ := Option.bind_eq_some_iff.1 h
    have HN0 := Lib.hid h0
    have HN1 := Lib.hid h1
    have HN2 := Lib.hid h2
    have HN3 := Lib.hid h3
    have c0b : (code != 0) = false := bne_eq_false_iff_eq.mpr c0
    clear h0 h1 h2 h3 c0
    by_cases c7 : x0.1 = 7
    · rw [if_pos c7] at h
      have c7b : (x0.1 == 7) = true := beq_iff_eq.mpr c7
      clear c7
      obtain ⟨x4, h4, h⟩ := Option.bind_eq_some_iff.1 h
      have HN4 := Lib.hid h4
      clear h4
      obtain ⟨x5, h5, h⟩ := Option.bind_eq_some_iff.1 h
      have HN5 := Lib.hid h5
      clear h5
      obtain ⟨x6, h6, h⟩ := Option.bind_eq_some_iff.1 h
      have HN6 := Lib.hid h6
      clear h6
      obtain ⟨x7, h7, h⟩ := Option.bind_eq_some_iff.1 h
      have HN7 := Lib.hid h7
      clear h7
      obtain ⟨x8, h8, h⟩ := Option.bind_eq_some_iff.1 h
      have HN8 := Lib.hid h8
      clear h8
      unfold finReq at h
      obtain ⟨y, hy, h⟩ := Option.bind_eq_some_iff.1 h
      have HY := Lib.hid hy
      clear hy
      by_cases cy : y.1 = 0
      · rw [if_pos cy] at h
        obtain ⟨b, hb, h⟩ := Option.bind_eq_some_iff.1 h
        have HBB := Lib.hid hb
        have cyb : (y.1 != 0) = false := bne_eq_false_iff_eq.mpr cy
        clear hb cy
        cases b with
        | true =>
          rw [if_pos rfl] at h
          simp only [Option.some.injEq, Prod.mk.injEq] at h
          obtain ⟨rfl, rfl, rfl, rfl, rfl, rfl, rfl, rfl, rfl, rfl⟩ := h
          go_enter Try.func80, Try.ntmps80
          go_wp2_with (first | ((with_reducible refine gate_dst (N := 2) rfl ?_); refine box_event ?hg (N := 2) ?hd (cs := #[.int .i64 0, .int .i64 0, .int .i64 0, .int .i64 0, .int .i64 0, .int .i64 0, .int .i64 0, .int .i64 0, .string (⟨#[]⟩ : ByteArray)]) (t := 44) ?hr ?_; (case hd => rfl); (case hg => rfl); (case hr => first | (go_simp; done) | (go_simp; rfl)); intro gr hgr w1 hr1 hb1; have GR := Lib.hid (show w.heap.size ≤ gr from Nat.le_of_eq hgr.symm); clear hgr))
          refine (newReader k t body code w1 HR.out).mono ?_; rintro e w2 ⟨g, rfl, hg, hR, hb2⟩; have hr2 := blk_below hr1 hb2; have hgne : gr ≠ g := Nat.ne_of_lt (Nat.lt_of_lt_of_le (blk_lt hr1) hg); have hI2 : IsR w w2 g (body, 0, 0) := ⟨hR, Nat.le_trans hb1.size hg⟩; have hB2 : Below w.heap.size w w2 := hb1.trans (hb2.mono hb1.size); go_wp2_with fail; refine (num_call k g _ x0 w w2 hI2 hB2 HN0.out).mono ?_; rintro e w3 ⟨rfl, hI3, hB3, hK3⟩; go_wp2_with fail; refine (num_call k g _ x1 w w3 hI3 hB3 HN1.out).mono ?_; rintro e w4 ⟨rfl, hI4, hB4, hK4⟩; go_wp2_with fail; refine (num_call k g _ x2 w w4 hI4 hB4 HN2.out).mono ?_; rintro e w5 ⟨rfl, hI5, hB5, hK5⟩; go_wp2_with fail; refine (num_call k g _ x3 w w5 hI5 hB5 HN3.out).mono ?_; rintro e w6 ⟨rfl, hI6, hB6, hK6⟩; have hr3 := (hK3.2 gr (blk_lt hr2) hgne (by simp)).trans hr2; have hr4 := (hK4.2 gr (blk_lt hr3) hgne (by simp)).trans hr3; have hr5 := (hK5.2 gr (blk_lt hr4) hgne (by simp)).trans hr4; have hr6 := (hK6.2 gr (blk_lt hr5) hgne (by simp)).trans hr5
          go_wp2_with (first | ((with_reducible refine gate_dst (N := 26) rfl ?_); generalize hw7 : w6.alloc _ = w7; have hb7 : Below w6.heap.size w6 w7 := (by rw [← hw7]; exact (Below.refl _ _).alloc (Nat.le_refl _) _); have hq7 : w7.heap[w6.heap.size]? = some (.cells #[.int .i64 x0.1, .int .i64 x1.1, .int .i64 x2.1, .int .i64 x3.1, .int .i64 0, .int .i64 0, .int .i64 0, .int .i64 0, .string (⟨#[]⟩ : ByteArray)] 44 (0, 0)) := (by rw [← hw7]; exact heap_alloc_new _ _); clear hw7; have hr7 := blk_below hr6 hb7; have hI7 : IsR w w7 g x3.2 := IsS133.below hI6 hb7; have hB7 : Below w.heap.size w w7 := hB6.trans (hb7.mono hB6.size); have hqg : w6.heap.size ≠ g := (Nat.ne_of_lt (blk_lt hI6.1)).symm; have hqr : w6.heap.size ≠ gr := (Nat.ne_of_lt (blk_lt hr6)).symm; have hqle : w.heap.size ≤ w6.heap.size := hB6.size; generalize w6.heap.size = gq at hq7 hqg hqr hqle ⊢; have hqz_0 : w7.cell? ⟨gq, 0, none⟩ = some (.int .i64 x0.1) := (blk_cell hq7 0).trans rfl))
          refine (num_call k g _ x4 w w7 hI7 hB7 HN4.out).mono ?_; rintro e w8 ⟨rfl, hI8, hB8, hK8⟩; have hr8 := (hK8.2 gr (blk_lt hr7) hgne (by simp)).trans hr7; have hq8 := (hK8.2 gq (blk_lt hq7) hqg (by simp)).trans hq7; go_wp2_with fail; refine (num_call k g _ x5 w w8 hI8 hB8 HN5.out).mono ?_; rintro e w9 ⟨rfl, hI9, hB9, hK9⟩; have hr9 := (hK9.2 gr (blk_lt hr8) hgne (by simp)).trans hr8; have hq9 := (hK9.2 gq (blk_lt hq8) hqg (by simp)).trans hq8; go_wp2_with fail; refine (num_call k g _ x6 w w9 hI9 hB9 HN6.out).mono ?_; rintro e w10 ⟨rfl, hI10, hB10, hK10⟩; have hr10 := (hK10.2 gr (blk_lt hr9) hgne (by simp)).trans hr9; have hq10 := (hK10.2 gq (blk_lt hq9) hqg (by simp)).trans hq9; go_wp2_with fail; refine (num_call k g _ x7 w w10 hI10 hB10 HN7.out).mono ?_; rintro e w11 ⟨rfl, hI11, hB11, hK11⟩; have hr11 := (hK11.2 gr (blk_lt hr10) hgne (by simp)).trans hr10; have hq11 := (hK11.2 gq (blk_lt hq10) hqg (by simp)).trans hq10; go_wp2_with fail; refine (str_call k g _ x8 w w11 hI11 hB11 HN8.out).mono ?_; rintro e w12 ⟨rfl, hI12, hB12, hK12⟩; have hr12 := (hK12.2 gr (blk_lt hr11) hgne (by simp)).trans hr11; have hq12 := (hK12.2 gq (blk_lt hq11) hqg (by simp)).trans hq11; have hez_4 : w12.cell? ⟨gq, 4, none⟩ = some (.int .i64 0) := (blk_cell hq12 4).trans rfl; have hef_4 : w12.frozen? ⟨gq, 4, none⟩ = false := blk_frozen hq12 4; have hez_5 : w12.cell? ⟨gq, 5, none⟩ = some (.int .i64 0) := (blk_cell hq12 5).trans rfl; have hef_5 : w12.frozen? ⟨gq, 5, none⟩ = false := blk_frozen hq12 5; have hez_6 : w12.cell? ⟨gq, 6, none⟩ = some (.int .i64 0) := (blk_cell hq12 6).trans rfl; have hef_6 : w12.frozen? ⟨gq, 6, none⟩ = false := blk_frozen hq12 6; have hez_7 : w12.cell? ⟨gq, 7, none⟩ = some (.int .i64 0) := (blk_cell hq12 7).trans rfl; have hef_7 : w12.frozen? ⟨gq, 7, none⟩ = false := blk_frozen hq12 7; have hez_8 : w12.cell? ⟨gq, 8, none⟩ = some (.string (⟨#[]⟩ : ByteArray)) := (blk_cell hq12 8).trans rfl; have hef_8 : w12.frozen? ⟨gq, 8, none⟩ = false := blk_frozen hq12 8; go_wp2_with fail; have hq13 := st5 hq12 (.int .i64 x4.1) (.int .i64 x5.1) (.int .i64 x6.1) (.int .i64 x7.1) (.string x8.1); have hr13 := st5_far hr12 hqr.symm (.int .i64 x4.1) (.int .i64 x5.1) (.int .i64 x6.1) (.int .i64 x7.1) (.string x8.1); have hI13 := st5_far hI12.1 hqg.symm (.int .i64 x4.1) (.int .i64 x5.1) (.int .i64 x6.1) (.int .i64 x7.1) (.string x8.1); have hB13 := st5_below hB12 hqle (.int .i64 x4.1) (.int .i64 x5.1) (.int .i64 x6.1) (.int .i64 x7.1) (.string x8.1); generalize (((((w12.setCell ⟨gq, 4, none⟩ (.int .i64 x4.1)).setCell ⟨gq, 5, none⟩ (.int .i64 x5.1)).setCell ⟨gq, 6, none⟩ (.int .i64 x6.1)).setCell ⟨gq, 7, none⟩ (.int .i64 x7.1)).setCell ⟨gq, 8, none⟩ (.string x8.1)) = w13 at hq13 hr13 hI13 hB13 ⊢; refine (end_call g _ y w w13 ⟨hI13, hI12.2⟩ hB13 HY.out).mono ?_; rintro e w8 ⟨rfl, hI8, hB8, hK8⟩; have hr8 := (hK8.2 gr (blk_lt hr13) hgne (by simp)).trans hr13; have hq8 := (hK8.2 gq (blk_lt hq13) hqg (by simp)).trans hq13; (try clear hqz_0 hqz_1 hqz_2 hqz_3 hqz_4 hqz_5 hqz_6 hqz_7 hqz_8); (try clear hqz_0); have hqz_0 : w8.cell? ⟨gq, 0, none⟩ = some (.int .i64 x0.1) := (blk_cell hq8 0).trans rfl; have hqz_1 : w8.cell? ⟨gq, 1, none⟩ = some (.int .i64 x1.1) := (blk_cell hq8 1).trans rfl; have hqz_2 : w8.cell? ⟨gq, 2, none⟩ = some (.int .i64 x2.1) := (blk_cell hq8 2).trans rfl; have hqz_3 : w8.cell? ⟨gq, 3, none⟩ = some (.int .i64 x3.1) := (blk_cell hq8 3).trans rfl; have hqz_4 : w8.cell? ⟨gq, 4, none⟩ = some (.int .i64 x4.1) := (blk_cell hq8 4).trans rfl; have hqz_5 : w8.cell? ⟨gq, 5, none⟩ = some (.int .i64 x5.1) := (blk_cell hq8 5).trans rfl; have hqz_6 : w8.cell? ⟨gq, 6, none⟩ = some (.int .i64 x6.1) := (blk_cell hq8 6).trans rfl; have hqz_7 : w8.cell? ⟨gq, 7, none⟩ = some (.int .i64 x7.1) := (blk_cell hq8 7).trans rfl; have hqz_8 : w8.cell? ⟨gq, 8, none⟩ = some (.string x8.1) := (blk_cell hq8 8).trans rfl; (try clear hrz_0 hrz_1 hrz_2 hrz_3 hrz_4 hrz_5 hrz_6 hrz_7 hrz_8 hrf_0 hrf_1 hrf_2 hrf_3 hrf_4 hrf_5 hrf_6 hrf_7 hrf_8); have hrz_0 : w8.cell? ⟨gr, 0, none⟩ = some (.int .i64 0) := (blk_cell hr8 0).trans rfl; have hrz_1 : w8.cell? ⟨gr, 1, none⟩ = some (.int .i64 0) := (blk_cell hr8 1).trans rfl; have hrz_2 : w8.cell? ⟨gr, 2, none⟩ = some (.int .i64 0) := (blk_cell hr8 2).trans rfl; have hrz_3 : w8.cell? ⟨gr, 3, none⟩ = some (.int .i64 0) := (blk_cell hr8 3).trans rfl; have hrz_4 : w8.cell? ⟨gr, 4, none⟩ = some (.int .i64 0) := (blk_cell hr8 4).trans rfl; have hrz_5 : w8.cell? ⟨gr, 5, none⟩ = some (.int .i64 0) := (blk_cell hr8 5).trans rfl; have hrz_6 : w8.cell? ⟨gr, 6, none⟩ = some (.int .i64 0) := (blk_cell hr8 6).trans rfl; have hrz_7 : w8.cell? ⟨gr, 7, none⟩ = some (.int .i64 0) := (blk_cell hr8 7).trans rfl; have hrz_8 : w8.cell? ⟨gr, 8, none⟩ = some (.string (⟨#[]⟩ : ByteArray)) := (blk_cell hr8 8).trans rfl; have hrf_0 : w8.frozen? ⟨gr, 0, none⟩ = false := blk_frozen hr8 0; have hrf_1 : w8.frozen? ⟨gr, 1, none⟩ = false := blk_frozen hr8 1; have hrf_2 : w8.frozen? ⟨gr, 2, none⟩ = false := blk_frozen hr8 2; have hrf_3 : w8.frozen? ⟨gr, 3, none⟩ = false := blk_frozen hr8 3; have hrf_4 : w8.frozen? ⟨gr, 4, none⟩ = false := blk_frozen hr8 4; have hrf_5 : w8.frozen? ⟨gr, 5, none⟩ = false := blk_frozen hr8 5; have hrf_6 : w8.frozen? ⟨gr, 6, none⟩ = false := blk_frozen hr8 6; have hrf_7 : w8.frozen? ⟨gr, 7, none⟩ = false := blk_frozen hr8 7; have hrf_8 : w8.frozen? ⟨gr, 8, none⟩ = false := blk_frozen hr8 8
          go_wp2_with (first | ((with_reducible refine gate_callee (f := 63) rfl ?_); refine goesL_ (some 48) rfl rfl Try.func63 (by kernel_rfl) rfl #[.agg #[.int .i64 x0.1, .int .i64 x1.1, .int .i64 x2.1, .int .i64 x3.1, .int .i64 x4.1, .int .i64 x5.1, .int .i64 x6.1, .int .i64 x7.1, .string x8.1]] rfl (by (try simp only [List.map_toArray, List.map_cons, List.map_nil]); first | done | rfl) ?_; (with_reducible refine (impl_RequestOK.calls k x0.1 x1.1 x2.1 x3.1 x4.1 x5.1 x6.1 x7.1 x8.1 true _ HBB.out).mono ?_); rintro e w9 ⟨rfl, hb9⟩; refine ⟨_, rfl, ?_⟩; have hr9 := blk_below hr8 hb9; have hq9 := blk_below hq8 hb9; have hB9 : Below w.heap.size w w9 := hB8.trans (hb9.mono hB8.size); (try clear hqz_0 hqz_1 hqz_2 hqz_3 hqz_4 hqz_5 hqz_6 hqz_7 hqz_8); (try clear hqz_0); have hqz_0 : w9.cell? ⟨gq, 0, none⟩ = some (.int .i64 x0.1) := (blk_cell hq9 0).trans rfl; have hqz_1 : w9.cell? ⟨gq, 1, none⟩ = some (.int .i64 x1.1) := (blk_cell hq9 1).trans rfl; have hqz_2 : w9.cell? ⟨gq, 2, none⟩ = some (.int .i64 x2.1) := (blk_cell hq9 2).trans rfl; have hqz_3 : w9.cell? ⟨gq, 3, none⟩ = some (.int .i64 x3.1) := (blk_cell hq9 3).trans rfl; have hqz_4 : w9.cell? ⟨gq, 4, none⟩ = some (.int .i64 x4.1) := (blk_cell hq9 4).trans rfl; have hqz_5 : w9.cell? ⟨gq, 5, none⟩ = some (.int .i64 x5.1) := (blk_cell hq9 5).trans rfl; have hqz_6 : w9.cell? ⟨gq, 6, none⟩ = some (.int .i64 x6.1) := (blk_cell hq9 6).trans rfl; have hqz_7 : w9.cell? ⟨gq, 7, none⟩ = some (.int .i64 x7.1) := (blk_cell hq9 7).trans rfl; have hqz_8 : w9.cell? ⟨gq, 8, none⟩ = some (.string x8.1) := (blk_cell hq9 8).trans rfl; (try clear hrz_0 hrz_1 hrz_2 hrz_3 hrz_4 hrz_5 hrz_6 hrz_7 hrz_8 hrf_0 hrf_1 hrf_2 hrf_3 hrf_4 hrf_5 hrf_6 hrf_7 hrf_8); have hrz_0 : w9.cell? ⟨gr, 0, none⟩ = some (.int .i64 0) := (blk_cell hr9 0).trans rfl; have hrz_1 : w9.cell? ⟨gr, 1, none⟩ = some (.int .i64 0) := (blk_cell hr9 1).trans rfl; have hrz_2 : w9.cell? ⟨gr, 2, none⟩ = some (.int .i64 0) := (blk_cell hr9 2).trans rfl; have hrz_3 : w9.cell? ⟨gr, 3, none⟩ = some (.int .i64 0) := (blk_cell hr9 3).trans rfl; have hrz_4 : w9.cell? ⟨gr, 4, none⟩ = some (.int .i64 0) := (blk_cell hr9 4).trans rfl; have hrz_5 : w9.cell? ⟨gr, 5, none⟩ = some (.int .i64 0) := (blk_cell hr9 5).trans rfl; have hrz_6 : w9.cell? ⟨gr, 6, none⟩ = some (.int .i64 0) := (blk_cell hr9 6).trans rfl; have hrz_7 : w9.cell? ⟨gr, 7, none⟩ = some (.int .i64 0) := (blk_cell hr9 7).trans rfl; have hrz_8 : w9.cell? ⟨gr, 8, none⟩ = some (.string (⟨#[]⟩ : ByteArray)) := (blk_cell hr9 8).trans rfl; have hrf_0 : w9.frozen? ⟨gr, 0, none⟩ = false := blk_frozen hr9 0; have hrf_1 : w9.frozen? ⟨gr, 1, none⟩ = false := blk_frozen hr9 1; have hrf_2 : w9.frozen? ⟨gr, 2, none⟩ = false := blk_frozen hr9 2; have hrf_3 : w9.frozen? ⟨gr, 3, none⟩ = false := blk_frozen hr9 3; have hrf_4 : w9.frozen? ⟨gr, 4, none⟩ = false := blk_frozen hr9 4; have hrf_5 : w9.frozen? ⟨gr, 5, none⟩ = false := blk_frozen hr9 5; have hrf_6 : w9.frozen? ⟨gr, 6, none⟩ = false := blk_frozen hr9 6; have hrf_7 : w9.frozen? ⟨gr, 7, none⟩ = false := blk_frozen hr9 7; have hrf_8 : w9.frozen? ⟨gr, 8, none⟩ = false := blk_frozen hr9 8))
          refine bodyPost_ret (results_ct rfl _ _ gr 44 #[.int .i64 x0.1, .int .i64 x1.1, .int .i64 x2.1, .int .i64 x3.1, .int .i64 x4.1, .int .i64 x5.1, .int .i64 x6.1, .int .i64 x7.1, .string x8.1] (0, 0) _ rfl (st9 hr9 _ _ _ _ _ _ _ _ _) Try.underlying44 rfl (by kernel_rfl)) rfl ?_
          exact ⟨rfl, st9_below hB9 GR.out _ _ _ _ _ _ _ _ _⟩
        | false =>
          rw [if_neg (by simp)] at h
          simp only [noRq, Option.some.injEq, Prod.mk.injEq] at h
          obtain ⟨rfl, rfl, rfl, rfl, rfl, rfl, rfl, rfl, rfl, rfl⟩ := h
          go_enter Try.func80, Try.ntmps80
          go_wp2_with (first | ((with_reducible refine gate_dst (N := 2) rfl ?_); refine box_event ?hg (N := 2) ?hd (cs := #[.int .i64 0, .int .i64 0, .int .i64 0, .int .i64 0, .int .i64 0, .int .i64 0, .int .i64 0, .int .i64 0, .string (⟨#[]⟩ : ByteArray)]) (t := 44) ?hr ?_; (case hd => rfl); (case hg => rfl); (case hr => first | (go_simp; done) | (go_simp; rfl)); intro gr hgr w1 hr1 hb1; have GR := Lib.hid (show w.heap.size ≤ gr from Nat.le_of_eq hgr.symm); clear hgr))
          refine (newReader k t body code w1 HR.out).mono ?_; rintro e w2 ⟨g, rfl, hg, hR, hb2⟩; have hr2 := blk_below hr1 hb2; have hgne : gr ≠ g := Nat.ne_of_lt (Nat.lt_of_lt_of_le (blk_lt hr1) hg); have hI2 : IsR w w2 g (body, 0, 0) := ⟨hR, Nat.le_trans hb1.size hg⟩; have hB2 : Below w.heap.size w w2 := hb1.trans (hb2.mono hb1.size); go_wp2_with fail; refine (num_call k g _ x0 w w2 hI2 hB2 HN0.out).mono ?_; rintro e w3 ⟨rfl, hI3, hB3, hK3⟩; go_wp2_with fail; refine (num_call k g _ x1 w w3 hI3 hB3 HN1.out).mono ?_; rintro e w4 ⟨rfl, hI4, hB4, hK4⟩; go_wp2_with fail; refine (num_call k g _ x2 w w4 hI4 hB4 HN2.out).mono ?_; rintro e w5 ⟨rfl, hI5, hB5, hK5⟩; go_wp2_with fail; refine (num_call k g _ x3 w w5 hI5 hB5 HN3.out).mono ?_; rintro e w6 ⟨rfl, hI6, hB6, hK6⟩; have hr3 := (hK3.2 gr (blk_lt hr2) hgne (by simp)).trans hr2; have hr4 := (hK4.2 gr (blk_lt hr3) hgne (by simp)).trans hr3; have hr5 := (hK5.2 gr (blk_lt hr4) hgne (by simp)).trans hr4; have hr6 := (hK6.2 gr (blk_lt hr5) hgne (by simp)).trans hr5
          go_wp2_with (first | ((with_reducible refine gate_dst (N := 26) rfl ?_); generalize hw7 : w6.alloc _ = w7; have hb7 : Below w6.heap.size w6 w7 := (by rw [← hw7]; exact (Below.refl _ _).alloc (Nat.le_refl _) _); have hq7 : w7.heap[w6.heap.size]? = some (.cells #[.int .i64 x0.1, .int .i64 x1.1, .int .i64 x2.1, .int .i64 x3.1, .int .i64 0, .int .i64 0, .int .i64 0, .int .i64 0, .string (⟨#[]⟩ : ByteArray)] 44 (0, 0)) := (by rw [← hw7]; exact heap_alloc_new _ _); clear hw7; have hr7 := blk_below hr6 hb7; have hI7 : IsR w w7 g x3.2 := IsS133.below hI6 hb7; have hB7 : Below w.heap.size w w7 := hB6.trans (hb7.mono hB6.size); have hqg : w6.heap.size ≠ g := (Nat.ne_of_lt (blk_lt hI6.1)).symm; have hqr : w6.heap.size ≠ gr := (Nat.ne_of_lt (blk_lt hr6)).symm; have hqle : w.heap.size ≤ w6.heap.size := hB6.size; generalize w6.heap.size = gq at hq7 hqg hqr hqle ⊢; have hqz_0 : w7.cell? ⟨gq, 0, none⟩ = some (.int .i64 x0.1) := (blk_cell hq7 0).trans rfl))
          refine (num_call k g _ x4 w w7 hI7 hB7 HN4.out).mono ?_; rintro e w8 ⟨rfl, hI8, hB8, hK8⟩; have hr8 := (hK8.2 gr (blk_lt hr7) hgne (by simp)).trans hr7; have hq8 := (hK8.2 gq (blk_lt hq7) hqg (by simp)).trans hq7; go_wp2_with fail; refine (num_call k g _ x5 w w8 hI8 hB8 HN5.out).mono ?_; rintro e w9 ⟨rfl, hI9, hB9, hK9⟩; have hr9 := (hK9.2 gr (blk_lt hr8) hgne (by simp)).trans hr8; have hq9 := (hK9.2 gq (blk_lt hq8) hqg (by simp)).trans hq8; go_wp2_with fail; refine (num_call k g _ x6 w w9 hI9 hB9 HN6.out).mono ?_; rintro e w10 ⟨rfl, hI10, hB10, hK10⟩; have hr10 := (hK10.2 gr (blk_lt hr9) hgne (by simp)).trans hr9; have hq10 := (hK10.2 gq (blk_lt hq9) hqg (by simp)).trans hq9; go_wp2_with fail; refine (num_call k g _ x7 w w10 hI10 hB10 HN7.out).mono ?_; rintro e w11 ⟨rfl, hI11, hB11, hK11⟩; have hr11 := (hK11.2 gr (blk_lt hr10) hgne (by simp)).trans hr10; have hq11 := (hK11.2 gq (blk_lt hq10) hqg (by simp)).trans hq10; go_wp2_with fail; refine (str_call k g _ x8 w w11 hI11 hB11 HN8.out).mono ?_; rintro e w12 ⟨rfl, hI12, hB12, hK12⟩; have hr12 := (hK12.2 gr (blk_lt hr11) hgne (by simp)).trans hr11; have hq12 := (hK12.2 gq (blk_lt hq11) hqg (by simp)).trans hq11; have hez_4 : w12.cell? ⟨gq, 4, none⟩ = some (.int .i64 0) := (blk_cell hq12 4).trans rfl; have hef_4 : w12.frozen? ⟨gq, 4, none⟩ = false := blk_frozen hq12 4; have hez_5 : w12.cell? ⟨gq, 5, none⟩ = some (.int .i64 0) := (blk_cell hq12 5).trans rfl; have hef_5 : w12.frozen? ⟨gq, 5, none⟩ = false := blk_frozen hq12 5; have hez_6 : w12.cell? ⟨gq, 6, none⟩ = some (.int .i64 0) := (blk_cell hq12 6).trans rfl; have hef_6 : w12.frozen? ⟨gq, 6, none⟩ = false := blk_frozen hq12 6; have hez_7 : w12.cell? ⟨gq, 7, none⟩ = some (.int .i64 0) := (blk_cell hq12 7).trans rfl; have hef_7 : w12.frozen? ⟨gq, 7, none⟩ = false := blk_frozen hq12 7; have hez_8 : w12.cell? ⟨gq, 8, none⟩ = some (.string (⟨#[]⟩ : ByteArray)) := (blk_cell hq12 8).trans rfl; have hef_8 : w12.frozen? ⟨gq, 8, none⟩ = false := blk_frozen hq12 8; go_wp2_with fail; have hq13 := st5 hq12 (.int .i64 x4.1) (.int .i64 x5.1) (.int .i64 x6.1) (.int .i64 x7.1) (.string x8.1); have hr13 := st5_far hr12 hqr.symm (.int .i64 x4.1) (.int .i64 x5.1) (.int .i64 x6.1) (.int .i64 x7.1) (.string x8.1); have hI13 := st5_far hI12.1 hqg.symm (.int .i64 x4.1) (.int .i64 x5.1) (.int .i64 x6.1) (.int .i64 x7.1) (.string x8.1); have hB13 := st5_below hB12 hqle (.int .i64 x4.1) (.int .i64 x5.1) (.int .i64 x6.1) (.int .i64 x7.1) (.string x8.1); generalize (((((w12.setCell ⟨gq, 4, none⟩ (.int .i64 x4.1)).setCell ⟨gq, 5, none⟩ (.int .i64 x5.1)).setCell ⟨gq, 6, none⟩ (.int .i64 x6.1)).setCell ⟨gq, 7, none⟩ (.int .i64 x7.1)).setCell ⟨gq, 8, none⟩ (.string x8.1)) = w13 at hq13 hr13 hI13 hB13 ⊢; refine (end_call g _ y w w13 ⟨hI13, hI12.2⟩ hB13 HY.out).mono ?_; rintro e w8 ⟨rfl, hI8, hB8, hK8⟩; have hr8 := (hK8.2 gr (blk_lt hr13) hgne (by simp)).trans hr13; have hq8 := (hK8.2 gq (blk_lt hq13) hqg (by simp)).trans hq13; (try clear hqz_0 hqz_1 hqz_2 hqz_3 hqz_4 hqz_5 hqz_6 hqz_7 hqz_8); (try clear hqz_0); have hqz_0 : w8.cell? ⟨gq, 0, none⟩ = some (.int .i64 x0.1) := (blk_cell hq8 0).trans rfl; have hqz_1 : w8.cell? ⟨gq, 1, none⟩ = some (.int .i64 x1.1) := (blk_cell hq8 1).trans rfl; have hqz_2 : w8.cell? ⟨gq, 2, none⟩ = some (.int .i64 x2.1) := (blk_cell hq8 2).trans rfl; have hqz_3 : w8.cell? ⟨gq, 3, none⟩ = some (.int .i64 x3.1) := (blk_cell hq8 3).trans rfl; have hqz_4 : w8.cell? ⟨gq, 4, none⟩ = some (.int .i64 x4.1) := (blk_cell hq8 4).trans rfl; have hqz_5 : w8.cell? ⟨gq, 5, none⟩ = some (.int .i64 x5.1) := (blk_cell hq8 5).trans rfl; have hqz_6 : w8.cell? ⟨gq, 6, none⟩ = some (.int .i64 x6.1) := (blk_cell hq8 6).trans rfl; have hqz_7 : w8.cell? ⟨gq, 7, none⟩ = some (.int .i64 x7.1) := (blk_cell hq8 7).trans rfl; have hqz_8 : w8.cell? ⟨gq, 8, none⟩ = some (.string x8.1) := (blk_cell hq8 8).trans rfl; (try clear hrz_0 hrz_1 hrz_2 hrz_3 hrz_4 hrz_5 hrz_6 hrz_7 hrz_8 hrf_0 hrf_1 hrf_2 hrf_3 hrf_4 hrf_5 hrf_6 hrf_7 hrf_8); have hrz_0 : w8.cell? ⟨gr, 0, none⟩ = some (.int .i64 0) := (blk_cell hr8 0).trans rfl; have hrz_1 : w8.cell? ⟨gr, 1, none⟩ = some (.int .i64 0) := (blk_cell hr8 1).trans rfl; have hrz_2 : w8.cell? ⟨gr, 2, none⟩ = some (.int .i64 0) := (blk_cell hr8 2).trans rfl; have hrz_3 : w8.cell? ⟨gr, 3, none⟩ = some (.int .i64 0) := (blk_cell hr8 3).trans rfl; have hrz_4 : w8.cell? ⟨gr, 4, none⟩ = some (.int .i64 0) := (blk_cell hr8 4).trans rfl; have hrz_5 : w8.cell? ⟨gr, 5, none⟩ = some (.int .i64 0) := (blk_cell hr8 5).trans rfl; have hrz_6 : w8.cell? ⟨gr, 6, none⟩ = some (.int .i64 0) := (blk_cell hr8 6).trans rfl; have hrz_7 : w8.cell? ⟨gr, 7, none⟩ = some (.int .i64 0) := (blk_cell hr8 7).trans rfl; have hrz_8 : w8.cell? ⟨gr, 8, none⟩ = some (.string (⟨#[]⟩ : ByteArray)) := (blk_cell hr8 8).trans rfl; have hrf_0 : w8.frozen? ⟨gr, 0, none⟩ = false := blk_frozen hr8 0; have hrf_1 : w8.frozen? ⟨gr, 1, none⟩ = false := blk_frozen hr8 1; have hrf_2 : w8.frozen? ⟨gr, 2, none⟩ = false := blk_frozen hr8 2; have hrf_3 : w8.frozen? ⟨gr, 3, none⟩ = false := blk_frozen hr8 3; have hrf_4 : w8.frozen? ⟨gr, 4, none⟩ = false := blk_frozen hr8 4; have hrf_5 : w8.frozen? ⟨gr, 5, none⟩ = false := blk_frozen hr8 5; have hrf_6 : w8.frozen? ⟨gr, 6, none⟩ = false := blk_frozen hr8 6; have hrf_7 : w8.frozen? ⟨gr, 7, none⟩ = false := blk_frozen hr8 7; have hrf_8 : w8.frozen? ⟨gr, 8, none⟩ = false := blk_frozen hr8 8
          go_wp2_with (first | ((with_reducible refine gate_callee (f := 63) rfl ?_); refine goesL_ (some 48) rfl rfl Try.func63 (by kernel_rfl) rfl #[.agg #[.int .i64 x0.1, .int .i64 x1.1, .int .i64 x2.1, .int .i64 x3.1, .int .i64 x4.1, .int .i64 x5.1, .int .i64 x6.1, .int .i64 x7.1, .string x8.1]] rfl (by (try simp only [List.map_toArray, List.map_cons, List.map_nil]); first | done | rfl) ?_; (with_reducible refine (impl_RequestOK.calls k x0.1 x1.1 x2.1 x3.1 x4.1 x5.1 x6.1 x7.1 x8.1 false _ HBB.out).mono ?_); rintro e w9 ⟨rfl, hb9⟩; refine ⟨_, rfl, ?_⟩; have hr9 := blk_below hr8 hb9; have hq9 := blk_below hq8 hb9; have hB9 : Below w.heap.size w w9 := hB8.trans (hb9.mono hB8.size); (try clear hqz_0 hqz_1 hqz_2 hqz_3 hqz_4 hqz_5 hqz_6 hqz_7 hqz_8); (try clear hqz_0); have hqz_0 : w9.cell? ⟨gq, 0, none⟩ = some (.int .i64 x0.1) := (blk_cell hq9 0).trans rfl; have hqz_1 : w9.cell? ⟨gq, 1, none⟩ = some (.int .i64 x1.1) := (blk_cell hq9 1).trans rfl; have hqz_2 : w9.cell? ⟨gq, 2, none⟩ = some (.int .i64 x2.1) := (blk_cell hq9 2).trans rfl; have hqz_3 : w9.cell? ⟨gq, 3, none⟩ = some (.int .i64 x3.1) := (blk_cell hq9 3).trans rfl; have hqz_4 : w9.cell? ⟨gq, 4, none⟩ = some (.int .i64 x4.1) := (blk_cell hq9 4).trans rfl; have hqz_5 : w9.cell? ⟨gq, 5, none⟩ = some (.int .i64 x5.1) := (blk_cell hq9 5).trans rfl; have hqz_6 : w9.cell? ⟨gq, 6, none⟩ = some (.int .i64 x6.1) := (blk_cell hq9 6).trans rfl; have hqz_7 : w9.cell? ⟨gq, 7, none⟩ = some (.int .i64 x7.1) := (blk_cell hq9 7).trans rfl; have hqz_8 : w9.cell? ⟨gq, 8, none⟩ = some (.string x8.1) := (blk_cell hq9 8).trans rfl; (try clear hrz_0 hrz_1 hrz_2 hrz_3 hrz_4 hrz_5 hrz_6 hrz_7 hrz_8 hrf_0 hrf_1 hrf_2 hrf_3 hrf_4 hrf_5 hrf_6 hrf_7 hrf_8); have hrz_0 : w9.cell? ⟨gr, 0, none⟩ = some (.int .i64 0) := (blk_cell hr9 0).trans rfl; have hrz_1 : w9.cell? ⟨gr, 1, none⟩ = some (.int .i64 0) := (blk_cell hr9 1).trans rfl; have hrz_2 : w9.cell? ⟨gr, 2, none⟩ = some (.int .i64 0) := (blk_cell hr9 2).trans rfl; have hrz_3 : w9.cell? ⟨gr, 3, none⟩ = some (.int .i64 0) := (blk_cell hr9 3).trans rfl; have hrz_4 : w9.cell? ⟨gr, 4, none⟩ = some (.int .i64 0) := (blk_cell hr9 4).trans rfl; have hrz_5 : w9.cell? ⟨gr, 5, none⟩ = some (.int .i64 0) := (blk_cell hr9 5).trans rfl; have hrz_6 : w9.cell? ⟨gr, 6, none⟩ = some (.int .i64 0) := (blk_cell hr9 6).trans rfl; have hrz_7 : w9.cell? ⟨gr, 7, none⟩ = some (.int .i64 0) := (blk_cell hr9 7).trans rfl; have hrz_8 : w9.cell? ⟨gr, 8, none⟩ = some (.string (⟨#[]⟩ : ByteArray)) := (blk_cell hr9 8).trans rfl; have hrf_0 : w9.frozen? ⟨gr, 0, none⟩ = false := blk_frozen hr9 0; have hrf_1 : w9.frozen? ⟨gr, 1, none⟩ = false := blk_frozen hr9 1; have hrf_2 : w9.frozen? ⟨gr, 2, none⟩ = false := blk_frozen hr9 2; have hrf_3 : w9.frozen? ⟨gr, 3, none⟩ = false := blk_frozen hr9 3; have hrf_4 : w9.frozen? ⟨gr, 4, none⟩ = false := blk_frozen hr9 4; have hrf_5 : w9.frozen? ⟨gr, 5, none⟩ = false := blk_frozen hr9 5; have hrf_6 : w9.frozen? ⟨gr, 6, none⟩ = false := blk_frozen hr9 6; have hrf_7 : w9.frozen? ⟨gr, 7, none⟩ = false := blk_frozen hr9 7; have hrf_8 : w9.frozen? ⟨gr, 8, none⟩ = false := blk_frozen hr9 8))
          refine bodyPost_ret (results_ct rfl _ _ gr 44 #[.int .i64 0, .int .i64 0, .int .i64 0, .int .i64 0, .int .i64 0, .int .i64 0, .int .i64 0, .int .i64 0, .string (⟨#[]⟩ : ByteArray)] (0, 0) _ rfl (st9 hr9 _ _ _ _ _ _ _ _ _) Try.underlying44 rfl (by kernel_rfl)) rfl ?_
          exact ⟨rfl, st9_below hB9 GR.out _ _ _ _ _ _ _ _ _⟩
      · rw [if_neg cy] at h
        simp only [noRq, Option.some.injEq, Prod.mk.injEq] at h
        obtain ⟨rfl, rfl, rfl, rfl, rfl, rfl, rfl, rfl, rfl, rfl⟩ := h
        have cyb : (y.1 != 0) = true := bne_iff_ne.mpr cy
        clear cy
        go_enter Try.func80, Try.ntmps80
        go_wp2_with (first | ((with_reducible refine gate_dst (N := 2) rfl ?_); refine box_event ?hg (N := 2) ?hd (cs := #[.int .i64 0, .int .i64 0, .int .i64 0, .int .i64 0, .int .i64 0, .int .i64 0, .int .i64 0, .int .i64 0, .string (⟨#[]⟩ : ByteArray)]) (t := 44) ?hr ?_; (case hd => rfl); (case hg => rfl); (case hr => first | (go_simp; done) | (go_simp; rfl)); intro gr hgr w1 hr1 hb1; have GR := Lib.hid (show w.heap.size ≤ gr from Nat.le_of_eq hgr.symm); clear hgr))
        refine (newReader k t body code w1 HR.out).mono ?_; rintro e w2 ⟨g, rfl, hg, hR, hb2⟩; have hr2 := blk_below hr1 hb2; have hgne : gr ≠ g := Nat.ne_of_lt (Nat.lt_of_lt_of_le (blk_lt hr1) hg); have hI2 : IsR w w2 g (body, 0, 0) := ⟨hR, Nat.le_trans hb1.size hg⟩; have hB2 : Below w.heap.size w w2 := hb1.trans (hb2.mono hb1.size); go_wp2_with fail; refine (num_call k g _ x0 w w2 hI2 hB2 HN0.out).mono ?_; rintro e w3 ⟨rfl, hI3, hB3, hK3⟩; go_wp2_with fail; refine (num_call k g _ x1 w w3 hI3 hB3 HN1.out).mono ?_; rintro e w4 ⟨rfl, hI4, hB4, hK4⟩; go_wp2_with fail; refine (num_call k g _ x2 w w4 hI4 hB4 HN2.out).mono ?_; rintro e w5 ⟨rfl, hI5, hB5, hK5⟩; go_wp2_with fail; refine (num_call k g _ x3 w w5 hI5 hB5 HN3.out).mono ?_; rintro e w6 ⟨rfl, hI6, hB6, hK6⟩; have hr3 := (hK3.2 gr (blk_lt hr2) hgne (by simp)).trans hr2; have hr4 := (hK4.2 gr (blk_lt hr3) hgne (by simp)).trans hr3; have hr5 := (hK5.2 gr (blk_lt hr4) hgne (by simp)).trans hr4; have hr6 := (hK6.2 gr (blk_lt hr5) hgne (by simp)).trans hr5
        go_wp2_with (first | ((with_reducible refine gate_dst (N := 26) rfl ?_); generalize hw7 : w6.alloc _ = w7; have hb7 : Below w6.heap.size w6 w7 := (by rw [← hw7]; exact (Below.refl _ _).alloc (Nat.le_refl _) _); have hq7 : w7.heap[w6.heap.size]? = some (.cells #[.int .i64 x0.1, .int .i64 x1.1, .int .i64 x2.1, .int .i64 x3.1, .int .i64 0, .int .i64 0, .int .i64 0, .int .i64 0, .string (⟨#[]⟩ : ByteArray)] 44 (0, 0)) := (by rw [← hw7]; exact heap_alloc_new _ _); clear hw7; have hr7 := blk_below hr6 hb7; have hI7 : IsR w w7 g x3.2 := IsS133.below hI6 hb7; have hB7 : Below w.heap.size w w7 := hB6.trans (hb7.mono hB6.size); have hqg : w6.heap.size ≠ g := (Nat.ne_of_lt (blk_lt hI6.1)).symm; have hqr : w6.heap.size ≠ gr := (Nat.ne_of_lt (blk_lt hr6)).symm; have hqle : w.heap.size ≤ w6.heap.size := hB6.size; generalize w6.heap.size = gq at hq7 hqg hqr hqle ⊢; have hqz_0 : w7.cell? ⟨gq, 0, none⟩ = some (.int .i64 x0.1) := (blk_cell hq7 0).trans rfl))
        refine (num_call k g _ x4 w w7 hI7 hB7 HN4.out).mono ?_; rintro e w8 ⟨rfl, hI8, hB8, hK8⟩; have hr8 := (hK8.2 gr (blk_lt hr7) hgne (by simp)).trans hr7; have hq8 := (hK8.2 gq (blk_lt hq7) hqg (by simp)).trans hq7; go_wp2_with fail; refine (num_call k g _ x5 w w8 hI8 hB8 HN5.out).mono ?_; rintro e w9 ⟨rfl, hI9, hB9, hK9⟩; have hr9 := (hK9.2 gr (blk_lt hr8) hgne (by simp)).trans hr8; have hq9 := (hK9.2 gq (blk_lt hq8) hqg (by simp)).trans hq8; go_wp2_with fail; refine (num_call k g _ x6 w w9 hI9 hB9 HN6.out).mono ?_; rintro e w10 ⟨rfl, hI10, hB10, hK10⟩; have hr10 := (hK10.2 gr (blk_lt hr9) hgne (by simp)).trans hr9; have hq10 := (hK10.2 gq (blk_lt hq9) hqg (by simp)).trans hq9; go_wp2_with fail; refine (num_call k g _ x7 w w10 hI10 hB10 HN7.out).mono ?_; rintro e w11 ⟨rfl, hI11, hB11, hK11⟩; have hr11 := (hK11.2 gr (blk_lt hr10) hgne (by simp)).trans hr10; have hq11 := (hK11.2 gq (blk_lt hq10) hqg (by simp)).trans hq10; go_wp2_with fail; refine (str_call k g _ x8 w w11 hI11 hB11 HN8.out).mono ?_; rintro e w12 ⟨rfl, hI12, hB12, hK12⟩; have hr12 := (hK12.2 gr (blk_lt hr11) hgne (by simp)).trans hr11; have hq12 := (hK12.2 gq (blk_lt hq11) hqg (by simp)).trans hq11; have hez_4 : w12.cell? ⟨gq, 4, none⟩ = some (.int .i64 0) := (blk_cell hq12 4).trans rfl; have hef_4 : w12.frozen? ⟨gq, 4, none⟩ = false := blk_frozen hq12 4; have hez_5 : w12.cell? ⟨gq, 5, none⟩ = some (.int .i64 0) := (blk_cell hq12 5).trans rfl; have hef_5 : w12.frozen? ⟨gq, 5, none⟩ = false := blk_frozen hq12 5; have hez_6 : w12.cell? ⟨gq, 6, none⟩ = some (.int .i64 0) := (blk_cell hq12 6).trans rfl; have hef_6 : w12.frozen? ⟨gq, 6, none⟩ = false := blk_frozen hq12 6; have hez_7 : w12.cell? ⟨gq, 7, none⟩ = some (.int .i64 0) := (blk_cell hq12 7).trans rfl; have hef_7 : w12.frozen? ⟨gq, 7, none⟩ = false := blk_frozen hq12 7; have hez_8 : w12.cell? ⟨gq, 8, none⟩ = some (.string (⟨#[]⟩ : ByteArray)) := (blk_cell hq12 8).trans rfl; have hef_8 : w12.frozen? ⟨gq, 8, none⟩ = false := blk_frozen hq12 8; go_wp2_with fail; have hq13 := st5 hq12 (.int .i64 x4.1) (.int .i64 x5.1) (.int .i64 x6.1) (.int .i64 x7.1) (.string x8.1); have hr13 := st5_far hr12 hqr.symm (.int .i64 x4.1) (.int .i64 x5.1) (.int .i64 x6.1) (.int .i64 x7.1) (.string x8.1); have hI13 := st5_far hI12.1 hqg.symm (.int .i64 x4.1) (.int .i64 x5.1) (.int .i64 x6.1) (.int .i64 x7.1) (.string x8.1); have hB13 := st5_below hB12 hqle (.int .i64 x4.1) (.int .i64 x5.1) (.int .i64 x6.1) (.int .i64 x7.1) (.string x8.1); generalize (((((w12.setCell ⟨gq, 4, none⟩ (.int .i64 x4.1)).setCell ⟨gq, 5, none⟩ (.int .i64 x5.1)).setCell ⟨gq, 6, none⟩ (.int .i64 x6.1)).setCell ⟨gq, 7, none⟩ (.int .i64 x7.1)).setCell ⟨gq, 8, none⟩ (.string x8.1)) = w13 at hq13 hr13 hI13 hB13 ⊢; refine (end_call g _ y w w13 ⟨hI13, hI12.2⟩ hB13 HY.out).mono ?_; rintro e w8 ⟨rfl, hI8, hB8, hK8⟩; have hr8 := (hK8.2 gr (blk_lt hr13) hgne (by simp)).trans hr13; have hq8 := (hK8.2 gq (blk_lt hq13) hqg (by simp)).trans hq13; (try clear hqz_0 hqz_1 hqz_2 hqz_3 hqz_4 hqz_5 hqz_6 hqz_7 hqz_8); (try clear hqz_0); have hqz_0 : w8.cell? ⟨gq, 0, none⟩ = some (.int .i64 x0.1) := (blk_cell hq8 0).trans rfl; have hqz_1 : w8.cell? ⟨gq, 1, none⟩ = some (.int .i64 x1.1) := (blk_cell hq8 1).trans rfl; have hqz_2 : w8.cell? ⟨gq, 2, none⟩ = some (.int .i64 x2.1) := (blk_cell hq8 2).trans rfl; have hqz_3 : w8.cell? ⟨gq, 3, none⟩ = some (.int .i64 x3.1) := (blk_cell hq8 3).trans rfl; have hqz_4 : w8.cell? ⟨gq, 4, none⟩ = some (.int .i64 x4.1) := (blk_cell hq8 4).trans rfl; have hqz_5 : w8.cell? ⟨gq, 5, none⟩ = some (.int .i64 x5.1) := (blk_cell hq8 5).trans rfl; have hqz_6 : w8.cell? ⟨gq, 6, none⟩ = some (.int .i64 x6.1) := (blk_cell hq8 6).trans rfl; have hqz_7 : w8.cell? ⟨gq, 7, none⟩ = some (.int .i64 x7.1) := (blk_cell hq8 7).trans rfl; have hqz_8 : w8.cell? ⟨gq, 8, none⟩ = some (.string x8.1) := (blk_cell hq8 8).trans rfl; (try clear hrz_0 hrz_1 hrz_2 hrz_3 hrz_4 hrz_5 hrz_6 hrz_7 hrz_8 hrf_0 hrf_1 hrf_2 hrf_3 hrf_4 hrf_5 hrf_6 hrf_7 hrf_8); have hrz_0 : w8.cell? ⟨gr, 0, none⟩ = some (.int .i64 0) := (blk_cell hr8 0).trans rfl; have hrz_1 : w8.cell? ⟨gr, 1, none⟩ = some (.int .i64 0) := (blk_cell hr8 1).trans rfl; have hrz_2 : w8.cell? ⟨gr, 2, none⟩ = some (.int .i64 0) := (blk_cell hr8 2).trans rfl; have hrz_3 : w8.cell? ⟨gr, 3, none⟩ = some (.int .i64 0) := (blk_cell hr8 3).trans rfl; have hrz_4 : w8.cell? ⟨gr, 4, none⟩ = some (.int .i64 0) := (blk_cell hr8 4).trans rfl; have hrz_5 : w8.cell? ⟨gr, 5, none⟩ = some (.int .i64 0) := (blk_cell hr8 5).trans rfl; have hrz_6 : w8.cell? ⟨gr, 6, none⟩ = some (.int .i64 0) := (blk_cell hr8 6).trans rfl; have hrz_7 : w8.cell? ⟨gr, 7, none⟩ = some (.int .i64 0) := (blk_cell hr8 7).trans rfl; have hrz_8 : w8.cell? ⟨gr, 8, none⟩ = some (.string (⟨#[]⟩ : ByteArray)) := (blk_cell hr8 8).trans rfl; have hrf_0 : w8.frozen? ⟨gr, 0, none⟩ = false := blk_frozen hr8 0; have hrf_1 : w8.frozen? ⟨gr, 1, none⟩ = false := blk_frozen hr8 1; have hrf_2 : w8.frozen? ⟨gr, 2, none⟩ = false := blk_frozen hr8 2; have hrf_3 : w8.frozen? ⟨gr, 3, none⟩ = false := blk_frozen hr8 3; have hrf_4 : w8.frozen? ⟨gr, 4, none⟩ = false := blk_frozen hr8 4; have hrf_5 : w8.frozen? ⟨gr, 5, none⟩ = false := blk_frozen hr8 5; have hrf_6 : w8.frozen? ⟨gr, 6, none⟩ = false := blk_frozen hr8 6; have hrf_7 : w8.frozen? ⟨gr, 7, none⟩ = false := blk_frozen hr8 7; have hrf_8 : w8.frozen? ⟨gr, 8, none⟩ = false := blk_frozen hr8 8
        go_wp2
        refine bodyPost_ret (results_ct rfl _ _ gr 44 #[.int .i64 0, .int .i64 0, .int .i64 0, .int .i64 0, .int .i64 0, .int .i64 0, .int .i64 0, .int .i64 0, .string (⟨#[]⟩ : ByteArray)] (0, 0) _ rfl (st9 hr8 _ _ _ _ _ _ _ _ _) Try.underlying44 rfl (by kernel_rfl)) rfl ?_
        exact ⟨rfl, st9_below hB8 GR.out _ _ _ _ _ _ _ _ _⟩
    · rw [if_neg c7] at h
      have c7b : (x0.1 == 7) = false := beq_eq_false_iff_ne.mpr c7
      clear c7
      unfold finReq at h
      obtain ⟨y, hy, h⟩ := Option.bind_eq_some_iff.1 h
      have HY := Lib.hid hy
      clear hy
      by_cases cy : y.1 = 0
      · rw [if_pos cy] at h
        obtain ⟨b, hb, h⟩ := Option.bind_eq_some_iff.1 h
        have HBB := Lib.hid hb
        have cyb : (y.1 != 0) = false := bne_eq_false_iff_eq.mpr cy
        clear hb cy
        cases b with
        | true =>
          rw [if_pos rfl] at h
          simp only [Option.some.injEq, Prod.mk.injEq] at h
          obtain ⟨rfl, rfl, rfl, rfl, rfl, rfl, rfl, rfl, rfl, rfl⟩ := h
          go_enter Try.func80, Try.ntmps80
          go_wp2_with (first | ((with_reducible refine gate_dst (N := 2) rfl ?_); refine box_event ?hg (N := 2) ?hd (cs := #[.int .i64 0, .int .i64 0, .int .i64 0, .int .i64 0, .int .i64 0, .int .i64 0, .int .i64 0, .int .i64 0, .string (⟨#[]⟩ : ByteArray)]) (t := 44) ?hr ?_; (case hd => rfl); (case hg => rfl); (case hr => first | (go_simp; done) | (go_simp; rfl)); intro gr hgr w1 hr1 hb1; have GR := Lib.hid (show w.heap.size ≤ gr from Nat.le_of_eq hgr.symm); clear hgr))
          refine (newReader k t body code w1 HR.out).mono ?_; rintro e w2 ⟨g, rfl, hg, hR, hb2⟩; have hr2 := blk_below hr1 hb2; have hgne : gr ≠ g := Nat.ne_of_lt (Nat.lt_of_lt_of_le (blk_lt hr1) hg); have hI2 : IsR w w2 g (body, 0, 0) := ⟨hR, Nat.le_trans hb1.size hg⟩; have hB2 : Below w.heap.size w w2 := hb1.trans (hb2.mono hb1.size); go_wp2_with fail; refine (num_call k g _ x0 w w2 hI2 hB2 HN0.out).mono ?_; rintro e w3 ⟨rfl, hI3, hB3, hK3⟩; go_wp2_with fail; refine (num_call k g _ x1 w w3 hI3 hB3 HN1.out).mono ?_; rintro e w4 ⟨rfl, hI4, hB4, hK4⟩; go_wp2_with fail; refine (num_call k g _ x2 w w4 hI4 hB4 HN2.out).mono ?_; rintro e w5 ⟨rfl, hI5, hB5, hK5⟩; go_wp2_with fail; refine (num_call k g _ x3 w w5 hI5 hB5 HN3.out).mono ?_; rintro e w6 ⟨rfl, hI6, hB6, hK6⟩; have hr3 := (hK3.2 gr (blk_lt hr2) hgne (by simp)).trans hr2; have hr4 := (hK4.2 gr (blk_lt hr3) hgne (by simp)).trans hr3; have hr5 := (hK5.2 gr (blk_lt hr4) hgne (by simp)).trans hr4; have hr6 := (hK6.2 gr (blk_lt hr5) hgne (by simp)).trans hr5
          go_wp2_with (first | ((with_reducible refine gate_dst (N := 26) rfl ?_); generalize hw7 : w6.alloc _ = w7; have hb7 : Below w6.heap.size w6 w7 := (by rw [← hw7]; exact (Below.refl _ _).alloc (Nat.le_refl _) _); have hq7 : w7.heap[w6.heap.size]? = some (.cells #[.int .i64 x0.1, .int .i64 x1.1, .int .i64 x2.1, .int .i64 x3.1, .int .i64 0, .int .i64 0, .int .i64 0, .int .i64 0, .string (⟨#[]⟩ : ByteArray)] 44 (0, 0)) := (by rw [← hw7]; exact heap_alloc_new _ _); clear hw7; have hr7 := blk_below hr6 hb7; have hI7 : IsR w w7 g x3.2 := IsS133.below hI6 hb7; have hB7 : Below w.heap.size w w7 := hB6.trans (hb7.mono hB6.size); have hqg : w6.heap.size ≠ g := (Nat.ne_of_lt (blk_lt hI6.1)).symm; have hqr : w6.heap.size ≠ gr := (Nat.ne_of_lt (blk_lt hr6)).symm; have hqle : w.heap.size ≤ w6.heap.size := hB6.size; generalize w6.heap.size = gq at hq7 hqg hqr hqle ⊢; have hqz_0 : w7.cell? ⟨gq, 0, none⟩ = some (.int .i64 x0.1) := (blk_cell hq7 0).trans rfl))
          refine (end_call g _ y w w7 hI7 hB7 HY.out).mono ?_; rintro e w8 ⟨rfl, hI8, hB8, hK8⟩; have hr8 := (hK8.2 gr (blk_lt hr7) hgne (by simp)).trans hr7; have hq8 := (hK8.2 gq (blk_lt hq7) hqg (by simp)).trans hq7; (try clear hqz_0 hqz_1 hqz_2 hqz_3 hqz_4 hqz_5 hqz_6 hqz_7 hqz_8); have hqz_0 : w8.cell? ⟨gq, 0, none⟩ = some (.int .i64 x0.1) := (blk_cell hq8 0).trans rfl; have hqz_1 : w8.cell? ⟨gq, 1, none⟩ = some (.int .i64 x1.1) := (blk_cell hq8 1).trans rfl; have hqz_2 : w8.cell? ⟨gq, 2, none⟩ = some (.int .i64 x2.1) := (blk_cell hq8 2).trans rfl; have hqz_3 : w8.cell? ⟨gq, 3, none⟩ = some (.int .i64 x3.1) := (blk_cell hq8 3).trans rfl; have hqz_4 : w8.cell? ⟨gq, 4, none⟩ = some (.int .i64 0) := (blk_cell hq8 4).trans rfl; have hqz_5 : w8.cell? ⟨gq, 5, none⟩ = some (.int .i64 0) := (blk_cell hq8 5).trans rfl; have hqz_6 : w8.cell? ⟨gq, 6, none⟩ = some (.int .i64 0) := (blk_cell hq8 6).trans rfl; have hqz_7 : w8.cell? ⟨gq, 7, none⟩ = some (.int .i64 0) := (blk_cell hq8 7).trans rfl; have hqz_8 : w8.cell? ⟨gq, 8, none⟩ = some (.string (⟨#[]⟩ : ByteArray)) := (blk_cell hq8 8).trans rfl; (try clear hrz_0 hrz_1 hrz_2 hrz_3 hrz_4 hrz_5 hrz_6 hrz_7 hrz_8 hrf_0 hrf_1 hrf_2 hrf_3 hrf_4 hrf_5 hrf_6 hrf_7 hrf_8); have hrz_0 : w8.cell? ⟨gr, 0, none⟩ = some (.int .i64 0) := (blk_cell hr8 0).trans rfl; have hrz_1 : w8.cell? ⟨gr, 1, none⟩ = some (.int .i64 0) := (blk_cell hr8 1).trans rfl; have hrz_2 : w8.cell? ⟨gr, 2, none⟩ = some (.int .i64 0) := (blk_cell hr8 2).trans rfl; have hrz_3 : w8.cell? ⟨gr, 3, none⟩ = some (.int .i64 0) := (blk_cell hr8 3).trans rfl; have hrz_4 : w8.cell? ⟨gr, 4, none⟩ = some (.int .i64 0) := (blk_cell hr8 4).trans rfl; have hrz_5 : w8.cell? ⟨gr, 5, none⟩ = some (.int .i64 0) := (blk_cell hr8 5).trans rfl; have hrz_6 : w8.cell? ⟨gr, 6, none⟩ = some (.int .i64 0) := (blk_cell hr8 6).trans rfl; have hrz_7 : w8.cell? ⟨gr, 7, none⟩ = some (.int .i64 0) := (blk_cell hr8 7).trans rfl; have hrz_8 : w8.cell? ⟨gr, 8, none⟩ = some (.string (⟨#[]⟩ : ByteArray)) := (blk_cell hr8 8).trans rfl; have hrf_0 : w8.frozen? ⟨gr, 0, none⟩ = false := blk_frozen hr8 0; have hrf_1 : w8.frozen? ⟨gr, 1, none⟩ = false := blk_frozen hr8 1; have hrf_2 : w8.frozen? ⟨gr, 2, none⟩ = false := blk_frozen hr8 2; have hrf_3 : w8.frozen? ⟨gr, 3, none⟩ = false := blk_frozen hr8 3; have hrf_4 : w8.frozen? ⟨gr, 4, none⟩ = false := blk_frozen hr8 4; have hrf_5 : w8.frozen? ⟨gr, 5, none⟩ = false := blk_frozen hr8 5; have hrf_6 : w8.frozen? ⟨gr, 6, none⟩ = false := blk_frozen hr8 6; have hrf_7 : w8.frozen? ⟨gr, 7, none⟩ = false := blk_frozen hr8 7; have hrf_8 : w8.frozen? ⟨gr, 8, none⟩ = false := blk_frozen hr8 8
          go_wp2_with (first | ((with_reducible refine gate_callee (f := 63) rfl ?_); refine goesL_ (some 48) rfl rfl Try.func63 (by kernel_rfl) rfl #[.agg #[.int .i64 x0.1, .int .i64 x1.1, .int .i64 x2.1, .int .i64 x3.1, .int .i64 0, .int .i64 0, .int .i64 0, .int .i64 0, .string (⟨#[]⟩ : ByteArray)]] rfl (by (try simp only [List.map_toArray, List.map_cons, List.map_nil]); first | done | rfl) ?_; (with_reducible refine (impl_RequestOK.calls k x0.1 x1.1 x2.1 x3.1 0 0 0 0 _ true _ HBB.out).mono ?_); rintro e w9 ⟨rfl, hb9⟩; refine ⟨_, rfl, ?_⟩; have hr9 := blk_below hr8 hb9; have hq9 := blk_below hq8 hb9; have hB9 : Below w.heap.size w w9 := hB8.trans (hb9.mono hB8.size); (try clear hqz_0 hqz_1 hqz_2 hqz_3 hqz_4 hqz_5 hqz_6 hqz_7 hqz_8); have hqz_0 : w9.cell? ⟨gq, 0, none⟩ = some (.int .i64 x0.1) := (blk_cell hq9 0).trans rfl; have hqz_1 : w9.cell? ⟨gq, 1, none⟩ = some (.int .i64 x1.1) := (blk_cell hq9 1).trans rfl; have hqz_2 : w9.cell? ⟨gq, 2, none⟩ = some (.int .i64 x2.1) := (blk_cell hq9 2).trans rfl; have hqz_3 : w9.cell? ⟨gq, 3, none⟩ = some (.int .i64 x3.1) := (blk_cell hq9 3).trans rfl; have hqz_4 : w9.cell? ⟨gq, 4, none⟩ = some (.int .i64 0) := (blk_cell hq9 4).trans rfl; have hqz_5 : w9.cell? ⟨gq, 5, none⟩ = some (.int .i64 0) := (blk_cell hq9 5).trans rfl; have hqz_6 : w9.cell? ⟨gq, 6, none⟩ = some (.int .i64 0) := (blk_cell hq9 6).trans rfl; have hqz_7 : w9.cell? ⟨gq, 7, none⟩ = some (.int .i64 0) := (blk_cell hq9 7).trans rfl; have hqz_8 : w9.cell? ⟨gq, 8, none⟩ = some (.string (⟨#[]⟩ : ByteArray)) := (blk_cell hq9 8).trans rfl; (try clear hrz_0 hrz_1 hrz_2 hrz_3 hrz_4 hrz_5 hrz_6 hrz_7 hrz_8 hrf_0 hrf_1 hrf_2 hrf_3 hrf_4 hrf_5 hrf_6 hrf_7 hrf_8); have hrz_0 : w9.cell? ⟨gr, 0, none⟩ = some (.int .i64 0) := (blk_cell hr9 0).trans rfl; have hrz_1 : w9.cell? ⟨gr, 1, none⟩ = some (.int .i64 0) := (blk_cell hr9 1).trans rfl; have hrz_2 : w9.cell? ⟨gr, 2, none⟩ = some (.int .i64 0) := (blk_cell hr9 2).trans rfl; have hrz_3 : w9.cell? ⟨gr, 3, none⟩ = some (.int .i64 0) := (blk_cell hr9 3).trans rfl; have hrz_4 : w9.cell? ⟨gr, 4, none⟩ = some (.int .i64 0) := (blk_cell hr9 4).trans rfl; have hrz_5 : w9.cell? ⟨gr, 5, none⟩ = some (.int .i64 0) := (blk_cell hr9 5).trans rfl; have hrz_6 : w9.cell? ⟨gr, 6, none⟩ = some (.int .i64 0) := (blk_cell hr9 6).trans rfl; have hrz_7 : w9.cell? ⟨gr, 7, none⟩ = some (.int .i64 0) := (blk_cell hr9 7).trans rfl; have hrz_8 : w9.cell? ⟨gr, 8, none⟩ = some (.string (⟨#[]⟩ : ByteArray)) := (blk_cell hr9 8).trans rfl; have hrf_0 : w9.frozen? ⟨gr, 0, none⟩ = false := blk_frozen hr9 0; have hrf_1 : w9.frozen? ⟨gr, 1, none⟩ = false := blk_frozen hr9 1; have hrf_2 : w9.frozen? ⟨gr, 2, none⟩ = false := blk_frozen hr9 2; have hrf_3 : w9.frozen? ⟨gr, 3, none⟩ = false := blk_frozen hr9 3; have hrf_4 : w9.frozen? ⟨gr, 4, none⟩ = false := blk_frozen hr9 4; have hrf_5 : w9.frozen? ⟨gr, 5, none⟩ = false := blk_frozen hr9 5; have hrf_6 : w9.frozen? ⟨gr, 6, none⟩ = false := blk_frozen hr9 6; have hrf_7 : w9.frozen? ⟨gr, 7, none⟩ = false := blk_frozen hr9 7; have hrf_8 : w9.frozen? ⟨gr, 8, none⟩ = false := blk_frozen hr9 8))
          refine bodyPost_ret (results_ct rfl _ _ gr 44 #[.int .i64 x0.1, .int .i64 x1.1, .int .i64 x2.1, .int .i64 x3.1, .int .i64 0, .int .i64 0, .int .i64 0, .int .i64 0, .string (⟨#[]⟩ : ByteArray)] (0, 0) _ rfl (st9 hr9 _ _ _ _ _ _ _ _ _) Try.underlying44 rfl (by kernel_rfl)) rfl ?_
          exact ⟨rfl, st9_below hB9 GR.out _ _ _ _ _ _ _ _ _⟩
        | false =>
          rw [if_neg (by simp)] at h
          simp only [noRq, Option.some.injEq, Prod.mk.injEq] at h
          obtain ⟨rfl, rfl, rfl, rfl, rfl, rfl, rfl, rfl, rfl, rfl⟩ := h
          go_enter Try.func80, Try.ntmps80
          go_wp2_with (first | ((with_reducible refine gate_dst (N := 2) rfl ?_); refine box_event ?hg (N := 2) ?hd (cs := #[.int .i64 0, .int .i64 0, .int .i64 0, .int .i64 0, .int .i64 0, .int .i64 0, .int .i64 0, .int .i64 0, .string (⟨#[]⟩ : ByteArray)]) (t := 44) ?hr ?_; (case hd => rfl); (case hg => rfl); (case hr => first | (go_simp; done) | (go_simp; rfl)); intro gr hgr w1 hr1 hb1; have GR := Lib.hid (show w.heap.size ≤ gr from Nat.le_of_eq hgr.symm); clear hgr))
          refine (newReader k t body code w1 HR.out).mono ?_; rintro e w2 ⟨g, rfl, hg, hR, hb2⟩; have hr2 := blk_below hr1 hb2; have hgne : gr ≠ g := Nat.ne_of_lt (Nat.lt_of_lt_of_le (blk_lt hr1) hg); have hI2 : IsR w w2 g (body, 0, 0) := ⟨hR, Nat.le_trans hb1.size hg⟩; have hB2 : Below w.heap.size w w2 := hb1.trans (hb2.mono hb1.size); go_wp2_with fail; refine (num_call k g _ x0 w w2 hI2 hB2 HN0.out).mono ?_; rintro e w3 ⟨rfl, hI3, hB3, hK3⟩; go_wp2_with fail; refine (num_call k g _ x1 w w3 hI3 hB3 HN1.out).mono ?_; rintro e w4 ⟨rfl, hI4, hB4, hK4⟩; go_wp2_with fail; refine (num_call k g _ x2 w w4 hI4 hB4 HN2.out).mono ?_; rintro e w5 ⟨rfl, hI5, hB5, hK5⟩; go_wp2_with fail; refine (num_call k g _ x3 w w5 hI5 hB5 HN3.out).mono ?_; rintro e w6 ⟨rfl, hI6, hB6, hK6⟩; have hr3 := (hK3.2 gr (blk_lt hr2) hgne (by simp)).trans hr2; have hr4 := (hK4.2 gr (blk_lt hr3) hgne (by simp)).trans hr3; have hr5 := (hK5.2 gr (blk_lt hr4) hgne (by simp)).trans hr4; have hr6 := (hK6.2 gr (blk_lt hr5) hgne (by simp)).trans hr5
          go_wp2_with (first | ((with_reducible refine gate_dst (N := 26) rfl ?_); generalize hw7 : w6.alloc _ = w7; have hb7 : Below w6.heap.size w6 w7 := (by rw [← hw7]; exact (Below.refl _ _).alloc (Nat.le_refl _) _); have hq7 : w7.heap[w6.heap.size]? = some (.cells #[.int .i64 x0.1, .int .i64 x1.1, .int .i64 x2.1, .int .i64 x3.1, .int .i64 0, .int .i64 0, .int .i64 0, .int .i64 0, .string (⟨#[]⟩ : ByteArray)] 44 (0, 0)) := (by rw [← hw7]; exact heap_alloc_new _ _); clear hw7; have hr7 := blk_below hr6 hb7; have hI7 : IsR w w7 g x3.2 := IsS133.below hI6 hb7; have hB7 : Below w.heap.size w w7 := hB6.trans (hb7.mono hB6.size); have hqg : w6.heap.size ≠ g := (Nat.ne_of_lt (blk_lt hI6.1)).symm; have hqr : w6.heap.size ≠ gr := (Nat.ne_of_lt (blk_lt hr6)).symm; have hqle : w.heap.size ≤ w6.heap.size := hB6.size; generalize w6.heap.size = gq at hq7 hqg hqr hqle ⊢; have hqz_0 : w7.cell? ⟨gq, 0, none⟩ = some (.int .i64 x0.1) := (blk_cell hq7 0).trans rfl))
          refine (end_call g _ y w w7 hI7 hB7 HY.out).mono ?_; rintro e w8 ⟨rfl, hI8, hB8, hK8⟩; have hr8 := (hK8.2 gr (blk_lt hr7) hgne (by simp)).trans hr7; have hq8 := (hK8.2 gq (blk_lt hq7) hqg (by simp)).trans hq7; (try clear hqz_0 hqz_1 hqz_2 hqz_3 hqz_4 hqz_5 hqz_6 hqz_7 hqz_8); have hqz_0 : w8.cell? ⟨gq, 0, none⟩ = some (.int .i64 x0.1) := (blk_cell hq8 0).trans rfl; have hqz_1 : w8.cell? ⟨gq, 1, none⟩ = some (.int .i64 x1.1) := (blk_cell hq8 1).trans rfl; have hqz_2 : w8.cell? ⟨gq, 2, none⟩ = some (.int .i64 x2.1) := (blk_cell hq8 2).trans rfl; have hqz_3 : w8.cell? ⟨gq, 3, none⟩ = some (.int .i64 x3.1) := (blk_cell hq8 3).trans rfl; have hqz_4 : w8.cell? ⟨gq, 4, none⟩ = some (.int .i64 0) := (blk_cell hq8 4).trans rfl; have hqz_5 : w8.cell? ⟨gq, 5, none⟩ = some (.int .i64 0) := (blk_cell hq8 5).trans rfl; have hqz_6 : w8.cell? ⟨gq, 6, none⟩ = some (.int .i64 0) := (blk_cell hq8 6).trans rfl; have hqz_7 : w8.cell? ⟨gq, 7, none⟩ = some (.int .i64 0) := (blk_cell hq8 7).trans rfl; have hqz_8 : w8.cell? ⟨gq, 8, none⟩ = some (.string (⟨#[]⟩ : ByteArray)) := (blk_cell hq8 8).trans rfl; (try clear hrz_0 hrz_1 hrz_2 hrz_3 hrz_4 hrz_5 hrz_6 hrz_7 hrz_8 hrf_0 hrf_1 hrf_2 hrf_3 hrf_4 hrf_5 hrf_6 hrf_7 hrf_8); have hrz_0 : w8.cell? ⟨gr, 0, none⟩ = some (.int .i64 0) := (blk_cell hr8 0).trans rfl; have hrz_1 : w8.cell? ⟨gr, 1, none⟩ = some (.int .i64 0) := (blk_cell hr8 1).trans rfl; have hrz_2 : w8.cell? ⟨gr, 2, none⟩ = some (.int .i64 0) := (blk_cell hr8 2).trans rfl; have hrz_3 : w8.cell? ⟨gr, 3, none⟩ = some (.int .i64 0) := (blk_cell hr8 3).trans rfl; have hrz_4 : w8.cell? ⟨gr, 4, none⟩ = some (.int .i64 0) := (blk_cell hr8 4).trans rfl; have hrz_5 : w8.cell? ⟨gr, 5, none⟩ = some (.int .i64 0) := (blk_cell hr8 5).trans rfl; have hrz_6 : w8.cell? ⟨gr, 6, none⟩ = some (.int .i64 0) := (blk_cell hr8 6).trans rfl; have hrz_7 : w8.cell? ⟨gr, 7, none⟩ = some (.int .i64 0) := (blk_cell hr8 7).trans rfl; have hrz_8 : w8.cell? ⟨gr, 8, none⟩ = some (.string (⟨#[]⟩ : ByteArray)) := (blk_cell hr8 8).trans rfl; have hrf_0 : w8.frozen? ⟨gr, 0, none⟩ = false := blk_frozen hr8 0; have hrf_1 : w8.frozen? ⟨gr, 1, none⟩ = false := blk_frozen hr8 1; have hrf_2 : w8.frozen? ⟨gr, 2, none⟩ = false := blk_frozen hr8 2; have hrf_3 : w8.frozen? ⟨gr, 3, none⟩ = false := blk_frozen hr8 3; have hrf_4 : w8.frozen? ⟨gr, 4, none⟩ = false := blk_frozen hr8 4; have hrf_5 : w8.frozen? ⟨gr, 5, none⟩ = false := blk_frozen hr8 5; have hrf_6 : w8.frozen? ⟨gr, 6, none⟩ = false := blk_frozen hr8 6; have hrf_7 : w8.frozen? ⟨gr, 7, none⟩ = false := blk_frozen hr8 7; have hrf_8 : w8.frozen? ⟨gr, 8, none⟩ = false := blk_frozen hr8 8
          go_wp2_with (first | ((with_reducible refine gate_callee (f := 63) rfl ?_); refine goesL_ (some 48) rfl rfl Try.func63 (by kernel_rfl) rfl #[.agg #[.int .i64 x0.1, .int .i64 x1.1, .int .i64 x2.1, .int .i64 x3.1, .int .i64 0, .int .i64 0, .int .i64 0, .int .i64 0, .string (⟨#[]⟩ : ByteArray)]] rfl (by (try simp only [List.map_toArray, List.map_cons, List.map_nil]); first | done | rfl) ?_; (with_reducible refine (impl_RequestOK.calls k x0.1 x1.1 x2.1 x3.1 0 0 0 0 _ false _ HBB.out).mono ?_); rintro e w9 ⟨rfl, hb9⟩; refine ⟨_, rfl, ?_⟩; have hr9 := blk_below hr8 hb9; have hq9 := blk_below hq8 hb9; have hB9 : Below w.heap.size w w9 := hB8.trans (hb9.mono hB8.size); (try clear hqz_0 hqz_1 hqz_2 hqz_3 hqz_4 hqz_5 hqz_6 hqz_7 hqz_8); have hqz_0 : w9.cell? ⟨gq, 0, none⟩ = some (.int .i64 x0.1) := (blk_cell hq9 0).trans rfl; have hqz_1 : w9.cell? ⟨gq, 1, none⟩ = some (.int .i64 x1.1) := (blk_cell hq9 1).trans rfl; have hqz_2 : w9.cell? ⟨gq, 2, none⟩ = some (.int .i64 x2.1) := (blk_cell hq9 2).trans rfl; have hqz_3 : w9.cell? ⟨gq, 3, none⟩ = some (.int .i64 x3.1) := (blk_cell hq9 3).trans rfl; have hqz_4 : w9.cell? ⟨gq, 4, none⟩ = some (.int .i64 0) := (blk_cell hq9 4).trans rfl; have hqz_5 : w9.cell? ⟨gq, 5, none⟩ = some (.int .i64 0) := (blk_cell hq9 5).trans rfl; have hqz_6 : w9.cell? ⟨gq, 6, none⟩ = some (.int .i64 0) := (blk_cell hq9 6).trans rfl; have hqz_7 : w9.cell? ⟨gq, 7, none⟩ = some (.int .i64 0) := (blk_cell hq9 7).trans rfl; have hqz_8 : w9.cell? ⟨gq, 8, none⟩ = some (.string (⟨#[]⟩ : ByteArray)) := (blk_cell hq9 8).trans rfl; (try clear hrz_0 hrz_1 hrz_2 hrz_3 hrz_4 hrz_5 hrz_6 hrz_7 hrz_8 hrf_0 hrf_1 hrf_2 hrf_3 hrf_4 hrf_5 hrf_6 hrf_7 hrf_8); have hrz_0 : w9.cell? ⟨gr, 0, none⟩ = some (.int .i64 0) := (blk_cell hr9 0).trans rfl; have hrz_1 : w9.cell? ⟨gr, 1, none⟩ = some (.int .i64 0) := (blk_cell hr9 1).trans rfl; have hrz_2 : w9.cell? ⟨gr, 2, none⟩ = some (.int .i64 0) := (blk_cell hr9 2).trans rfl; have hrz_3 : w9.cell? ⟨gr, 3, none⟩ = some (.int .i64 0) := (blk_cell hr9 3).trans rfl; have hrz_4 : w9.cell? ⟨gr, 4, none⟩ = some (.int .i64 0) := (blk_cell hr9 4).trans rfl; have hrz_5 : w9.cell? ⟨gr, 5, none⟩ = some (.int .i64 0) := (blk_cell hr9 5).trans rfl; have hrz_6 : w9.cell? ⟨gr, 6, none⟩ = some (.int .i64 0) := (blk_cell hr9 6).trans rfl; have hrz_7 : w9.cell? ⟨gr, 7, none⟩ = some (.int .i64 0) := (blk_cell hr9 7).trans rfl; have hrz_8 : w9.cell? ⟨gr, 8, none⟩ = some (.string (⟨#[]⟩ : ByteArray)) := (blk_cell hr9 8).trans rfl; have hrf_0 : w9.frozen? ⟨gr, 0, none⟩ = false := blk_frozen hr9 0; have hrf_1 : w9.frozen? ⟨gr, 1, none⟩ = false := blk_frozen hr9 1; have hrf_2 : w9.frozen? ⟨gr, 2, none⟩ = false := blk_frozen hr9 2; have hrf_3 : w9.frozen? ⟨gr, 3, none⟩ = false := blk_frozen hr9 3; have hrf_4 : w9.frozen? ⟨gr, 4, none⟩ = false := blk_frozen hr9 4; have hrf_5 : w9.frozen? ⟨gr, 5, none⟩ = false := blk_frozen hr9 5; have hrf_6 : w9.frozen? ⟨gr, 6, none⟩ = false := blk_frozen hr9 6; have hrf_7 : w9.frozen? ⟨gr, 7, none⟩ = false := blk_frozen hr9 7; have hrf_8 : w9.frozen? ⟨gr, 8, none⟩ = false := blk_frozen hr9 8))
          refine bodyPost_ret (results_ct rfl _ _ gr 44 #[.int .i64 0, .int .i64 0, .int .i64 0, .int .i64 0, .int .i64 0, .int .i64 0, .int .i64 0, .int .i64 0, .string (⟨#[]⟩ : ByteArray)] (0, 0) _ rfl (st9 hr9 _ _ _ _ _ _ _ _ _) Try.underlying44 rfl (by kernel_rfl)) rfl ?_
          exact ⟨rfl, st9_below hB9 GR.out _ _ _ _ _ _ _ _ _⟩
      · rw [if_neg cy] at h
        simp only [noRq, Option.some.injEq, Prod.mk.injEq] at h
        obtain ⟨rfl, rfl, rfl, rfl, rfl, rfl, rfl, rfl, rfl, rfl⟩ := h
        have cyb : (y.1 != 0) = true := bne_iff_ne.mpr cy
        clear cy
        go_enter Try.func80, Try.ntmps80
        go_wp2_with (first | ((with_reducible refine gate_dst (N := 2) rfl ?_); refine box_event ?hg (N := 2) ?hd (cs := #[.int .i64 0, .int .i64 0, .int .i64 0, .int .i64 0, .int .i64 0, .int .i64 0, .int .i64 0, .int .i64 0, .string (⟨#[]⟩ : ByteArray)]) (t := 44) ?hr ?_; (case hd => rfl); (case hg => rfl); (case hr => first | (go_simp; done) | (go_simp; rfl)); intro gr hgr w1 hr1 hb1; have GR := Lib.hid (show w.heap.size ≤ gr from Nat.le_of_eq hgr.symm); clear hgr))
        refine (newReader k t body code w1 HR.out).mono ?_; rintro e w2 ⟨g, rfl, hg, hR, hb2⟩; have hr2 := blk_below hr1 hb2; have hgne : gr ≠ g := Nat.ne_of_lt (Nat.lt_of_lt_of_le (blk_lt hr1) hg); have hI2 : IsR w w2 g (body, 0, 0) := ⟨hR, Nat.le_trans hb1.size hg⟩; have hB2 : Below w.heap.size w w2 := hb1.trans (hb2.mono hb1.size); go_wp2_with fail; refine (num_call k g _ x0 w w2 hI2 hB2 HN0.out).mono ?_; rintro e w3 ⟨rfl, hI3, hB3, hK3⟩; go_wp2_with fail; refine (num_call k g _ x1 w w3 hI3 hB3 HN1.out).mono ?_; rintro e w4 ⟨rfl, hI4, hB4, hK4⟩; go_wp2_with fail; refine (num_call k g _ x2 w w4 hI4 hB4 HN2.out).mono ?_; rintro e w5 ⟨rfl, hI5, hB5, hK5⟩; go_wp2_with fail; refine (num_call k g _ x3 w w5 hI5 hB5 HN3.out).mono ?_; rintro e w6 ⟨rfl, hI6, hB6, hK6⟩; have hr3 := (hK3.2 gr (blk_lt hr2) hgne (by simp)).trans hr2; have hr4 := (hK4.2 gr (blk_lt hr3) hgne (by simp)).trans hr3; have hr5 := (hK5.2 gr (blk_lt hr4) hgne (by simp)).trans hr4; have hr6 := (hK6.2 gr (blk_lt hr5) hgne (by simp)).trans hr5
        go_wp2_with (first | ((with_reducible refine gate_dst (N := 26) rfl ?_); generalize hw7 : w6.alloc _ = w7; have hb7 : Below w6.heap.size w6 w7 := (by rw [← hw7]; exact (Below.refl _ _).alloc (Nat.le_refl _) _); have hq7 : w7.heap[w6.heap.size]? = some (.cells #[.int .i64 x0.1, .int .i64 x1.1, .int .i64 x2.1, .int .i64 x3.1, .int .i64 0, .int .i64 0, .int .i64 0, .int .i64 0, .string (⟨#[]⟩ : ByteArray)] 44 (0, 0)) := (by rw [← hw7]; exact heap_alloc_new _ _); clear hw7; have hr7 := blk_below hr6 hb7; have hI7 : IsR w w7 g x3.2 := IsS133.below hI6 hb7; have hB7 : Below w.heap.size w w7 := hB6.trans (hb7.mono hB6.size); have hqg : w6.heap.size ≠ g := (Nat.ne_of_lt (blk_lt hI6.1)).symm; have hqr : w6.heap.size ≠ gr := (Nat.ne_of_lt (blk_lt hr6)).symm; have hqle : w.heap.size ≤ w6.heap.size := hB6.size; generalize w6.heap.size = gq at hq7 hqg hqr hqle ⊢; have hqz_0 : w7.cell? ⟨gq, 0, none⟩ = some (.int .i64 x0.1) := (blk_cell hq7 0).trans rfl))
        refine (end_call g _ y w w7 hI7 hB7 HY.out).mono ?_; rintro e w8 ⟨rfl, hI8, hB8, hK8⟩; have hr8 := (hK8.2 gr (blk_lt hr7) hgne (by simp)).trans hr7; have hq8 := (hK8.2 gq (blk_lt hq7) hqg (by simp)).trans hq7; (try clear hqz_0 hqz_1 hqz_2 hqz_3 hqz_4 hqz_5 hqz_6 hqz_7 hqz_8); have hqz_0 : w8.cell? ⟨gq, 0, none⟩ = some (.int .i64 x0.1) := (blk_cell hq8 0).trans rfl; have hqz_1 : w8.cell? ⟨gq, 1, none⟩ = some (.int .i64 x1.1) := (blk_cell hq8 1).trans rfl; have hqz_2 : w8.cell? ⟨gq, 2, none⟩ = some (.int .i64 x2.1) := (blk_cell hq8 2).trans rfl; have hqz_3 : w8.cell? ⟨gq, 3, none⟩ = some (.int .i64 x3.1) := (blk_cell hq8 3).trans rfl; have hqz_4 : w8.cell? ⟨gq, 4, none⟩ = some (.int .i64 0) := (blk_cell hq8 4).trans rfl; have hqz_5 : w8.cell? ⟨gq, 5, none⟩ = some (.int .i64 0) := (blk_cell hq8 5).trans rfl; have hqz_6 : w8.cell? ⟨gq, 6, none⟩ = some (.int .i64 0) := (blk_cell hq8 6).trans rfl; have hqz_7 : w8.cell? ⟨gq, 7, none⟩ = some (.int .i64 0) := (blk_cell hq8 7).trans rfl; have hqz_8 : w8.cell? ⟨gq, 8, none⟩ = some (.string (⟨#[]⟩ : ByteArray)) := (blk_cell hq8 8).trans rfl; (try clear hrz_0 hrz_1 hrz_2 hrz_3 hrz_4 hrz_5 hrz_6 hrz_7 hrz_8 hrf_0 hrf_1 hrf_2 hrf_3 hrf_4 hrf_5 hrf_6 hrf_7 hrf_8); have hrz_0 : w8.cell? ⟨gr, 0, none⟩ = some (.int .i64 0) := (blk_cell hr8 0).trans rfl; have hrz_1 : w8.cell? ⟨gr, 1, none⟩ = some (.int .i64 0) := (blk_cell hr8 1).trans rfl; have hrz_2 : w8.cell? ⟨gr, 2, none⟩ = some (.int .i64 0) := (blk_cell hr8 2).trans rfl; have hrz_3 : w8.cell? ⟨gr, 3, none⟩ = some (.int .i64 0) := (blk_cell hr8 3).trans rfl; have hrz_4 : w8.cell? ⟨gr, 4, none⟩ = some (.int .i64 0) := (blk_cell hr8 4).trans rfl; have hrz_5 : w8.cell? ⟨gr, 5, none⟩ = some (.int .i64 0) := (blk_cell hr8 5).trans rfl; have hrz_6 : w8.cell? ⟨gr, 6, none⟩ = some (.int .i64 0) := (blk_cell hr8 6).trans rfl; have hrz_7 : w8.cell? ⟨gr, 7, none⟩ = some (.int .i64 0) := (blk_cell hr8 7).trans rfl; have hrz_8 : w8.cell? ⟨gr, 8, none⟩ = some (.string (⟨#[]⟩ : ByteArray)) := (blk_cell hr8 8).trans rfl; have hrf_0 : w8.frozen? ⟨gr, 0, none⟩ = false := blk_frozen hr8 0; have hrf_1 : w8.frozen? ⟨gr, 1, none⟩ = false := blk_frozen hr8 1; have hrf_2 : w8.frozen? ⟨gr, 2, none⟩ = false := blk_frozen hr8 2; have hrf_3 : w8.frozen? ⟨gr, 3, none⟩ = false := blk_frozen hr8 3; have hrf_4 : w8.frozen? ⟨gr, 4, none⟩ = false := blk_frozen hr8 4; have hrf_5 : w8.frozen? ⟨gr, 5, none⟩ = false := blk_frozen hr8 5; have hrf_6 : w8.frozen? ⟨gr, 6, none⟩ = false := blk_frozen hr8 6; have hrf_7 : w8.frozen? ⟨gr, 7, none⟩ = false := blk_frozen hr8 7; have hrf_8 : w8.frozen? ⟨gr, 8, none⟩ = false := blk_frozen hr8 8
        go_wp2
        refine bodyPost_ret (results_ct rfl _ _ gr 44 #[.int .i64 0, .int .i64 0, .int .i64 0, .int .i64 0, .int .i64 0, .int .i64 0, .int .i64 0, .int .i64 0, .string (⟨#[]⟩ : ByteArray)] (0, 0) _ rfl (st9 hr8 _ _ _ _ _ _ _ _ _) Try.underlying44 rfl (by kernel_rfl)) rfl ?_
        exact ⟨rfl, st9_below hB8 GR.out _ _ _ _ _ _ _ _ _⟩
  · rw [if_neg c0] at h
    simp only [noRq, Option.some.injEq, Prod.mk.injEq] at h
    obtain ⟨rfl, rfl, rfl, rfl, rfl, rfl, rfl, rfl, rfl, rfl⟩ := h
    have c0b : (code != 0) = true := bne_iff_ne.mpr c0
    clear c0
    go_enter Try.func80, Try.ntmps80
    go_wp2_with (first
      | ((with_reducible refine gate_dst (N := 2) rfl ?_); refine box_event ?hg (N := 2) ?hd (cs := #[.int .i64 0, .int .i64 0, .int .i64 0, .int .i64 0, .int .i64 0, .int .i64 0, .int .i64 0, .int .i64 0, .string (⟨#[]⟩ : ByteArray)]) (t := 44) ?hr ?_; (case hd => rfl); (case hg => rfl); (case hr => first | (go_simp; done) | (go_simp; rfl)); intro gr hgr w1 hr1 hb1; have GR := Lib.hid (show w.heap.size ≤ gr from Nat.le_of_eq hgr.symm); clear hgr))
    refine (newReader k t body code w1 HR.out).mono ?_
    rintro e w2 ⟨g, rfl, hg, hR, hb2⟩
    have hr2 := blk_below hr1 hb2
    (try clear hrz_0 hrz_1 hrz_2 hrz_3 hrz_4 hrz_5 hrz_6 hrz_7 hrz_8 hrf_0 hrf_1 hrf_2 hrf_3 hrf_4 hrf_5 hrf_6 hrf_7 hrf_8); have hrz_0 : w2.cell? ⟨gr, 0, none⟩ = some (.int .i64 0) := (blk_cell hr2 0).trans rfl; have hrz_1 : w2.cell? ⟨gr, 1, none⟩ = some (.int .i64 0) := (blk_cell hr2 1).trans rfl; have hrz_2 : w2.cell? ⟨gr, 2, none⟩ = some (.int .i64 0) := (blk_cell hr2 2).trans rfl; have hrz_3 : w2.cell? ⟨gr, 3, none⟩ = some (.int .i64 0) := (blk_cell hr2 3).trans rfl; have hrz_4 : w2.cell? ⟨gr, 4, none⟩ = some (.int .i64 0) := (blk_cell hr2 4).trans rfl; have hrz_5 : w2.cell? ⟨gr, 5, none⟩ = some (.int .i64 0) := (blk_cell hr2 5).trans rfl; have hrz_6 : w2.cell? ⟨gr, 6, none⟩ = some (.int .i64 0) := (blk_cell hr2 6).trans rfl; have hrz_7 : w2.cell? ⟨gr, 7, none⟩ = some (.int .i64 0) := (blk_cell hr2 7).trans rfl; have hrz_8 : w2.cell? ⟨gr, 8, none⟩ = some (.string (⟨#[]⟩ : ByteArray)) := (blk_cell hr2 8).trans rfl; have hrf_0 : w2.frozen? ⟨gr, 0, none⟩ = false := blk_frozen hr2 0; have hrf_1 : w2.frozen? ⟨gr, 1, none⟩ = false := blk_frozen hr2 1; have hrf_2 : w2.frozen? ⟨gr, 2, none⟩ = false := blk_frozen hr2 2; have hrf_3 : w2.frozen? ⟨gr, 3, none⟩ = false := blk_frozen hr2 3; have hrf_4 : w2.frozen? ⟨gr, 4, none⟩ = false := blk_frozen hr2 4; have hrf_5 : w2.frozen? ⟨gr, 5, none⟩ = false := blk_frozen hr2 5; have hrf_6 : w2.frozen? ⟨gr, 6, none⟩ = false := blk_frozen hr2 6; have hrf_7 : w2.frozen? ⟨gr, 7, none⟩ = false := blk_frozen hr2 7; have hrf_8 : w2.frozen? ⟨gr, 8, none⟩ = false := blk_frozen hr2 8
    go_wp2
    refine bodyPost_ret (results_ct rfl _ _ gr 44 #[.int .i64 0, .int .i64 0, .int .i64 0, .int .i64 0, .int .i64 0, .int .i64 0, .int .i64 0, .int .i64 0, .string (⟨#[]⟩ : ByteArray)] (0, 0) _ rfl (st9 hr2 _ _ _ _ _ _ _ _ _) Try.underlying44 rfl (by kernel_rfl)) rfl ?_
    exact ⟨rfl, st9_below (hb1.trans (hb2.mono hb1.size)) GR.out _ _ _ _ _ _ _ _ _⟩
end Go.Proofs.Ytnppmhijoaeibaa.H
set_option linter.unusedVariables false
set_option linter.unusedSimpArgs false
namespace Go.Proofs.Ytnppmhijoaeibaa.H
open Go.RowKit Go.Proofs.YtnppmhijoaeibaaW.PrintWords Go.Proofs.YtnppmhijoaeibaaW.PrintLast Go.Proofs.Ytnppmhijoaeibaa.Q
def numS (k : Nat) (s : St) : Option (Int × St) := spec_l10Reader_number.f k s.1 s.2.1 s.2.2
def strS (k : Nat) (s : St) : Option (ByteArray × St) := spec_l10Reader_text.f k s.1 s.2.1 s.2.2
def IsQ (w0 w : World) (g : Nat) (s : St) : Prop := IsS116 w0 w g s.1 s.2.1 s.2.2
theorem num_s (k g : Nat) (s : St) (x : Int × St) (w0 w : World) (hI : IsQ w0 w g s) (hB : Below w0.heap.size w0 w) (h : numS k s = some x) :
    Calls Try.prog 102 #[.pointer (some ⟨g, 0, none⟩)] w fun e w' => e = .returned (.int .i64 x.1) ∧ IsQ w0 w' g x.2 ∧ Below w0.heap.size w0 w' ∧ KeepBut w w' g none :=
  spec_l10Reader_number.calls k g s.1 s.2.1 s.2.2 x.1 x.2.1 x.2.2.1 x.2.2.2 w0 w hI hB h
theorem str_s (k g : Nat) (s : St) (x : ByteArray × St) (w0 w : World) (hI : IsQ w0 w g s) (hB : Below w0.heap.size w0 w) (h : strS k s = some x) :
    Calls Try.prog 103 #[.pointer (some ⟨g, 0, none⟩)] w fun e w' => e = .returned (.string x.1) ∧ IsQ w0 w' g x.2 ∧ Below w0.heap.size w0 w' ∧ KeepBut w w' g none :=
  spec_l10Reader_text.calls k g s.1 s.2.1 s.2.2 x.1 x.2.1 x.2.2.1 x.2.2.2 w0 w hI hB h
theorem end_s (g : Nat) (s : St) (x : Int × St) (w0 w : World) (hI : IsQ w0 w g s) (hB : Below w0.heap.size w0 w) (h : spec_l10Reader_end.f s.1 s.2.1 s.2.2 = some x) :
    Calls Try.prog 104 #[.pointer (some ⟨g, 0, none⟩)] w fun e w' => e = .returned (.int .i64 x.1) ∧ IsQ w0 w' g x.2 ∧ Below w0.heap.size w0 w' ∧ KeepBut w w' g none :=
  spec_l10Reader_end.calls g s.1 s.2.1 s.2.2 x.1 x.2.1 x.2.2.1 x.2.2.2 w0 w hI hB h
def finReqS (k : Nat) (q0 q1 q2 q3 q4 q5 q6 q7 : Int) (q8 : ByteArray) (s : St) : Option Rq :=
  (spec_l10Reader_end.f s.1 s.2.1 s.2.2).bind fun e => if e.1 = 0 then (spec_RequestOK.f k q0 q1 q2 q3 q4 q5 q6 q7 q8).bind fun b => if b = true then some (q0, q1, q2, q3, q4, q5, q6, q7, q8, 0) else some (noRq 10) else some (noRq e.1)
def spec_l10ReadRequest.f (k : Nat) (t : ByteArray) : Option Rq :=
  (spec_l01ReadFrame.f k t).bind fun r => if r.2 = 0 then
    (numS k (r.1, 0, 0)).bind fun x0 => (numS k x0.2).bind fun x1 => (numS k x1.2).bind fun x2 => (numS k x2.2).bind fun x3 =>
      if x0.1 = 7 then (numS k x3.2).bind fun x4 => (numS k x4.2).bind fun x5 => (numS k x5.2).bind fun x6 => (numS k x6.2).bind fun x7 => (strS k x7.2).bind fun x8 =>
        finReqS k x0.1 x1.1 x2.1 x3.1 x4.1 x5.1 x6.1 x7.1 x8.1 x8.2
      else finReqS k x0.1 x1.1 x2.1 x3.1 0 0 0 0 ⟨#[]⟩ x3.2
  else some (noRq r.2)
set_option maxHeartbeats 4000000 in
set_option maxRecDepth 100000 in
theorem spec_l10ReadRequest.calls (k : Nat) (t : ByteArray) (r1 r2 r3 r4 r5 r6 r7 r8 : Int) (r9 : ByteArray) (r10 : Int) (w : World) (h : spec_l10ReadRequest.f k t = some (r1, r2, r3, r4, r5, r6, r7, r8, r9, r10)) :
    Calls Try.prog 79 #[.string t] w fun e w' => e = .returned (.tuple #[.agg #[.int .i64 r1, .int .i64 r2, .int .i64 r3, .int .i64 r4, .int .i64 r5, .int .i64 r6, .int .i64 r7, .int .i64 r8, .string r9], .int .i64 r10]) ∧ Below w.heap.size w w' := by
  have hu44 := Try.underlying44
  have hu42 := Try.underlying42
  have hu116 := Try.underlying116
  unfold spec_l10ReadRequest.f at h
  obtain ⟨⟨body, code⟩, hr, h⟩ := Option.bind_eq_some_iff.1 h
  have HR := Lib.hid hr
  clear hr
  dsimp only at h
  by_cases c0 : code = 0
  · rw [if_pos c0] at h
    obtain ⟨x0, h0, h⟩ := Option.bind_eq_some_iff.1 h
    obtain ⟨x1, h1, h⟩ := Option.bind_eq_some_iff.1 h
    obtain ⟨x2, h2, h⟩ := Option.bind_eq_some_iff.1 h
    obtain ⟨x3, h3, h⟩ := Option.bind_eq_some_iff.1 h
    have HN0 := Lib.hid h0
    have HN1 := Lib.hid h1
    have HN2 := Lib.hid h2
    have HN3 := Lib.hid h3
    have c0b : (code != 0) = false := bne_eq_false_iff_eq.mpr c0
    clear h0 h1 h2 h3 c0
    by_cases c7 : x0.1 = 7
    · rw [if_pos c7] at h
      have c7b : (x0.1 == 7) = true := beq_iff_eq.mpr c7
      clear c7
      obtain ⟨x4, h4, h⟩ := Option.bind_eq_some_iff.1 h
      have HN4 := Lib.hid h4
      clear h4
      obtain ⟨x5, h5, h⟩ := Option.bind_eq_some_iff.1 h
      have HN5 := Lib.hid h5
      clear h5
      obtain ⟨x6, h6, h⟩ := Option.bind_eq_some_iff.1 h
      have HN6 := Lib.hid h6
      clear h6
      obtain ⟨x7, h7, h⟩ := Option.bind_eq_some_iff.1 h
      have HN7 := Lib.hid h7
      clear h7
      obtain ⟨x8, h8, h⟩ := Option.bind_eq_some_iff.1 h
      have HN8 := Lib.hid h8
      clear h8
      unfold finReqS at h
      obtain ⟨y, hy, h⟩ := Option.bind_eq_some_iff.1 h
      have HY := Lib.hid hy
      clear hy
      by_cases cy : y.1 = 0
      · rw [if_pos cy] at h
        obtain ⟨b, hb, h⟩ := Option.bind_eq_some_iff.1 h
        have HBB := Lib.hid hb
        have cyb : (y.1 != 0) = false := bne_eq_false_iff_eq.mpr cy
        clear hb cy
        cases b with
        | true =>
          rw [if_pos rfl] at h
          simp only [Option.some.injEq, Prod.mk.injEq] at h
          obtain ⟨rfl, rfl, rfl, rfl, rfl, rfl, rfl, rfl, rfl, rfl⟩ := h
          go_enter Try.func79, Try.ntmps79
          go_wp2_with (first | ((with_reducible refine gate_dst (N := 2) rfl ?_); refine box_event ?hg (N := 2) ?hd (cs := #[.int .i64 0, .int .i64 0, .int .i64 0, .int .i64 0, .int .i64 0, .int .i64 0, .int .i64 0, .int .i64 0, .string (⟨#[]⟩ : ByteArray)]) (t := 44) ?hr ?_; (case hd => rfl); (case hg => rfl); (case hr => first | (go_simp; done) | (go_simp; rfl)); intro gr hgr w1 hr1 hb1; have GR := Lib.hid (show w.heap.size ≤ gr from Nat.le_of_eq hgr.symm); clear hgr))
          refine (spec_l01ReadFrame.calls k t body code w1 HR.out).mono ?_
          rintro e w2 ⟨rfl, hd2⟩
          have hb2 := hd2.below
          have hr2 := blk_below hr1 hb2
          have hB2 : Below w.heap.size w w2 := hb1.trans (hb2.mono hb1.size)
          go_wp2_with (first | ((with_reducible refine gate_dst (N := 20) rfl ?_); refine box_event ?hg (N := 20) ?hd (cs := #[.string body, .int .i64 0, .int .i64 0]) (t := 116) ?hr ?_; (case hd => rfl); (case hg => rfl); (case hr => first | (go_simp; done) | (go_simp; rfl)); intro g hgg w3 hR hb3; have hr3 := blk_below hr2 hb3; have hB3 : Below w.heap.size w w3 := hB2.trans (hb3.mono hB2.size); have hgne : gr ≠ g := Nat.ne_of_lt (by rw [hgg]; exact blk_lt hr2); have hI3 : IsQ w w3 g (body, 0, 0) := ⟨hR, by rw [hgg]; exact hB2.size⟩; clear hgg))
          refine (num_s k g _ x0 w w3 hI3 hB3 HN0.out).mono ?_
          rintro e w4 ⟨rfl, hI4, hB4, hK4⟩
          have hr4 := (hK4.2 gr (blk_lt hr3) hgne (by simp)).trans hr3
          go_wp2_with fail
          generalize hw5 : w4.alloc _ = w5; have hb5 : Below w4.heap.size w4 w5 := (by rw [← hw5]; exact (Below.refl _ _).alloc (Nat.le_refl _) _); have hq5 : w5.heap[w4.heap.size]? = some (.cells #[.int .i64 x0.1, .int .i64 0, .int .i64 0, .int .i64 0, .int .i64 0, .int .i64 0, .int .i64 0, .int .i64 0, .string (⟨#[]⟩ : ByteArray)] 44 (0, 0)) := (by rw [← hw5]; exact heap_alloc_new _ _); clear hw5; have hr5 := blk_below hr4 hb5; have hI5 : IsQ w w5 g x0.2 := IsS116.below hI4 hb5; have hB5 : Below w.heap.size w w5 := hB4.trans (hb5.mono hB4.size); have hqg : w4.heap.size ≠ g := (Nat.ne_of_lt (blk_lt hI4.1)).symm; have hqr : w4.heap.size ≠ gr := (Nat.ne_of_lt (blk_lt hr4)).symm; have hqle : w.heap.size ≤ w4.heap.size := hB4.size; generalize w4.heap.size = gq at hq5 hqg hqr hqle ⊢
          refine (num_s k g _ x1 w w5 hI5 hB5 HN1.out).mono ?_
          rintro e w6 ⟨rfl, hI6, hB6, hK6⟩
          have hr6 := (hK6.2 gr (blk_lt hr5) hgne (by simp)).trans hr5
          have hq6 := (hK6.2 gq (blk_lt hq5) hqg (by simp)).trans hq5
          have hqz : w6.cell? ⟨gq, 1, none⟩ = some (.int .i64 0) := (blk_cell hq6 1).trans rfl
          have hqf : w6.frozen? ⟨gq, 1, none⟩ = false := blk_frozen hq6 1
          have hq0 : (w6.setCell ⟨gq, 1, none⟩ (.int .i64 x1.1)).cell? ⟨gq, 0, none⟩ = some (.int .i64 x0.1) := (blk_cell (blk_put (cs' := #[.int .i64 x0.1, .int .i64 x1.1, .int .i64 0, .int .i64 0, .int .i64 0, .int .i64 0, .int .i64 0, .int .i64 0, .string (⟨#[]⟩ : ByteArray)]) hq6 1 (.int .i64 x1.1) rfl) 0).trans rfl
          go_wp2_with fail
          have hq7 := blk_put (cs' := #[.int .i64 x0.1, .int .i64 x1.1, .int .i64 0, .int .i64 0, .int .i64 0, .int .i64 0, .int .i64 0, .int .i64 0, .string (⟨#[]⟩ : ByteArray)]) hq6 1 (.int .i64 x1.1) rfl
          have hr7 := blk_far hr6 (p := ⟨gq, 1, none⟩) hqr.symm (.int .i64 x1.1)
          have hI7 : IsQ w (w6.setCell ⟨gq, 1, none⟩ (.int .i64 x1.1)) g x1.2 := ⟨blk_far hI6.1 (p := ⟨gq, 1, none⟩) hqg.symm (.int .i64 x1.1), hI6.2⟩
          have hB7 := below_set (j := 1) (v := .int .i64 x1.1) hB6 hqle
          clear hqz hqf hq0
          generalize w6.setCell ⟨gq, 1, none⟩ (.int .i64 x1.1) = w7 at hq7 hr7 hI7 hB7 ⊢
          refine (num_s k g _ x2 w w7 hI7 hB7 HN2.out).mono ?_
          rintro e w8 ⟨rfl, hI8, hB8, hK8⟩
          have hr8 := (hK8.2 gr (blk_lt hr7) hgne (by simp)).trans hr7
          have hq8 := (hK8.2 gq (blk_lt hq7) hqg (by simp)).trans hq7
          have hqz : w8.cell? ⟨gq, 2, none⟩ = some (.int .i64 0) := (blk_cell hq8 2).trans rfl
          have hqf : w8.frozen? ⟨gq, 2, none⟩ = false := blk_frozen hq8 2
          have hq0 : (w8.setCell ⟨gq, 2, none⟩ (.int .i64 x2.1)).cell? ⟨gq, 0, none⟩ = some (.int .i64 x0.1) := (blk_cell (blk_put (cs' := #[.int .i64 x0.1, .int .i64 x1.1, .int .i64 x2.1, .int .i64 0, .int .i64 0, .int .i64 0, .int .i64 0, .int .i64 0, .string (⟨#[]⟩ : ByteArray)]) hq8 2 (.int .i64 x2.1) rfl) 0).trans rfl
          go_wp2_with fail
          have hq9 := blk_put (cs' := #[.int .i64 x0.1, .int .i64 x1.1, .int .i64 x2.1, .int .i64 0, .int .i64 0, .int .i64 0, .int .i64 0, .int .i64 0, .string (⟨#[]⟩ : ByteArray)]) hq8 2 (.int .i64 x2.1) rfl
          have hr9 := blk_far hr8 (p := ⟨gq, 2, none⟩) hqr.symm (.int .i64 x2.1)
          have hI9 : IsQ w (w8.setCell ⟨gq, 2, none⟩ (.int .i64 x2.1)) g x2.2 := ⟨blk_far hI8.1 (p := ⟨gq, 2, none⟩) hqg.symm (.int .i64 x2.1), hI8.2⟩
          have hB9 := below_set (j := 2) (v := .int .i64 x2.1) hB8 hqle
          clear hqz hqf hq0
          generalize w8.setCell ⟨gq, 2, none⟩ (.int .i64 x2.1) = w9 at hq9 hr9 hI9 hB9 ⊢
          refine (num_s k g _ x3 w w9 hI9 hB9 HN3.out).mono ?_
          rintro e w10 ⟨rfl, hI10, hB10, hK10⟩
          have hr10 := (hK10.2 gr (blk_lt hr9) hgne (by simp)).trans hr9
          have hq10 := (hK10.2 gq (blk_lt hq9) hqg (by simp)).trans hq9
          have hqz : w10.cell? ⟨gq, 3, none⟩ = some (.int .i64 0) := (blk_cell hq10 3).trans rfl
          have hqf : w10.frozen? ⟨gq, 3, none⟩ = false := blk_frozen hq10 3
          have hq0 : (w10.setCell ⟨gq, 3, none⟩ (.int .i64 x3.1)).cell? ⟨gq, 0, none⟩ = some (.int .i64 x0.1) := (blk_cell (blk_put (cs' := #[.int .i64 x0.1, .int .i64 x1.1, .int .i64 x2.1, .int .i64 x3.1, .int .i64 0, .int .i64 0, .int .i64 0, .int .i64 0, .string (⟨#[]⟩ : ByteArray)]) hq10 3 (.int .i64 x3.1) rfl) 0).trans rfl
          go_wp2_with fail
          have hq11 := blk_put (cs' := #[.int .i64 x0.1, .int .i64 x1.1, .int .i64 x2.1, .int .i64 x3.1, .int .i64 0, .int .i64 0, .int .i64 0, .int .i64 0, .string (⟨#[]⟩ : ByteArray)]) hq10 3 (.int .i64 x3.1) rfl
          have hr11 := blk_far hr10 (p := ⟨gq, 3, none⟩) hqr.symm (.int .i64 x3.1)
          have hI11 : IsQ w (w10.setCell ⟨gq, 3, none⟩ (.int .i64 x3.1)) g x3.2 := ⟨blk_far hI10.1 (p := ⟨gq, 3, none⟩) hqg.symm (.int .i64 x3.1), hI10.2⟩
          have hB11 := below_set (j := 3) (v := .int .i64 x3.1) hB10 hqle
          clear hqz hqf hq0
          generalize w10.setCell ⟨gq, 3, none⟩ (.int .i64 x3.1) = w11 at hq11 hr11 hI11 hB11 ⊢
          refine (num_s k g _ x4 w w11 hI11 hB11 HN4.out).mono ?_
          rintro e w12 ⟨rfl, hI12, hB12, hK12⟩
          have hr12 := (hK12.2 gr (blk_lt hr11) hgne (by simp)).trans hr11
          have hq12 := (hK12.2 gq (blk_lt hq11) hqg (by simp)).trans hq11
          have hqz : w12.cell? ⟨gq, 4, none⟩ = some (.int .i64 0) := (blk_cell hq12 4).trans rfl
          have hqf : w12.frozen? ⟨gq, 4, none⟩ = false := blk_frozen hq12 4
          have hq0 : (w12.setCell ⟨gq, 4, none⟩ (.int .i64 x4.1)).cell? ⟨gq, 0, none⟩ = some (.int .i64 x0.1) := (blk_cell (blk_put (cs' := #[.int .i64 x0.1, .int .i64 x1.1, .int .i64 x2.1, .int .i64 x3.1, .int .i64 x4.1, .int .i64 0, .int .i64 0, .int .i64 0, .string (⟨#[]⟩ : ByteArray)]) hq12 4 (.int .i64 x4.1) rfl) 0).trans rfl
          go_wp2_with fail
          have hq13 := blk_put (cs' := #[.int .i64 x0.1, .int .i64 x1.1, .int .i64 x2.1, .int .i64 x3.1, .int .i64 x4.1, .int .i64 0, .int .i64 0, .int .i64 0, .string (⟨#[]⟩ : ByteArray)]) hq12 4 (.int .i64 x4.1) rfl
          have hr13 := blk_far hr12 (p := ⟨gq, 4, none⟩) hqr.symm (.int .i64 x4.1)
          have hI13 : IsQ w (w12.setCell ⟨gq, 4, none⟩ (.int .i64 x4.1)) g x4.2 := ⟨blk_far hI12.1 (p := ⟨gq, 4, none⟩) hqg.symm (.int .i64 x4.1), hI12.2⟩
          have hB13 := below_set (j := 4) (v := .int .i64 x4.1) hB12 hqle
          clear hqz hqf hq0
          generalize w12.setCell ⟨gq, 4, none⟩ (.int .i64 x4.1) = w13 at hq13 hr13 hI13 hB13 ⊢
          refine (num_s k g _ x5 w w13 hI13 hB13 HN5.out).mono ?_
          rintro e w14 ⟨rfl, hI14, hB14, hK14⟩
          have hr14 := (hK14.2 gr (blk_lt hr13) hgne (by simp)).trans hr13
          have hq14 := (hK14.2 gq (blk_lt hq13) hqg (by simp)).trans hq13
          have hqz : w14.cell? ⟨gq, 5, none⟩ = some (.int .i64 0) := (blk_cell hq14 5).trans rfl
          have hqf : w14.frozen? ⟨gq, 5, none⟩ = false := blk_frozen hq14 5
          have hq0 : (w14.setCell ⟨gq, 5, none⟩ (.int .i64 x5.1)).cell? ⟨gq, 0, none⟩ = some (.int .i64 x0.1) := (blk_cell (blk_put (cs' := #[.int .i64 x0.1, .int .i64 x1.1, .int .i64 x2.1, .int .i64 x3.1, .int .i64 x4.1, .int .i64 x5.1, .int .i64 0, .int .i64 0, .string (⟨#[]⟩ : ByteArray)]) hq14 5 (.int .i64 x5.1) rfl) 0).trans rfl
          go_wp2_with fail
          have hq15 := blk_put (cs' := #[.int .i64 x0.1, .int .i64 x1.1, .int .i64 x2.1, .int .i64 x3.1, .int .i64 x4.1, .int .i64 x5.1, .int .i64 0, .int .i64 0, .string (⟨#[]⟩ : ByteArray)]) hq14 5 (.int .i64 x5.1) rfl
          have hr15 := blk_far hr14 (p := ⟨gq, 5, none⟩) hqr.symm (.int .i64 x5.1)
          have hI15 : IsQ w (w14.setCell ⟨gq, 5, none⟩ (.int .i64 x5.1)) g x5.2 := ⟨blk_far hI14.1 (p := ⟨gq, 5, none⟩) hqg.symm (.int .i64 x5.1), hI14.2⟩
          have hB15 := below_set (j := 5) (v := .int .i64 x5.1) hB14 hqle
          clear hqz hqf hq0
          generalize w14.setCell ⟨gq, 5, none⟩ (.int .i64 x5.1) = w15 at hq15 hr15 hI15 hB15 ⊢
          refine (num_s k g _ x6 w w15 hI15 hB15 HN6.out).mono ?_
          rintro e w16 ⟨rfl, hI16, hB16, hK16⟩
          have hr16 := (hK16.2 gr (blk_lt hr15) hgne (by simp)).trans hr15
          have hq16 := (hK16.2 gq (blk_lt hq15) hqg (by simp)).trans hq15
          have hqz : w16.cell? ⟨gq, 6, none⟩ = some (.int .i64 0) := (blk_cell hq16 6).trans rfl
          have hqf : w16.frozen? ⟨gq, 6, none⟩ = false := blk_frozen hq16 6
          have hq0 : (w16.setCell ⟨gq, 6, none⟩ (.int .i64 x6.1)).cell? ⟨gq, 0, none⟩ = some (.int .i64 x0.1) := (blk_cell (blk_put (cs' := #[.int .i64 x0.1, .int .i64 x1.1, .int .i64 x2.1, .int .i64 x3.1, .int .i64 x4.1, .int .i64 x5.1, .int .i64 x6.1, .int .i64 0, .string (⟨#[]⟩ : ByteArray)]) hq16 6 (.int .i64 x6.1) rfl) 0).trans rfl
          go_wp2_with fail
          have hq17 := blk_put (cs' := #[.int .i64 x0.1, .int .i64 x1.1, .int .i64 x2.1, .int .i64 x3.1, .int .i64 x4.1, .int .i64 x5.1, .int .i64 x6.1, .int .i64 0, .string (⟨#[]⟩ : ByteArray)]) hq16 6 (.int .i64 x6.1) rfl
          have hr17 := blk_far hr16 (p := ⟨gq, 6, none⟩) hqr.symm (.int .i64 x6.1)
          have hI17 : IsQ w (w16.setCell ⟨gq, 6, none⟩ (.int .i64 x6.1)) g x6.2 := ⟨blk_far hI16.1 (p := ⟨gq, 6, none⟩) hqg.symm (.int .i64 x6.1), hI16.2⟩
          have hB17 := below_set (j := 6) (v := .int .i64 x6.1) hB16 hqle
          clear hqz hqf hq0
          generalize w16.setCell ⟨gq, 6, none⟩ (.int .i64 x6.1) = w17 at hq17 hr17 hI17 hB17 ⊢
          refine (num_s k g _ x7 w w17 hI17 hB17 HN7.out).mono ?_
          rintro e w18 ⟨rfl, hI18, hB18, hK18⟩
          have hr18 := (hK18.2 gr (blk_lt hr17) hgne (by simp)).trans hr17
          have hq18 := (hK18.2 gq (blk_lt hq17) hqg (by simp)).trans hq17
          have hqz : w18.cell? ⟨gq, 7, none⟩ = some (.int .i64 0) := (blk_cell hq18 7).trans rfl
          have hqf : w18.frozen? ⟨gq, 7, none⟩ = false := blk_frozen hq18 7
          have hq0 : (w18.setCell ⟨gq, 7, none⟩ (.int .i64 x7.1)).cell? ⟨gq, 0, none⟩ = some (.int .i64 x0.1) := (blk_cell (blk_put (cs' := #[.int .i64 x0.1, .int .i64 x1.1, .int .i64 x2.1, .int .i64 x3.1, .int .i64 x4.1, .int .i64 x5.1, .int .i64 x6.1, .int .i64 x7.1, .string (⟨#[]⟩ : ByteArray)]) hq18 7 (.int .i64 x7.1) rfl) 0).trans rfl
          go_wp2_with fail
          have hq19 := blk_put (cs' := #[.int .i64 x0.1, .int .i64 x1.1, .int .i64 x2.1, .int .i64 x3.1, .int .i64 x4.1, .int .i64 x5.1, .int .i64 x6.1, .int .i64 x7.1, .string (⟨#[]⟩ : ByteArray)]) hq18 7 (.int .i64 x7.1) rfl
          have hr19 := blk_far hr18 (p := ⟨gq, 7, none⟩) hqr.symm (.int .i64 x7.1)
          have hI19 : IsQ w (w18.setCell ⟨gq, 7, none⟩ (.int .i64 x7.1)) g x7.2 := ⟨blk_far hI18.1 (p := ⟨gq, 7, none⟩) hqg.symm (.int .i64 x7.1), hI18.2⟩
          have hB19 := below_set (j := 7) (v := .int .i64 x7.1) hB18 hqle
          clear hqz hqf hq0
          generalize w18.setCell ⟨gq, 7, none⟩ (.int .i64 x7.1) = w19 at hq19 hr19 hI19 hB19 ⊢
          refine (str_s k g _ x8 w w19 hI19 hB19 HN8.out).mono ?_
          rintro e w20 ⟨rfl, hI20, hB20, hK20⟩
          have hr20 := (hK20.2 gr (blk_lt hr19) hgne (by simp)).trans hr19
          have hq20 := (hK20.2 gq (blk_lt hq19) hqg (by simp)).trans hq19
          have hqz : w20.cell? ⟨gq, 8, none⟩ = some (.string (⟨#[]⟩ : ByteArray)) := (blk_cell hq20 8).trans rfl
          have hqf : w20.frozen? ⟨gq, 8, none⟩ = false := blk_frozen hq20 8
          have hq0 : (w20.setCell ⟨gq, 8, none⟩ (.string x8.1)).cell? ⟨gq, 0, none⟩ = some (.int .i64 x0.1) := (blk_cell (blk_put (cs' := #[.int .i64 x0.1, .int .i64 x1.1, .int .i64 x2.1, .int .i64 x3.1, .int .i64 x4.1, .int .i64 x5.1, .int .i64 x6.1, .int .i64 x7.1, .string x8.1]) hq20 8 (.string x8.1) rfl) 0).trans rfl
          go_wp2_with fail
          have hq21 := blk_put (cs' := #[.int .i64 x0.1, .int .i64 x1.1, .int .i64 x2.1, .int .i64 x3.1, .int .i64 x4.1, .int .i64 x5.1, .int .i64 x6.1, .int .i64 x7.1, .string x8.1]) hq20 8 (.string x8.1) rfl
          have hr21 := blk_far hr20 (p := ⟨gq, 8, none⟩) hqr.symm (.string x8.1)
          have hI21 : IsQ w (w20.setCell ⟨gq, 8, none⟩ (.string x8.1)) g x8.2 := ⟨blk_far hI20.1 (p := ⟨gq, 8, none⟩) hqg.symm (.string x8.1), hI20.2⟩
          have hB21 := below_set (j := 8) (v := .string x8.1) hB20 hqle
          clear hqz hqf hq0
          generalize w20.setCell ⟨gq, 8, none⟩ (.string x8.1) = w21 at hq21 hr21 hI21 hB21 ⊢
          refine (end_s g _ y w w21 hI21 hB21 HY.out).mono ?_
          rintro e v8 ⟨rfl, hI8', hB8', hK8'⟩
          have kr8 := (hK8'.2 gr (blk_lt hr21) hgne (by simp)).trans hr21
          have kq8 := (hK8'.2 gq (blk_lt hq21) hqg (by simp)).trans hq21
          have hqz_0 : v8.cell? ⟨gq, 0, none⟩ = some (.int .i64 x0.1) := (blk_cell kq8 0).trans rfl
          have hqz_1 : v8.cell? ⟨gq, 1, none⟩ = some (.int .i64 x1.1) := (blk_cell kq8 1).trans rfl
          have hqz_2 : v8.cell? ⟨gq, 2, none⟩ = some (.int .i64 x2.1) := (blk_cell kq8 2).trans rfl
          have hqz_3 : v8.cell? ⟨gq, 3, none⟩ = some (.int .i64 x3.1) := (blk_cell kq8 3).trans rfl
          have hqz_4 : v8.cell? ⟨gq, 4, none⟩ = some (.int .i64 x4.1) := (blk_cell kq8 4).trans rfl
          have hqz_5 : v8.cell? ⟨gq, 5, none⟩ = some (.int .i64 x5.1) := (blk_cell kq8 5).trans rfl
          have hqz_6 : v8.cell? ⟨gq, 6, none⟩ = some (.int .i64 x6.1) := (blk_cell kq8 6).trans rfl
          have hqz_7 : v8.cell? ⟨gq, 7, none⟩ = some (.int .i64 x7.1) := (blk_cell kq8 7).trans rfl
          have hqz_8 : v8.cell? ⟨gq, 8, none⟩ = some (.string x8.1) := (blk_cell kq8 8).trans rfl
          have hrz_0 : v8.cell? ⟨gr, 0, none⟩ = some (.int .i64 0) := (blk_cell kr8 0).trans rfl
          have hrf_0 : v8.frozen? ⟨gr, 0, none⟩ = false := blk_frozen kr8 0
          have hrz_1 : v8.cell? ⟨gr, 1, none⟩ = some (.int .i64 0) := (blk_cell kr8 1).trans rfl
          have hrf_1 : v8.frozen? ⟨gr, 1, none⟩ = false := blk_frozen kr8 1
          have hrz_2 : v8.cell? ⟨gr, 2, none⟩ = some (.int .i64 0) := (blk_cell kr8 2).trans rfl
          have hrf_2 : v8.frozen? ⟨gr, 2, none⟩ = false := blk_frozen kr8 2
          have hrz_3 : v8.cell? ⟨gr, 3, none⟩ = some (.int .i64 0) := (blk_cell kr8 3).trans rfl
          have hrf_3 : v8.frozen? ⟨gr, 3, none⟩ = false := blk_frozen kr8 3
          have hrz_4 : v8.cell? ⟨gr, 4, none⟩ = some (.int .i64 0) := (blk_cell kr8 4).trans rfl
          have hrf_4 : v8.frozen? ⟨gr, 4, none⟩ = false := blk_frozen kr8 4
          have hrz_5 : v8.cell? ⟨gr, 5, none⟩ = some (.int .i64 0) := (blk_cell kr8 5).trans rfl
          have hrf_5 : v8.frozen? ⟨gr, 5, none⟩ = false := blk_frozen kr8 5
          have hrz_6 : v8.cell? ⟨gr, 6, none⟩ = some (.int .i64 0) := (blk_cell kr8 6).trans rfl
          have hrf_6 : v8.frozen? ⟨gr, 6, none⟩ = false := blk_frozen kr8 6
          have hrz_7 : v8.cell? ⟨gr, 7, none⟩ = some (.int .i64 0) := (blk_cell kr8 7).trans rfl
          have hrf_7 : v8.frozen? ⟨gr, 7, none⟩ = false := blk_frozen kr8 7
          have hrz_8 : v8.cell? ⟨gr, 8, none⟩ = some (.string (⟨#[]⟩ : ByteArray)) := (blk_cell kr8 8).trans rfl
          have hrf_8 : v8.frozen? ⟨gr, 8, none⟩ = false := blk_frozen kr8 8
          go_wp2_with (first | ((with_reducible refine gate_callee (f := 60) rfl ?_); refine goesL_ (some 63) rfl rfl Try.func60 (by kernel_rfl) rfl #[.agg #[.int .i64 x0.1, .int .i64 x1.1, .int .i64 x2.1, .int .i64 x3.1, .int .i64 x4.1, .int .i64 x5.1, .int .i64 x6.1, .int .i64 x7.1, .string x8.1]] rfl (by (try simp only [List.map_toArray, List.map_cons, List.map_nil]); first | done | rfl) ?_; (with_reducible refine (spec_RequestOK.calls k x0.1 x1.1 x2.1 x3.1 x4.1 x5.1 x6.1 x7.1 x8.1 true _ HBB.out).mono ?_); rintro e v9 ⟨rfl, hb9⟩; refine ⟨_, rfl, ?_⟩; have kr9 := blk_below kr8 hb9; have kq9 := blk_below kq8 hb9; have hB9 : Below w.heap.size w v9 := hB8'.trans (hb9.mono hB8'.size); (try clear hqz_0 hqz_1 hqz_2 hqz_3 hqz_4 hqz_5 hqz_6 hqz_7 hqz_8); (try clear hqf_0 hqf_1 hqf_2 hqf_3 hqf_4 hqf_5 hqf_6 hqf_7 hqf_8); (try clear hrz_0 hrz_1 hrz_2 hrz_3 hrz_4 hrz_5 hrz_6 hrz_7 hrz_8); (try clear hrf_0 hrf_1 hrf_2 hrf_3 hrf_4 hrf_5 hrf_6 hrf_7 hrf_8); have hqz_0 : v9.cell? ⟨gq, 0, none⟩ = some (.int .i64 x0.1) := (blk_cell kq9 0).trans rfl; have hqz_1 : v9.cell? ⟨gq, 1, none⟩ = some (.int .i64 x1.1) := (blk_cell kq9 1).trans rfl; have hqz_2 : v9.cell? ⟨gq, 2, none⟩ = some (.int .i64 x2.1) := (blk_cell kq9 2).trans rfl; have hqz_3 : v9.cell? ⟨gq, 3, none⟩ = some (.int .i64 x3.1) := (blk_cell kq9 3).trans rfl; have hqz_4 : v9.cell? ⟨gq, 4, none⟩ = some (.int .i64 x4.1) := (blk_cell kq9 4).trans rfl; have hqz_5 : v9.cell? ⟨gq, 5, none⟩ = some (.int .i64 x5.1) := (blk_cell kq9 5).trans rfl; have hqz_6 : v9.cell? ⟨gq, 6, none⟩ = some (.int .i64 x6.1) := (blk_cell kq9 6).trans rfl; have hqz_7 : v9.cell? ⟨gq, 7, none⟩ = some (.int .i64 x7.1) := (blk_cell kq9 7).trans rfl; have hqz_8 : v9.cell? ⟨gq, 8, none⟩ = some (.string x8.1) := (blk_cell kq9 8).trans rfl; have hrz_0 : v9.cell? ⟨gr, 0, none⟩ = some (.int .i64 0) := (blk_cell kr9 0).trans rfl; have hrf_0 : v9.frozen? ⟨gr, 0, none⟩ = false := blk_frozen kr9 0; have hrz_1 : v9.cell? ⟨gr, 1, none⟩ = some (.int .i64 0) := (blk_cell kr9 1).trans rfl; have hrf_1 : v9.frozen? ⟨gr, 1, none⟩ = false := blk_frozen kr9 1; have hrz_2 : v9.cell? ⟨gr, 2, none⟩ = some (.int .i64 0) := (blk_cell kr9 2).trans rfl; have hrf_2 : v9.frozen? ⟨gr, 2, none⟩ = false := blk_frozen kr9 2; have hrz_3 : v9.cell? ⟨gr, 3, none⟩ = some (.int .i64 0) := (blk_cell kr9 3).trans rfl; have hrf_3 : v9.frozen? ⟨gr, 3, none⟩ = false := blk_frozen kr9 3; have hrz_4 : v9.cell? ⟨gr, 4, none⟩ = some (.int .i64 0) := (blk_cell kr9 4).trans rfl; have hrf_4 : v9.frozen? ⟨gr, 4, none⟩ = false := blk_frozen kr9 4; have hrz_5 : v9.cell? ⟨gr, 5, none⟩ = some (.int .i64 0) := (blk_cell kr9 5).trans rfl; have hrf_5 : v9.frozen? ⟨gr, 5, none⟩ = false := blk_frozen kr9 5; have hrz_6 : v9.cell? ⟨gr, 6, none⟩ = some (.int .i64 0) := (blk_cell kr9 6).trans rfl; have hrf_6 : v9.frozen? ⟨gr, 6, none⟩ = false := blk_frozen kr9 6; have hrz_7 : v9.cell? ⟨gr, 7, none⟩ = some (.int .i64 0) := (blk_cell kr9 7).trans rfl; have hrf_7 : v9.frozen? ⟨gr, 7, none⟩ = false := blk_frozen kr9 7; have hrz_8 : v9.cell? ⟨gr, 8, none⟩ = some (.string (⟨#[]⟩ : ByteArray)) := (blk_cell kr9 8).trans rfl; have hrf_8 : v9.frozen? ⟨gr, 8, none⟩ = false := blk_frozen kr9 8))
          refine bodyPost_ret (results_ct rfl _ _ gr 44 #[.int .i64 x0.1, .int .i64 x1.1, .int .i64 x2.1, .int .i64 x3.1, .int .i64 x4.1, .int .i64 x5.1, .int .i64 x6.1, .int .i64 x7.1, .string x8.1] (0, 0) _ rfl (st9 kr9 _ _ _ _ _ _ _ _ _) Try.underlying44 rfl (by kernel_rfl)) rfl ?_
          exact ⟨rfl, st9_below hB9 GR.out _ _ _ _ _ _ _ _ _⟩
        | false =>
          rw [if_neg (by simp)] at h
          simp only [noRq, Option.some.injEq, Prod.mk.injEq] at h
          obtain ⟨rfl, rfl, rfl, rfl, rfl, rfl, rfl, rfl, rfl, rfl⟩ := h
          go_enter Try.func79, Try.ntmps79
          go_wp2_with (first | ((with_reducible refine gate_dst (N := 2) rfl ?_); refine box_event ?hg (N := 2) ?hd (cs := #[.int .i64 0, .int .i64 0, .int .i64 0, .int .i64 0, .int .i64 0, .int .i64 0, .int .i64 0, .int .i64 0, .string (⟨#[]⟩ : ByteArray)]) (t := 44) ?hr ?_; (case hd => rfl); (case hg => rfl); (case hr => first | (go_simp; done) | (go_simp; rfl)); intro gr hgr w1 hr1 hb1; have GR := Lib.hid (show w.heap.size ≤ gr from Nat.le_of_eq hgr.symm); clear hgr))
          refine (spec_l01ReadFrame.calls k t body code w1 HR.out).mono ?_
          rintro e w2 ⟨rfl, hd2⟩
          have hb2 := hd2.below
          have hr2 := blk_below hr1 hb2
          have hB2 : Below w.heap.size w w2 := hb1.trans (hb2.mono hb1.size)
          go_wp2_with (first | ((with_reducible refine gate_dst (N := 20) rfl ?_); refine box_event ?hg (N := 20) ?hd (cs := #[.string body, .int .i64 0, .int .i64 0]) (t := 116) ?hr ?_; (case hd => rfl); (case hg => rfl); (case hr => first | (go_simp; done) | (go_simp; rfl)); intro g hgg w3 hR hb3; have hr3 := blk_below hr2 hb3; have hB3 : Below w.heap.size w w3 := hB2.trans (hb3.mono hB2.size); have hgne : gr ≠ g := Nat.ne_of_lt (by rw [hgg]; exact blk_lt hr2); have hI3 : IsQ w w3 g (body, 0, 0) := ⟨hR, by rw [hgg]; exact hB2.size⟩; clear hgg))
          refine (num_s k g _ x0 w w3 hI3 hB3 HN0.out).mono ?_
          rintro e w4 ⟨rfl, hI4, hB4, hK4⟩
          have hr4 := (hK4.2 gr (blk_lt hr3) hgne (by simp)).trans hr3
          go_wp2_with fail
          generalize hw5 : w4.alloc _ = w5; have hb5 : Below w4.heap.size w4 w5 := (by rw [← hw5]; exact (Below.refl _ _).alloc (Nat.le_refl _) _); have hq5 : w5.heap[w4.heap.size]? = some (.cells #[.int .i64 x0.1, .int .i64 0, .int .i64 0, .int .i64 0, .int .i64 0, .int .i64 0, .int .i64 0, .int .i64 0, .string (⟨#[]⟩ : ByteArray)] 44 (0, 0)) := (by rw [← hw5]; exact heap_alloc_new _ _); clear hw5; have hr5 := blk_below hr4 hb5; have hI5 : IsQ w w5 g x0.2 := IsS116.below hI4 hb5; have hB5 : Below w.heap.size w w5 := hB4.trans (hb5.mono hB4.size); have hqg : w4.heap.size ≠ g := (Nat.ne_of_lt (blk_lt hI4.1)).symm; have hqr : w4.heap.size ≠ gr := (Nat.ne_of_lt (blk_lt hr4)).symm; have hqle : w.heap.size ≤ w4.heap.size := hB4.size; generalize w4.heap.size = gq at hq5 hqg hqr hqle ⊢
          refine (num_s k g _ x1 w w5 hI5 hB5 HN1.out).mono ?_
          rintro e w6 ⟨rfl, hI6, hB6, hK6⟩
          have hr6 := (hK6.2 gr (blk_lt hr5) hgne (by simp)).trans hr5
          have hq6 := (hK6.2 gq (blk_lt hq5) hqg (by simp)).trans hq5
          have hqz : w6.cell? ⟨gq, 1, none⟩ = some (.int .i64 0) := (blk_cell hq6 1).trans rfl
          have hqf : w6.frozen? ⟨gq, 1, none⟩ = false := blk_frozen hq6 1
          have hq0 : (w6.setCell ⟨gq, 1, none⟩ (.int .i64 x1.1)).cell? ⟨gq, 0, none⟩ = some (.int .i64 x0.1) := (blk_cell (blk_put (cs' := #[.int .i64 x0.1, .int .i64 x1.1, .int .i64 0, .int .i64 0, .int .i64 0, .int .i64 0, .int .i64 0, .int .i64 0, .string (⟨#[]⟩ : ByteArray)]) hq6 1 (.int .i64 x1.1) rfl) 0).trans rfl
          go_wp2_with fail
          have hq7 := blk_put (cs' := #[.int .i64 x0.1, .int .i64 x1.1, .int .i64 0, .int .i64 0, .int .i64 0, .int .i64 0, .int .i64 0, .int .i64 0, .string (⟨#[]⟩ : ByteArray)]) hq6 1 (.int .i64 x1.1) rfl
          have hr7 := blk_far hr6 (p := ⟨gq, 1, none⟩) hqr.symm (.int .i64 x1.1)
          have hI7 : IsQ w (w6.setCell ⟨gq, 1, none⟩ (.int .i64 x1.1)) g x1.2 := ⟨blk_far hI6.1 (p := ⟨gq, 1, none⟩) hqg.symm (.int .i64 x1.1), hI6.2⟩
          have hB7 := below_set (j := 1) (v := .int .i64 x1.1) hB6 hqle
          clear hqz hqf hq0
          generalize w6.setCell ⟨gq, 1, none⟩ (.int .i64 x1.1) = w7 at hq7 hr7 hI7 hB7 ⊢
          refine (num_s k g _ x2 w w7 hI7 hB7 HN2.out).mono ?_
          rintro e w8 ⟨rfl, hI8, hB8, hK8⟩
          have hr8 := (hK8.2 gr (blk_lt hr7) hgne (by simp)).trans hr7
          have hq8 := (hK8.2 gq (blk_lt hq7) hqg (by simp)).trans hq7
          have hqz : w8.cell? ⟨gq, 2, none⟩ = some (.int .i64 0) := (blk_cell hq8 2).trans rfl
          have hqf : w8.frozen? ⟨gq, 2, none⟩ = false := blk_frozen hq8 2
          have hq0 : (w8.setCell ⟨gq, 2, none⟩ (.int .i64 x2.1)).cell? ⟨gq, 0, none⟩ = some (.int .i64 x0.1) := (blk_cell (blk_put (cs' := #[.int .i64 x0.1, .int .i64 x1.1, .int .i64 x2.1, .int .i64 0, .int .i64 0, .int .i64 0, .int .i64 0, .int .i64 0, .string (⟨#[]⟩ : ByteArray)]) hq8 2 (.int .i64 x2.1) rfl) 0).trans rfl
          go_wp2_with fail
          have hq9 := blk_put (cs' := #[.int .i64 x0.1, .int .i64 x1.1, .int .i64 x2.1, .int .i64 0, .int .i64 0, .int .i64 0, .int .i64 0, .int .i64 0, .string (⟨#[]⟩ : ByteArray)]) hq8 2 (.int .i64 x2.1) rfl
          have hr9 := blk_far hr8 (p := ⟨gq, 2, none⟩) hqr.symm (.int .i64 x2.1)
          have hI9 : IsQ w (w8.setCell ⟨gq, 2, none⟩ (.int .i64 x2.1)) g x2.2 := ⟨blk_far hI8.1 (p := ⟨gq, 2, none⟩) hqg.symm (.int .i64 x2.1), hI8.2⟩
          have hB9 := below_set (j := 2) (v := .int .i64 x2.1) hB8 hqle
          clear hqz hqf hq0
          generalize w8.setCell ⟨gq, 2, none⟩ (.int .i64 x2.1) = w9 at hq9 hr9 hI9 hB9 ⊢
          refine (num_s k g _ x3 w w9 hI9 hB9 HN3.out).mono ?_
          rintro e w10 ⟨rfl, hI10, hB10, hK10⟩
          have hr10 := (hK10.2 gr (blk_lt hr9) hgne (by simp)).trans hr9
          have hq10 := (hK10.2 gq (blk_lt hq9) hqg (by simp)).trans hq9
          have hqz : w10.cell? ⟨gq, 3, none⟩ = some (.int .i64 0) := (blk_cell hq10 3).trans rfl
          have hqf : w10.frozen? ⟨gq, 3, none⟩ = false := blk_frozen hq10 3
          have hq0 : (w10.setCell ⟨gq, 3, none⟩ (.int .i64 x3.1)).cell? ⟨gq, 0, none⟩ = some (.int .i64 x0.1) := (blk_cell (blk_put (cs' := #[.int .i64 x0.1, .int .i64 x1.1, .int .i64 x2.1, .int .i64 x3.1, .int .i64 0, .int .i64 0, .int .i64 0, .int .i64 0, .string (⟨#[]⟩ : ByteArray)]) hq10 3 (.int .i64 x3.1) rfl) 0).trans rfl
          go_wp2_with fail
          have hq11 := blk_put (cs' := #[.int .i64 x0.1, .int .i64 x1.1, .int .i64 x2.1, .int .i64 x3.1, .int .i64 0, .int .i64 0, .int .i64 0, .int .i64 0, .string (⟨#[]⟩ : ByteArray)]) hq10 3 (.int .i64 x3.1) rfl
          have hr11 := blk_far hr10 (p := ⟨gq, 3, none⟩) hqr.symm (.int .i64 x3.1)
          have hI11 : IsQ w (w10.setCell ⟨gq, 3, none⟩ (.int .i64 x3.1)) g x3.2 := ⟨blk_far hI10.1 (p := ⟨gq, 3, none⟩) hqg.symm (.int .i64 x3.1), hI10.2⟩
          have hB11 := below_set (j := 3) (v := .int .i64 x3.1) hB10 hqle
          clear hqz hqf hq0
          generalize w10.setCell ⟨gq, 3, none⟩ (.int .i64 x3.1) = w11 at hq11 hr11 hI11 hB11 ⊢
          refine (num_s k g _ x4 w w11 hI11 hB11 HN4.out).mono ?_
          rintro e w12 ⟨rfl, hI12, hB12, hK12⟩
          have hr12 := (hK12.2 gr (blk_lt hr11) hgne (by simp)).trans hr11
          have hq12 := (hK12.2 gq (blk_lt hq11) hqg (by simp)).trans hq11
          have hqz : w12.cell? ⟨gq, 4, none⟩ = some (.int .i64 0) := (blk_cell hq12 4).trans rfl
          have hqf : w12.frozen? ⟨gq, 4, none⟩ = false := blk_frozen hq12 4
          have hq0 : (w12.setCell ⟨gq, 4, none⟩ (.int .i64 x4.1)).cell? ⟨gq, 0, none⟩ = some (.int .i64 x0.1) := (blk_cell (blk_put (cs' := #[.int .i64 x0.1, .int .i64 x1.1, .int .i64 x2.1, .int .i64 x3.1, .int .i64 x4.1, .int .i64 0, .int .i64 0, .int .i64 0, .string (⟨#[]⟩ : ByteArray)]) hq12 4 (.int .i64 x4.1) rfl) 0).trans rfl
          go_wp2_with fail
          have hq13 := blk_put (cs' := #[.int .i64 x0.1, .int .i64 x1.1, .int .i64 x2.1, .int .i64 x3.1, .int .i64 x4.1, .int .i64 0, .int .i64 0, .int .i64 0, .string (⟨#[]⟩ : ByteArray)]) hq12 4 (.int .i64 x4.1) rfl
          have hr13 := blk_far hr12 (p := ⟨gq, 4, none⟩) hqr.symm (.int .i64 x4.1)
          have hI13 : IsQ w (w12.setCell ⟨gq, 4, none⟩ (.int .i64 x4.1)) g x4.2 := ⟨blk_far hI12.1 (p := ⟨gq, 4, none⟩) hqg.symm (.int .i64 x4.1), hI12.2⟩
          have hB13 := below_set (j := 4) (v := .int .i64 x4.1) hB12 hqle
          clear hqz hqf hq0
          generalize w12.setCell ⟨gq, 4, none⟩ (.int .i64 x4.1) = w13 at hq13 hr13 hI13 hB13 ⊢
          refine (num_s k g _ x5 w w13 hI13 hB13 HN5.out).mono ?_
          rintro e w14 ⟨rfl, hI14, hB14, hK14⟩
          have hr14 := (hK14.2 gr (blk_lt hr13) hgne (by simp)).trans hr13
          have hq14 := (hK14.2 gq (blk_lt hq13) hqg (by simp)).trans hq13
          have hqz : w14.cell? ⟨gq, 5, none⟩ = some (.int .i64 0) := (blk_cell hq14 5).trans rfl
          have hqf : w14.frozen? ⟨gq, 5, none⟩ = false := blk_frozen hq14 5
          have hq0 : (w14.setCell ⟨gq, 5, none⟩ (.int .i64 x5.1)).cell? ⟨gq, 0, none⟩ = some (.int .i64 x0.1) := (blk_cell (blk_put (cs' := #[.int .i64 x0.1, .int .i64 x1.1, .int .i64 x2.1, .int .i64 x3.1, .int .i64 x4.1, .int .i64 x5.1, .int .i64 0, .int .i64 0, .string (⟨#[]⟩ : ByteArray)]) hq14 5 (.int .i64 x5.1) rfl) 0).trans rfl
          go_wp2_with fail
          have hq15 := blk_put (cs' := #[.int .i64 x0.1, .int .i64 x1.1, .int .i64 x2.1, .int .i64 x3.1, .int .i64 x4.1, .int .i64 x5.1, .int .i64 0, .int .i64 0, .string (⟨#[]⟩ : ByteArray)]) hq14 5 (.int .i64 x5.1) rfl
          have hr15 := blk_far hr14 (p := ⟨gq, 5, none⟩) hqr.symm (.int .i64 x5.1)
          have hI15 : IsQ w (w14.setCell ⟨gq, 5, none⟩ (.int .i64 x5.1)) g x5.2 := ⟨blk_far hI14.1 (p := ⟨gq, 5, none⟩) hqg.symm (.int .i64 x5.1), hI14.2⟩
          have hB15 := below_set (j := 5) (v := .int .i64 x5.1) hB14 hqle
          clear hqz hqf hq0
          generalize w14.setCell ⟨gq, 5, none⟩ (.int .i64 x5.1) = w15 at hq15 hr15 hI15 hB15 ⊢
          refine (num_s k g _ x6 w w15 hI15 hB15 HN6.out).mono ?_
          rintro e w16 ⟨rfl, hI16, hB16, hK16⟩
          have hr16 := (hK16.2 gr (blk_lt hr15) hgne (by simp)).trans hr15
          have hq16 := (hK16.2 gq (blk_lt hq15) hqg (by simp)).trans hq15
          have hqz : w16.cell? ⟨gq, 6, none⟩ = some (.int .i64 0) := (blk_cell hq16 6).trans rfl
          have hqf : w16.frozen? ⟨gq, 6, none⟩ = false := blk_frozen hq16 6
          have hq0 : (w16.setCell ⟨gq, 6, none⟩ (.int .i64 x6.1)).cell? ⟨gq, 0, none⟩ = some (.int .i64 x0.1) := (blk_cell (blk_put (cs' := #[.int .i64 x0.1, .int .i64 x1.1, .int .i64 x2.1, .int .i64 x3.1, .int .i64 x4.1, .int .i64 x5.1, .int .i64 x6.1, .int .i64 0, .string (⟨#[]⟩ : ByteArray)]) hq16 6 (.int .i64 x6.1) rfl) 0).trans rfl
          go_wp2_with fail
          have hq17 := blk_put (cs' := #[.int .i64 x0.1, .int .i64 x1.1, .int .i64 x2.1, .int .i64 x3.1, .int .i64 x4.1, .int .i64 x5.1, .int .i64 x6.1, .int .i64 0, .string (⟨#[]⟩ : ByteArray)]) hq16 6 (.int .i64 x6.1) rfl
          have hr17 := blk_far hr16 (p := ⟨gq, 6, none⟩) hqr.symm (.int .i64 x6.1)
          have hI17 : IsQ w (w16.setCell ⟨gq, 6, none⟩ (.int .i64 x6.1)) g x6.2 := ⟨blk_far hI16.1 (p := ⟨gq, 6, none⟩) hqg.symm (.int .i64 x6.1), hI16.2⟩
          have hB17 := below_set (j := 6) (v := .int .i64 x6.1) hB16 hqle
          clear hqz hqf hq0
          generalize w16.setCell ⟨gq, 6, none⟩ (.int .i64 x6.1) = w17 at hq17 hr17 hI17 hB17 ⊢
          refine (num_s k g _ x7 w w17 hI17 hB17 HN7.out).mono ?_
          rintro e w18 ⟨rfl, hI18, hB18, hK18⟩
          have hr18 := (hK18.2 gr (blk_lt hr17) hgne (by simp)).trans hr17
          have hq18 := (hK18.2 gq (blk_lt hq17) hqg (by simp)).trans hq17
          have hqz : w18.cell? ⟨gq, 7, none⟩ = some (.int .i64 0) := (blk_cell hq18 7).trans rfl
          have hqf : w18.frozen? ⟨gq, 7, none⟩ = false := blk_frozen hq18 7
          have hq0 : (w18.setCell ⟨gq, 7, none⟩ (.int .i64 x7.1)).cell? ⟨gq, 0, none⟩ = some (.int .i64 x0.1) := (blk_cell (blk_put (cs' := #[.int .i64 x0.1, .int .i64 x1.1, .int .i64 x2.1, .int .i64 x3.1, .int .i64 x4.1, .int .i64 x5.1, .int .i64 x6.1, .int .i64 x7.1, .string (⟨#[]⟩ : ByteArray)]) hq18 7 (.int .i64 x7.1) rfl) 0).trans rfl
          go_wp2_with fail
          have hq19 := blk_put (cs' := #[.int .i64 x0.1, .int .i64 x1.1, .int .i64 x2.1, .int .i64 x3.1, .int .i64 x4.1, .int .i64 x5.1, .int .i64 x6.1, .int .i64 x7.1, .string (⟨#[]⟩ : ByteArray)]) hq18 7 (.int .i64 x7.1) rfl
          have hr19 := blk_far hr18 (p := ⟨gq, 7, none⟩) hqr.symm (.int .i64 x7.1)
          have hI19 : IsQ w (w18.setCell ⟨gq, 7, none⟩ (.int .i64 x7.1)) g x7.2 := ⟨blk_far hI18.1 (p := ⟨gq, 7, none⟩) hqg.symm (.int .i64 x7.1), hI18.2⟩
          have hB19 := below_set (j := 7) (v := .int .i64 x7.1) hB18 hqle
          clear hqz hqf hq0
          generalize w18.setCell ⟨gq, 7, none⟩ (.int .i64 x7.1) = w19 at hq19 hr19 hI19 hB19 ⊢
          refine (str_s k g _ x8 w w19 hI19 hB19 HN8.out).mono ?_
          rintro e w20 ⟨rfl, hI20, hB20, hK20⟩
          have hr20 := (hK20.2 gr (blk_lt hr19) hgne (by simp)).trans hr19
          have hq20 := (hK20.2 gq (blk_lt hq19) hqg (by simp)).trans hq19
          have hqz : w20.cell? ⟨gq, 8, none⟩ = some (.string (⟨#[]⟩ : ByteArray)) := (blk_cell hq20 8).trans rfl
          have hqf : w20.frozen? ⟨gq, 8, none⟩ = false := blk_frozen hq20 8
          have hq0 : (w20.setCell ⟨gq, 8, none⟩ (.string x8.1)).cell? ⟨gq, 0, none⟩ = some (.int .i64 x0.1) := (blk_cell (blk_put (cs' := #[.int .i64 x0.1, .int .i64 x1.1, .int .i64 x2.1, .int .i64 x3.1, .int .i64 x4.1, .int .i64 x5.1, .int .i64 x6.1, .int .i64 x7.1, .string x8.1]) hq20 8 (.string x8.1) rfl) 0).trans rfl
          go_wp2_with fail
          have hq21 := blk_put (cs' := #[.int .i64 x0.1, .int .i64 x1.1, .int .i64 x2.1, .int .i64 x3.1, .int .i64 x4.1, .int .i64 x5.1, .int .i64 x6.1, .int .i64 x7.1, .string x8.1]) hq20 8 (.string x8.1) rfl
          have hr21 := blk_far hr20 (p := ⟨gq, 8, none⟩) hqr.symm (.string x8.1)
          have hI21 : IsQ w (w20.setCell ⟨gq, 8, none⟩ (.string x8.1)) g x8.2 := ⟨blk_far hI20.1 (p := ⟨gq, 8, none⟩) hqg.symm (.string x8.1), hI20.2⟩
          have hB21 := below_set (j := 8) (v := .string x8.1) hB20 hqle
          clear hqz hqf hq0
          generalize w20.setCell ⟨gq, 8, none⟩ (.string x8.1) = w21 at hq21 hr21 hI21 hB21 ⊢
          refine (end_s g _ y w w21 hI21 hB21 HY.out).mono ?_
          rintro e v8 ⟨rfl, hI8', hB8', hK8'⟩
          have kr8 := (hK8'.2 gr (blk_lt hr21) hgne (by simp)).trans hr21
          have kq8 := (hK8'.2 gq (blk_lt hq21) hqg (by simp)).trans hq21
          have hqz_0 : v8.cell? ⟨gq, 0, none⟩ = some (.int .i64 x0.1) := (blk_cell kq8 0).trans rfl
          have hqz_1 : v8.cell? ⟨gq, 1, none⟩ = some (.int .i64 x1.1) := (blk_cell kq8 1).trans rfl
          have hqz_2 : v8.cell? ⟨gq, 2, none⟩ = some (.int .i64 x2.1) := (blk_cell kq8 2).trans rfl
          have hqz_3 : v8.cell? ⟨gq, 3, none⟩ = some (.int .i64 x3.1) := (blk_cell kq8 3).trans rfl
          have hqz_4 : v8.cell? ⟨gq, 4, none⟩ = some (.int .i64 x4.1) := (blk_cell kq8 4).trans rfl
          have hqz_5 : v8.cell? ⟨gq, 5, none⟩ = some (.int .i64 x5.1) := (blk_cell kq8 5).trans rfl
          have hqz_6 : v8.cell? ⟨gq, 6, none⟩ = some (.int .i64 x6.1) := (blk_cell kq8 6).trans rfl
          have hqz_7 : v8.cell? ⟨gq, 7, none⟩ = some (.int .i64 x7.1) := (blk_cell kq8 7).trans rfl
          have hqz_8 : v8.cell? ⟨gq, 8, none⟩ = some (.string x8.1) := (blk_cell kq8 8).trans rfl
          have hrz_0 : v8.cell? ⟨gr, 0, none⟩ = some (.int .i64 0) := (blk_cell kr8 0).trans rfl
          have hrf_0 : v8.frozen? ⟨gr, 0, none⟩ = false := blk_frozen kr8 0
          have hrz_1 : v8.cell? ⟨gr, 1, none⟩ = some (.int .i64 0) := (blk_cell kr8 1).trans rfl
          have hrf_1 : v8.frozen? ⟨gr, 1, none⟩ = false := blk_frozen kr8 1
          have hrz_2 : v8.cell? ⟨gr, 2, none⟩ = some (.int .i64 0) := (blk_cell kr8 2).trans rfl
          have hrf_2 : v8.frozen? ⟨gr, 2, none⟩ = false := blk_frozen kr8 2
          have hrz_3 : v8.cell? ⟨gr, 3, none⟩ = some (.int .i64 0) := (blk_cell kr8 3).trans rfl
          have hrf_3 : v8.frozen? ⟨gr, 3, none⟩ = false := blk_frozen kr8 3
          have hrz_4 : v8.cell? ⟨gr, 4, none⟩ = some (.int .i64 0) := (blk_cell kr8 4).trans rfl
          have hrf_4 : v8.frozen? ⟨gr, 4, none⟩ = false := blk_frozen kr8 4
          have hrz_5 : v8.cell? ⟨gr, 5, none⟩ = some (.int .i64 0) := (blk_cell kr8 5).trans rfl
          have hrf_5 : v8.frozen? ⟨gr, 5, none⟩ = false := blk_frozen kr8 5
          have hrz_6 : v8.cell? ⟨gr, 6, none⟩ = some (.int .i64 0) := (blk_cell kr8 6).trans rfl
          have hrf_6 : v8.frozen? ⟨gr, 6, none⟩ = false := blk_frozen kr8 6
          have hrz_7 : v8.cell? ⟨gr, 7, none⟩ = some (.int .i64 0) := (blk_cell kr8 7).trans rfl
          have hrf_7 : v8.frozen? ⟨gr, 7, none⟩ = false := blk_frozen kr8 7
          have hrz_8 : v8.cell? ⟨gr, 8, none⟩ = some (.string (⟨#[]⟩ : ByteArray)) := (blk_cell kr8 8).trans rfl
          have hrf_8 : v8.frozen? ⟨gr, 8, none⟩ = false := blk_frozen kr8 8
          go_wp2_with (first | ((with_reducible refine gate_callee (f := 60) rfl ?_); refine goesL_ (some 63) rfl rfl Try.func60 (by kernel_rfl) rfl #[.agg #[.int .i64 x0.1, .int .i64 x1.1, .int .i64 x2.1, .int .i64 x3.1, .int .i64 x4.1, .int .i64 x5.1, .int .i64 x6.1, .int .i64 x7.1, .string x8.1]] rfl (by (try simp only [List.map_toArray, List.map_cons, List.map_nil]); first | done | rfl) ?_; (with_reducible refine (spec_RequestOK.calls k x0.1 x1.1 x2.1 x3.1 x4.1 x5.1 x6.1 x7.1 x8.1 false _ HBB.out).mono ?_); rintro e v9 ⟨rfl, hb9⟩; refine ⟨_, rfl, ?_⟩; have kr9 := blk_below kr8 hb9; have kq9 := blk_below kq8 hb9; have hB9 : Below w.heap.size w v9 := hB8'.trans (hb9.mono hB8'.size); (try clear hqz_0 hqz_1 hqz_2 hqz_3 hqz_4 hqz_5 hqz_6 hqz_7 hqz_8); (try clear hqf_0 hqf_1 hqf_2 hqf_3 hqf_4 hqf_5 hqf_6 hqf_7 hqf_8); (try clear hrz_0 hrz_1 hrz_2 hrz_3 hrz_4 hrz_5 hrz_6 hrz_7 hrz_8); (try clear hrf_0 hrf_1 hrf_2 hrf_3 hrf_4 hrf_5 hrf_6 hrf_7 hrf_8); have hqz_0 : v9.cell? ⟨gq, 0, none⟩ = some (.int .i64 x0.1) := (blk_cell kq9 0).trans rfl; have hqz_1 : v9.cell? ⟨gq, 1, none⟩ = some (.int .i64 x1.1) := (blk_cell kq9 1).trans rfl; have hqz_2 : v9.cell? ⟨gq, 2, none⟩ = some (.int .i64 x2.1) := (blk_cell kq9 2).trans rfl; have hqz_3 : v9.cell? ⟨gq, 3, none⟩ = some (.int .i64 x3.1) := (blk_cell kq9 3).trans rfl; have hqz_4 : v9.cell? ⟨gq, 4, none⟩ = some (.int .i64 x4.1) := (blk_cell kq9 4).trans rfl; have hqz_5 : v9.cell? ⟨gq, 5, none⟩ = some (.int .i64 x5.1) := (blk_cell kq9 5).trans rfl; have hqz_6 : v9.cell? ⟨gq, 6, none⟩ = some (.int .i64 x6.1) := (blk_cell kq9 6).trans rfl; have hqz_7 : v9.cell? ⟨gq, 7, none⟩ = some (.int .i64 x7.1) := (blk_cell kq9 7).trans rfl; have hqz_8 : v9.cell? ⟨gq, 8, none⟩ = some (.string x8.1) := (blk_cell kq9 8).trans rfl; have hrz_0 : v9.cell? ⟨gr, 0, none⟩ = some (.int .i64 0) := (blk_cell kr9 0).trans rfl; have hrf_0 : v9.frozen? ⟨gr, 0, none⟩ = false := blk_frozen kr9 0; have hrz_1 : v9.cell? ⟨gr, 1, none⟩ = some (.int .i64 0) := (blk_cell kr9 1).trans rfl; have hrf_1 : v9.frozen? ⟨gr, 1, none⟩ = false := blk_frozen kr9 1; have hrz_2 : v9.cell? ⟨gr, 2, none⟩ = some (.int .i64 0) := (blk_cell kr9 2).trans rfl; have hrf_2 : v9.frozen? ⟨gr, 2, none⟩ = false := blk_frozen kr9 2; have hrz_3 : v9.cell? ⟨gr, 3, none⟩ = some (.int .i64 0) := (blk_cell kr9 3).trans rfl; have hrf_3 : v9.frozen? ⟨gr, 3, none⟩ = false := blk_frozen kr9 3; have hrz_4 : v9.cell? ⟨gr, 4, none⟩ = some (.int .i64 0) := (blk_cell kr9 4).trans rfl; have hrf_4 : v9.frozen? ⟨gr, 4, none⟩ = false := blk_frozen kr9 4; have hrz_5 : v9.cell? ⟨gr, 5, none⟩ = some (.int .i64 0) := (blk_cell kr9 5).trans rfl; have hrf_5 : v9.frozen? ⟨gr, 5, none⟩ = false := blk_frozen kr9 5; have hrz_6 : v9.cell? ⟨gr, 6, none⟩ = some (.int .i64 0) := (blk_cell kr9 6).trans rfl; have hrf_6 : v9.frozen? ⟨gr, 6, none⟩ = false := blk_frozen kr9 6; have hrz_7 : v9.cell? ⟨gr, 7, none⟩ = some (.int .i64 0) := (blk_cell kr9 7).trans rfl; have hrf_7 : v9.frozen? ⟨gr, 7, none⟩ = false := blk_frozen kr9 7; have hrz_8 : v9.cell? ⟨gr, 8, none⟩ = some (.string (⟨#[]⟩ : ByteArray)) := (blk_cell kr9 8).trans rfl; have hrf_8 : v9.frozen? ⟨gr, 8, none⟩ = false := blk_frozen kr9 8))
          refine bodyPost_ret (results_ct rfl _ _ gr 44 #[.int .i64 0, .int .i64 0, .int .i64 0, .int .i64 0, .int .i64 0, .int .i64 0, .int .i64 0, .int .i64 0, .string (⟨#[]⟩ : ByteArray)] (0, 0) _ rfl (st9 kr9 _ _ _ _ _ _ _ _ _) Try.underlying44 rfl (by kernel_rfl)) rfl ?_
          exact ⟨rfl, st9_below hB9 GR.out _ _ _ _ _ _ _ _ _⟩
      · rw [if_neg cy] at h
        simp only [noRq, Option.some.injEq, Prod.mk.injEq] at h
        obtain ⟨rfl, rfl, rfl, rfl, rfl, rfl, rfl, rfl, rfl, rfl⟩ := h
        have cyb : (y.1 != 0) = true := bne_iff_ne.mpr cy
        clear cy
        go_enter Try.func79, Try.ntmps79
        go_wp2_with (first | ((with_reducible refine gate_dst (N := 2) rfl ?_); refine box_event ?hg (N := 2) ?hd (cs := #[.int .i64 0, .int .i64 0, .int .i64 0, .int .i64 0, .int .i64 0, .int .i64 0, .int .i64 0, .int .i64 0, .string (⟨#[]⟩ : ByteArray)]) (t := 44) ?hr ?_; (case hd => rfl); (case hg => rfl); (case hr => first | (go_simp; done) | (go_simp; rfl)); intro gr hgr w1 hr1 hb1; have GR := Lib.hid (show w.heap.size ≤ gr from Nat.le_of_eq hgr.symm); clear hgr))
        refine (spec_l01ReadFrame.calls k t body code w1 HR.out).mono ?_
        rintro e w2 ⟨rfl, hd2⟩
        have hb2 := hd2.below
        have hr2 := blk_below hr1 hb2
        have hB2 : Below w.heap.size w w2 := hb1.trans (hb2.mono hb1.size)
        go_wp2_with (first | ((with_reducible refine gate_dst (N := 20) rfl ?_); refine box_event ?hg (N := 20) ?hd (cs := #[.string body, .int .i64 0, .int .i64 0]) (t := 116) ?hr ?_; (case hd => rfl); (case hg => rfl); (case hr => first | (go_simp; done) | (go_simp; rfl)); intro g hgg w3 hR hb3; have hr3 := blk_below hr2 hb3; have hB3 : Below w.heap.size w w3 := hB2.trans (hb3.mono hB2.size); have hgne : gr ≠ g := Nat.ne_of_lt (by rw [hgg]; exact blk_lt hr2); have hI3 : IsQ w w3 g (body, 0, 0) := ⟨hR, by rw [hgg]; exact hB2.size⟩; clear hgg))
        refine (num_s k g _ x0 w w3 hI3 hB3 HN0.out).mono ?_
        rintro e w4 ⟨rfl, hI4, hB4, hK4⟩
        have hr4 := (hK4.2 gr (blk_lt hr3) hgne (by simp)).trans hr3
        go_wp2_with fail
        generalize hw5 : w4.alloc _ = w5; have hb5 : Below w4.heap.size w4 w5 := (by rw [← hw5]; exact (Below.refl _ _).alloc (Nat.le_refl _) _); have hq5 : w5.heap[w4.heap.size]? = some (.cells #[.int .i64 x0.1, .int .i64 0, .int .i64 0, .int .i64 0, .int .i64 0, .int .i64 0, .int .i64 0, .int .i64 0, .string (⟨#[]⟩ : ByteArray)] 44 (0, 0)) := (by rw [← hw5]; exact heap_alloc_new _ _); clear hw5; have hr5 := blk_below hr4 hb5; have hI5 : IsQ w w5 g x0.2 := IsS116.below hI4 hb5; have hB5 : Below w.heap.size w w5 := hB4.trans (hb5.mono hB4.size); have hqg : w4.heap.size ≠ g := (Nat.ne_of_lt (blk_lt hI4.1)).symm; have hqr : w4.heap.size ≠ gr := (Nat.ne_of_lt (blk_lt hr4)).symm; have hqle : w.heap.size ≤ w4.heap.size := hB4.size; generalize w4.heap.size = gq at hq5 hqg hqr hqle ⊢
        refine (num_s k g _ x1 w w5 hI5 hB5 HN1.out).mono ?_
        rintro e w6 ⟨rfl, hI6, hB6, hK6⟩
        have hr6 := (hK6.2 gr (blk_lt hr5) hgne (by simp)).trans hr5
        have hq6 := (hK6.2 gq (blk_lt hq5) hqg (by simp)).trans hq5
        have hqz : w6.cell? ⟨gq, 1, none⟩ = some (.int .i64 0) := (blk_cell hq6 1).trans rfl
        have hqf : w6.frozen? ⟨gq, 1, none⟩ = false := blk_frozen hq6 1
        have hq0 : (w6.setCell ⟨gq, 1, none⟩ (.int .i64 x1.1)).cell? ⟨gq, 0, none⟩ = some (.int .i64 x0.1) := (blk_cell (blk_put (cs' := #[.int .i64 x0.1, .int .i64 x1.1, .int .i64 0, .int .i64 0, .int .i64 0, .int .i64 0, .int .i64 0, .int .i64 0, .string (⟨#[]⟩ : ByteArray)]) hq6 1 (.int .i64 x1.1) rfl) 0).trans rfl
        go_wp2_with fail
        have hq7 := blk_put (cs' := #[.int .i64 x0.1, .int .i64 x1.1, .int .i64 0, .int .i64 0, .int .i64 0, .int .i64 0, .int .i64 0, .int .i64 0, .string (⟨#[]⟩ : ByteArray)]) hq6 1 (.int .i64 x1.1) rfl
        have hr7 := blk_far hr6 (p := ⟨gq, 1, none⟩) hqr.symm (.int .i64 x1.1)
        have hI7 : IsQ w (w6.setCell ⟨gq, 1, none⟩ (.int .i64 x1.1)) g x1.2 := ⟨blk_far hI6.1 (p := ⟨gq, 1, none⟩) hqg.symm (.int .i64 x1.1), hI6.2⟩
        have hB7 := below_set (j := 1) (v := .int .i64 x1.1) hB6 hqle
        clear hqz hqf hq0
        generalize w6.setCell ⟨gq, 1, none⟩ (.int .i64 x1.1) = w7 at hq7 hr7 hI7 hB7 ⊢
        refine (num_s k g _ x2 w w7 hI7 hB7 HN2.out).mono ?_
        rintro e w8 ⟨rfl, hI8, hB8, hK8⟩
        have hr8 := (hK8.2 gr (blk_lt hr7) hgne (by simp)).trans hr7
        have hq8 := (hK8.2 gq (blk_lt hq7) hqg (by simp)).trans hq7
        have hqz : w8.cell? ⟨gq, 2, none⟩ = some (.int .i64 0) := (blk_cell hq8 2).trans rfl
        have hqf : w8.frozen? ⟨gq, 2, none⟩ = false := blk_frozen hq8 2
        have hq0 : (w8.setCell ⟨gq, 2, none⟩ (.int .i64 x2.1)).cell? ⟨gq, 0, none⟩ = some (.int .i64 x0.1) := (blk_cell (blk_put (cs' := #[.int .i64 x0.1, .int .i64 x1.1, .int .i64 x2.1, .int .i64 0, .int .i64 0, .int .i64 0, .int .i64 0, .int .i64 0, .string (⟨#[]⟩ : ByteArray)]) hq8 2 (.int .i64 x2.1) rfl) 0).trans rfl
        go_wp2_with fail
        have hq9 := blk_put (cs' := #[.int .i64 x0.1, .int .i64 x1.1, .int .i64 x2.1, .int .i64 0, .int .i64 0, .int .i64 0, .int .i64 0, .int .i64 0, .string (⟨#[]⟩ : ByteArray)]) hq8 2 (.int .i64 x2.1) rfl
        have hr9 := blk_far hr8 (p := ⟨gq, 2, none⟩) hqr.symm (.int .i64 x2.1)
        have hI9 : IsQ w (w8.setCell ⟨gq, 2, none⟩ (.int .i64 x2.1)) g x2.2 := ⟨blk_far hI8.1 (p := ⟨gq, 2, none⟩) hqg.symm (.int .i64 x2.1), hI8.2⟩
        have hB9 := below_set (j := 2) (v := .int .i64 x2.1) hB8 hqle
        clear hqz hqf hq0
        generalize w8.setCell ⟨gq, 2, none⟩ (.int .i64 x2.1) = w9 at hq9 hr9 hI9 hB9 ⊢
        refine (num_s k g _ x3 w w9 hI9 hB9 HN3.out).mono ?_
        rintro e w10 ⟨rfl, hI10, hB10, hK10⟩
        have hr10 := (hK10.2 gr (blk_lt hr9) hgne (by simp)).trans hr9
        have hq10 := (hK10.2 gq (blk_lt hq9) hqg (by simp)).trans hq9
        have hqz : w10.cell? ⟨gq, 3, none⟩ = some (.int .i64 0) := (blk_cell hq10 3).trans rfl
        have hqf : w10.frozen? ⟨gq, 3, none⟩ = false := blk_frozen hq10 3
        have hq0 : (w10.setCell ⟨gq, 3, none⟩ (.int .i64 x3.1)).cell? ⟨gq, 0, none⟩ = some (.int .i64 x0.1) := (blk_cell (blk_put (cs' := #[.int .i64 x0.1, .int .i64 x1.1, .int .i64 x2.1, .int .i64 x3.1, .int .i64 0, .int .i64 0, .int .i64 0, .int .i64 0, .string (⟨#[]⟩ : ByteArray)]) hq10 3 (.int .i64 x3.1) rfl) 0).trans rfl
        go_wp2_with fail
        have hq11 := blk_put (cs' := #[.int .i64 x0.1, .int .i64 x1.1, .int .i64 x2.1, .int .i64 x3.1, .int .i64 0, .int .i64 0, .int .i64 0, .int .i64 0, .string (⟨#[]⟩ : ByteArray)]) hq10 3 (.int .i64 x3.1) rfl
        have hr11 := blk_far hr10 (p := ⟨gq, 3, none⟩) hqr.symm (.int .i64 x3.1)
        have hI11 : IsQ w (w10.setCell ⟨gq, 3, none⟩ (.int .i64 x3.1)) g x3.2 := ⟨blk_far hI10.1 (p := ⟨gq, 3, none⟩) hqg.symm (.int .i64 x3.1), hI10.2⟩
        have hB11 := below_set (j := 3) (v := .int .i64 x3.1) hB10 hqle
        clear hqz hqf hq0
        generalize w10.setCell ⟨gq, 3, none⟩ (.int .i64 x3.1) = w11 at hq11 hr11 hI11 hB11 ⊢
        refine (num_s k g _ x4 w w11 hI11 hB11 HN4.out).mono ?_
        rintro e w12 ⟨rfl, hI12, hB12, hK12⟩
        have hr12 := (hK12.2 gr (blk_lt hr11) hgne (by simp)).trans hr11
        have hq12 := (hK12.2 gq (blk_lt hq11) hqg (by simp)).trans hq11
        have hqz : w12.cell? ⟨gq, 4, none⟩ = some (.int .i64 0) := (blk_cell hq12 4).trans rfl
        have hqf : w12.frozen? ⟨gq, 4, none⟩ = false := blk_frozen hq12 4
        have hq0 : (w12.setCell ⟨gq, 4, none⟩ (.int .i64 x4.1)).cell? ⟨gq, 0, none⟩ = some (.int .i64 x0.1) := (blk_cell (blk_put (cs' := #[.int .i64 x0.1, .int .i64 x1.1, .int .i64 x2.1, .int .i64 x3.1, .int .i64 x4.1, .int .i64 0, .int .i64 0, .int .i64 0, .string (⟨#[]⟩ : ByteArray)]) hq12 4 (.int .i64 x4.1) rfl) 0).trans rfl
        go_wp2_with fail
        have hq13 := blk_put (cs' := #[.int .i64 x0.1, .int .i64 x1.1, .int .i64 x2.1, .int .i64 x3.1, .int .i64 x4.1, .int .i64 0, .int .i64 0, .int .i64 0, .string (⟨#[]⟩ : ByteArray)]) hq12 4 (.int .i64 x4.1) rfl
        have hr13 := blk_far hr12 (p := ⟨gq, 4, none⟩) hqr.symm (.int .i64 x4.1)
        have hI13 : IsQ w (w12.setCell ⟨gq, 4, none⟩ (.int .i64 x4.1)) g x4.2 := ⟨blk_far hI12.1 (p := ⟨gq, 4, none⟩) hqg.symm (.int .i64 x4.1), hI12.2⟩
        have hB13 := below_set (j := 4) (v := .int .i64 x4.1) hB12 hqle
        clear hqz hqf hq0
        generalize w12.setCell ⟨gq, 4, none⟩ (.int .i64 x4.1) = w13 at hq13 hr13 hI13 hB13 ⊢
        refine (num_s k g _ x5 w w13 hI13 hB13 HN5.out).mono ?_
        rintro e w14 ⟨rfl, hI14, hB14, hK14⟩
        have hr14 := (hK14.2 gr (blk_lt hr13) hgne (by simp)).trans hr13
        have hq14 := (hK14.2 gq (blk_lt hq13) hqg (by simp)).trans hq13
        have hqz : w14.cell? ⟨gq, 5, none⟩ = some (.int .i64 0) := (blk_cell hq14 5).trans rfl
        have hqf : w14.frozen? ⟨gq, 5, none⟩ = false := blk_frozen hq14 5
        have hq0 : (w14.setCell ⟨gq, 5, none⟩ (.int .i64 x5.1)).cell? ⟨gq, 0, none⟩ = some (.int .i64 x0.1) := (blk_cell (blk_put (cs' := #[.int .i64 x0.1, .int .i64 x1.1, .int .i64 x2.1, .int .i64 x3.1, .int .i64 x4.1, .int .i64 x5.1, .int .i64 0, .int .i64 0, .string (⟨#[]⟩ : ByteArray)]) hq14 5 (.int .i64 x5.1) rfl) 0).trans rfl
        go_wp2_with fail
        have hq15 := blk_put (cs' := #[.int .i64 x0.1, .int .i64 x1.1, .int .i64 x2.1, .int .i64 x3.1, .int .i64 x4.1, .int .i64 x5.1, .int .i64 0, .int .i64 0, .string (⟨#[]⟩ : ByteArray)]) hq14 5 (.int .i64 x5.1) rfl
        have hr15 := blk_far hr14 (p := ⟨gq, 5, none⟩) hqr.symm (.int .i64 x5.1)
        have hI15 : IsQ w (w14.setCell ⟨gq, 5, none⟩ (.int .i64 x5.1)) g x5.2 := ⟨blk_far hI14.1 (p := ⟨gq, 5, none⟩) hqg.symm (.int .i64 x5.1), hI14.2⟩
        have hB15 := below_set (j := 5) (v := .int .i64 x5.1) hB14 hqle
        clear hqz hqf hq0
        generalize w14.setCell ⟨gq, 5, none⟩ (.int .i64 x5.1) = w15 at hq15 hr15 hI15 hB15 ⊢
        refine (num_s k g _ x6 w w15 hI15 hB15 HN6.out).mono ?_
        rintro e w16 ⟨rfl, hI16, hB16, hK16⟩
        have hr16 := (hK16.2 gr (blk_lt hr15) hgne (by simp)).trans hr15
        have hq16 := (hK16.2 gq (blk_lt hq15) hqg (by simp)).trans hq15
        have hqz : w16.cell? ⟨gq, 6, none⟩ = some (.int .i64 0) := (blk_cell hq16 6).trans rfl
        have hqf : w16.frozen? ⟨gq, 6, none⟩ = false := blk_frozen hq16 6
        have hq0 : (w16.setCell ⟨gq, 6, none⟩ (.int .i64 x6.1)).cell? ⟨gq, 0, none⟩ = some (.int .i64 x0.1) := (blk_cell (blk_put (cs' := #[.int .i64 x0.1, .int .i64 x1.1, .int .i64 x2.1, .int .i64 x3.1, .int .i64 x4.1, .int .i64 x5.1, .int .i64 x6.1, .int .i64 0, .string (⟨#[]⟩ : ByteArray)]) hq16 6 (.int .i64 x6.1) rfl) 0).trans rfl
        go_wp2_with fail
        have hq17 := blk_put (cs' := #[.int .i64 x0.1, .int .i64 x1.1, .int .i64 x2.1, .int .i64 x3.1, .int .i64 x4.1, .int .i64 x5.1, .int .i64 x6.1, .int .i64 0, .string (⟨#[]⟩ : ByteArray)]) hq16 6 (.int .i64 x6.1) rfl
        have hr17 := blk_far hr16 (p := ⟨gq, 6, none⟩) hqr.symm (.int .i64 x6.1)
        have hI17 : IsQ w (w16.setCell ⟨gq, 6, none⟩ (.int .i64 x6.1)) g x6.2 := ⟨blk_far hI16.1 (p := ⟨gq, 6, none⟩) hqg.symm (.int .i64 x6.1), hI16.2⟩
        have hB17 := below_set (j := 6) (v := .int .i64 x6.1) hB16 hqle
        clear hqz hqf hq0
        generalize w16.setCell ⟨gq, 6, none⟩ (.int .i64 x6.1) = w17 at hq17 hr17 hI17 hB17 ⊢
        refine (num_s k g _ x7 w w17 hI17 hB17 HN7.out).mono ?_
        rintro e w18 ⟨rfl, hI18, hB18, hK18⟩
        have hr18 := (hK18.2 gr (blk_lt hr17) hgne (by simp)).trans hr17
        have hq18 := (hK18.2 gq (blk_lt hq17) hqg (by simp)).trans hq17
        have hqz : w18.cell? ⟨gq, 7, none⟩ = some (.int .i64 0) := (blk_cell hq18 7).trans rfl
        have hqf : w18.frozen? ⟨gq, 7, none⟩ = false := blk_frozen hq18 7
        have hq0 : (w18.setCell ⟨gq, 7, none⟩ (.int .i64 x7.1)).cell? ⟨gq, 0, none⟩ = some (.int .i64 x0.1) := (blk_cell (blk_put (cs' := #[.int .i64 x0.1, .int .i64 x1.1, .int .i64 x2.1, .int .i64 x3.1, .int .i64 x4.1, .int .i64 x5.1, .int .i64 x6.1, .int .i64 x7.1, .string (⟨#[]⟩ : ByteArray)]) hq18 7 (.int .i64 x7.1) rfl) 0).trans rfl
        go_wp2_with fail
        have hq19 := blk_put (cs' := #[.int .i64 x0.1, .int .i64 x1.1, .int .i64 x2.1, .int .i64 x3.1, .int .i64 x4.1, .int .i64 x5.1, .int .i64 x6.1, .int .i64 x7.1, .string (⟨#[]⟩ : ByteArray)]) hq18 7 (.int .i64 x7.1) rfl
        have hr19 := blk_far hr18 (p := ⟨gq, 7, none⟩) hqr.symm (.int .i64 x7.1)
        have hI19 : IsQ w (w18.setCell ⟨gq, 7, none⟩ (.int .i64 x7.1)) g x7.2 := ⟨blk_far hI18.1 (p := ⟨gq, 7, none⟩) hqg.symm (.int .i64 x7.1), hI18.2⟩
        have hB19 := below_set (j := 7) (v := .int .i64 x7.1) hB18 hqle
        clear hqz hqf hq0
        generalize w18.setCell ⟨gq, 7, none⟩ (.int .i64 x7.1) = w19 at hq19 hr19 hI19 hB19 ⊢
        refine (str_s k g _ x8 w w19 hI19 hB19 HN8.out).mono ?_
        rintro e w20 ⟨rfl, hI20, hB20, hK20⟩
        have hr20 := (hK20.2 gr (blk_lt hr19) hgne (by simp)).trans hr19
        have hq20 := (hK20.2 gq (blk_lt hq19) hqg (by simp)).trans hq19
        have hqz : w20.cell? ⟨gq, 8, none⟩ = some (.string (⟨#[]⟩ : ByteArray)) := (blk_cell hq20 8).trans rfl
        have hqf : w20.frozen? ⟨gq, 8, none⟩ = false := blk_frozen hq20 8
        have hq0 : (w20.setCell ⟨gq, 8, none⟩ (.string x8.1)).cell? ⟨gq, 0, none⟩ = some (.int .i64 x0.1) := (blk_cell (blk_put (cs' := #[.int .i64 x0.1, .int .i64 x1.1, .int .i64 x2.1, .int .i64 x3.1, .int .i64 x4.1, .int .i64 x5.1, .int .i64 x6.1, .int .i64 x7.1, .string x8.1]) hq20 8 (.string x8.1) rfl) 0).trans rfl
        go_wp2_with fail
        have hq21 := blk_put (cs' := #[.int .i64 x0.1, .int .i64 x1.1, .int .i64 x2.1, .int .i64 x3.1, .int .i64 x4.1, .int .i64 x5.1, .int .i64 x6.1, .int .i64 x7.1, .string x8.1]) hq20 8 (.string x8.1) rfl
        have hr21 := blk_far hr20 (p := ⟨gq, 8, none⟩) hqr.symm (.string x8.1)
        have hI21 : IsQ w (w20.setCell ⟨gq, 8, none⟩ (.string x8.1)) g x8.2 := ⟨blk_far hI20.1 (p := ⟨gq, 8, none⟩) hqg.symm (.string x8.1), hI20.2⟩
        have hB21 := below_set (j := 8) (v := .string x8.1) hB20 hqle
        clear hqz hqf hq0
        generalize w20.setCell ⟨gq, 8, none⟩ (.string x8.1) = w21 at hq21 hr21 hI21 hB21 ⊢
        refine (end_s g _ y w w21 hI21 hB21 HY.out).mono ?_
        rintro e v8 ⟨rfl, hI8', hB8', hK8'⟩
        have kr8 := (hK8'.2 gr (blk_lt hr21) hgne (by simp)).trans hr21
        have kq8 := (hK8'.2 gq (blk_lt hq21) hqg (by simp)).trans hq21
        have hqz_0 : v8.cell? ⟨gq, 0, none⟩ = some (.int .i64 x0.1) := (blk_cell kq8 0).trans rfl
        have hqz_1 : v8.cell? ⟨gq, 1, none⟩ = some (.int .i64 x1.1) := (blk_cell kq8 1).trans rfl
        have hqz_2 : v8.cell? ⟨gq, 2, none⟩ = some (.int .i64 x2.1) := (blk_cell kq8 2).trans rfl
        have hqz_3 : v8.cell? ⟨gq, 3, none⟩ = some (.int .i64 x3.1) := (blk_cell kq8 3).trans rfl
        have hqz_4 : v8.cell? ⟨gq, 4, none⟩ = some (.int .i64 x4.1) := (blk_cell kq8 4).trans rfl
        have hqz_5 : v8.cell? ⟨gq, 5, none⟩ = some (.int .i64 x5.1) := (blk_cell kq8 5).trans rfl
        have hqz_6 : v8.cell? ⟨gq, 6, none⟩ = some (.int .i64 x6.1) := (blk_cell kq8 6).trans rfl
        have hqz_7 : v8.cell? ⟨gq, 7, none⟩ = some (.int .i64 x7.1) := (blk_cell kq8 7).trans rfl
        have hqz_8 : v8.cell? ⟨gq, 8, none⟩ = some (.string x8.1) := (blk_cell kq8 8).trans rfl
        have hrz_0 : v8.cell? ⟨gr, 0, none⟩ = some (.int .i64 0) := (blk_cell kr8 0).trans rfl
        have hrf_0 : v8.frozen? ⟨gr, 0, none⟩ = false := blk_frozen kr8 0
        have hrz_1 : v8.cell? ⟨gr, 1, none⟩ = some (.int .i64 0) := (blk_cell kr8 1).trans rfl
        have hrf_1 : v8.frozen? ⟨gr, 1, none⟩ = false := blk_frozen kr8 1
        have hrz_2 : v8.cell? ⟨gr, 2, none⟩ = some (.int .i64 0) := (blk_cell kr8 2).trans rfl
        have hrf_2 : v8.frozen? ⟨gr, 2, none⟩ = false := blk_frozen kr8 2
        have hrz_3 : v8.cell? ⟨gr, 3, none⟩ = some (.int .i64 0) := (blk_cell kr8 3).trans rfl
        have hrf_3 : v8.frozen? ⟨gr, 3, none⟩ = false := blk_frozen kr8 3
        have hrz_4 : v8.cell? ⟨gr, 4, none⟩ = some (.int .i64 0) := (blk_cell kr8 4).trans rfl
        have hrf_4 : v8.frozen? ⟨gr, 4, none⟩ = false := blk_frozen kr8 4
        have hrz_5 : v8.cell? ⟨gr, 5, none⟩ = some (.int .i64 0) := (blk_cell kr8 5).trans rfl
        have hrf_5 : v8.frozen? ⟨gr, 5, none⟩ = false := blk_frozen kr8 5
        have hrz_6 : v8.cell? ⟨gr, 6, none⟩ = some (.int .i64 0) := (blk_cell kr8 6).trans rfl
        have hrf_6 : v8.frozen? ⟨gr, 6, none⟩ = false := blk_frozen kr8 6
        have hrz_7 : v8.cell? ⟨gr, 7, none⟩ = some (.int .i64 0) := (blk_cell kr8 7).trans rfl
        have hrf_7 : v8.frozen? ⟨gr, 7, none⟩ = false := blk_frozen kr8 7
        have hrz_8 : v8.cell? ⟨gr, 8, none⟩ = some (.string (⟨#[]⟩ : ByteArray)) := (blk_cell kr8 8).trans rfl
        have hrf_8 : v8.frozen? ⟨gr, 8, none⟩ = false := blk_frozen kr8 8
        go_wp2
        refine bodyPost_ret (results_ct rfl _ _ gr 44 #[.int .i64 0, .int .i64 0, .int .i64 0, .int .i64 0, .int .i64 0, .int .i64 0, .int .i64 0, .int .i64 0, .string (⟨#[]⟩ : ByteArray)] (0, 0) _ rfl (st9 kr8 _ _ _ _ _ _ _ _ _) Try.underlying44 rfl (by kernel_rfl)) rfl ?_
        exact ⟨rfl, st9_below hB8' GR.out _ _ _ _ _ _ _ _ _⟩
    · rw [if_neg c7] at h
      have c7b : (x0.1 == 7) = false := beq_eq_false_iff_ne.mpr c7
      clear c7
      unfold finReqS at h
      obtain ⟨y, hy, h⟩ := Option.bind_eq_some_iff.1 h
      have HY := Lib.hid hy
      clear hy
      by_cases cy : y.1 = 0
      · rw [if_pos cy] at h
        obtain ⟨b, hb, h⟩ := Option.bind_eq_some_iff.1 h
        have HBB := Lib.hid hb
        have cyb : (y.1 != 0) = false := bne_eq_false_iff_eq.mpr cy
        clear hb cy
        cases b with
        | true =>
          rw [if_pos rfl] at h
          simp only [Option.some.injEq, Prod.mk.injEq] at h
          obtain ⟨rfl, rfl, rfl, rfl, rfl, rfl, rfl, rfl, rfl, rfl⟩ := h
          go_enter Try.func79, Try.ntmps79
          go_wp2_with (first | ((with_reducible refine gate_dst (N := 2) rfl ?_); refine box_event ?hg (N := 2) ?hd (cs := #[.int .i64 0, .int .i64 0, .int .i64 0, .int .i64 0, .int .i64 0, .int .i64 0, .int .i64 0, .int .i64 0, .string (⟨#[]⟩ : ByteArray)]) (t := 44) ?hr ?_; (case hd => rfl); (case hg => rfl); (case hr => first | (go_simp; done) | (go_simp; rfl)); intro gr hgr w1 hr1 hb1; have GR := Lib.hid (show w.heap.size ≤ gr from Nat.le_of_eq hgr.symm); clear hgr))
          refine (spec_l01ReadFrame.calls k t body code w1 HR.out).mono ?_
          rintro e w2 ⟨rfl, hd2⟩
          have hb2 := hd2.below
          have hr2 := blk_below hr1 hb2
          have hB2 : Below w.heap.size w w2 := hb1.trans (hb2.mono hb1.size)
          go_wp2_with (first | ((with_reducible refine gate_dst (N := 20) rfl ?_); refine box_event ?hg (N := 20) ?hd (cs := #[.string body, .int .i64 0, .int .i64 0]) (t := 116) ?hr ?_; (case hd => rfl); (case hg => rfl); (case hr => first | (go_simp; done) | (go_simp; rfl)); intro g hgg w3 hR hb3; have hr3 := blk_below hr2 hb3; have hB3 : Below w.heap.size w w3 := hB2.trans (hb3.mono hB2.size); have hgne : gr ≠ g := Nat.ne_of_lt (by rw [hgg]; exact blk_lt hr2); have hI3 : IsQ w w3 g (body, 0, 0) := ⟨hR, by rw [hgg]; exact hB2.size⟩; clear hgg))
          refine (num_s k g _ x0 w w3 hI3 hB3 HN0.out).mono ?_
          rintro e w4 ⟨rfl, hI4, hB4, hK4⟩
          have hr4 := (hK4.2 gr (blk_lt hr3) hgne (by simp)).trans hr3
          go_wp2_with fail
          generalize hw5 : w4.alloc _ = w5; have hb5 : Below w4.heap.size w4 w5 := (by rw [← hw5]; exact (Below.refl _ _).alloc (Nat.le_refl _) _); have hq5 : w5.heap[w4.heap.size]? = some (.cells #[.int .i64 x0.1, .int .i64 0, .int .i64 0, .int .i64 0, .int .i64 0, .int .i64 0, .int .i64 0, .int .i64 0, .string (⟨#[]⟩ : ByteArray)] 44 (0, 0)) := (by rw [← hw5]; exact heap_alloc_new _ _); clear hw5; have hr5 := blk_below hr4 hb5; have hI5 : IsQ w w5 g x0.2 := IsS116.below hI4 hb5; have hB5 : Below w.heap.size w w5 := hB4.trans (hb5.mono hB4.size); have hqg : w4.heap.size ≠ g := (Nat.ne_of_lt (blk_lt hI4.1)).symm; have hqr : w4.heap.size ≠ gr := (Nat.ne_of_lt (blk_lt hr4)).symm; have hqle : w.heap.size ≤ w4.heap.size := hB4.size; generalize w4.heap.size = gq at hq5 hqg hqr hqle ⊢
          refine (num_s k g _ x1 w w5 hI5 hB5 HN1.out).mono ?_
          rintro e w6 ⟨rfl, hI6, hB6, hK6⟩
          have hr6 := (hK6.2 gr (blk_lt hr5) hgne (by simp)).trans hr5
          have hq6 := (hK6.2 gq (blk_lt hq5) hqg (by simp)).trans hq5
          have hqz : w6.cell? ⟨gq, 1, none⟩ = some (.int .i64 0) := (blk_cell hq6 1).trans rfl
          have hqf : w6.frozen? ⟨gq, 1, none⟩ = false := blk_frozen hq6 1
          have hq0 : (w6.setCell ⟨gq, 1, none⟩ (.int .i64 x1.1)).cell? ⟨gq, 0, none⟩ = some (.int .i64 x0.1) := (blk_cell (blk_put (cs' := #[.int .i64 x0.1, .int .i64 x1.1, .int .i64 0, .int .i64 0, .int .i64 0, .int .i64 0, .int .i64 0, .int .i64 0, .string (⟨#[]⟩ : ByteArray)]) hq6 1 (.int .i64 x1.1) rfl) 0).trans rfl
          go_wp2_with fail
          have hq7 := blk_put (cs' := #[.int .i64 x0.1, .int .i64 x1.1, .int .i64 0, .int .i64 0, .int .i64 0, .int .i64 0, .int .i64 0, .int .i64 0, .string (⟨#[]⟩ : ByteArray)]) hq6 1 (.int .i64 x1.1) rfl
          have hr7 := blk_far hr6 (p := ⟨gq, 1, none⟩) hqr.symm (.int .i64 x1.1)
          have hI7 : IsQ w (w6.setCell ⟨gq, 1, none⟩ (.int .i64 x1.1)) g x1.2 := ⟨blk_far hI6.1 (p := ⟨gq, 1, none⟩) hqg.symm (.int .i64 x1.1), hI6.2⟩
          have hB7 := below_set (j := 1) (v := .int .i64 x1.1) hB6 hqle
          clear hqz hqf hq0
          generalize w6.setCell ⟨gq, 1, none⟩ (.int .i64 x1.1) = w7 at hq7 hr7 hI7 hB7 ⊢
          refine (num_s k g _ x2 w w7 hI7 hB7 HN2.out).mono ?_
          rintro e w8 ⟨rfl, hI8, hB8, hK8⟩
          have hr8 := (hK8.2 gr (blk_lt hr7) hgne (by simp)).trans hr7
          have hq8 := (hK8.2 gq (blk_lt hq7) hqg (by simp)).trans hq7
          have hqz : w8.cell? ⟨gq, 2, none⟩ = some (.int .i64 0) := (blk_cell hq8 2).trans rfl
          have hqf : w8.frozen? ⟨gq, 2, none⟩ = false := blk_frozen hq8 2
          have hq0 : (w8.setCell ⟨gq, 2, none⟩ (.int .i64 x2.1)).cell? ⟨gq, 0, none⟩ = some (.int .i64 x0.1) := (blk_cell (blk_put (cs' := #[.int .i64 x0.1, .int .i64 x1.1, .int .i64 x2.1, .int .i64 0, .int .i64 0, .int .i64 0, .int .i64 0, .int .i64 0, .string (⟨#[]⟩ : ByteArray)]) hq8 2 (.int .i64 x2.1) rfl) 0).trans rfl
          go_wp2_with fail
          have hq9 := blk_put (cs' := #[.int .i64 x0.1, .int .i64 x1.1, .int .i64 x2.1, .int .i64 0, .int .i64 0, .int .i64 0, .int .i64 0, .int .i64 0, .string (⟨#[]⟩ : ByteArray)]) hq8 2 (.int .i64 x2.1) rfl
          have hr9 := blk_far hr8 (p := ⟨gq, 2, none⟩) hqr.symm (.int .i64 x2.1)
          have hI9 : IsQ w (w8.setCell ⟨gq, 2, none⟩ (.int .i64 x2.1)) g x2.2 := ⟨blk_far hI8.1 (p := ⟨gq, 2, none⟩) hqg.symm (.int .i64 x2.1), hI8.2⟩
          have hB9 := below_set (j := 2) (v := .int .i64 x2.1) hB8 hqle
          clear hqz hqf hq0
          generalize w8.setCell ⟨gq, 2, none⟩ (.int .i64 x2.1) = w9 at hq9 hr9 hI9 hB9 ⊢
          refine (num_s k g _ x3 w w9 hI9 hB9 HN3.out).mono ?_
          rintro e w10 ⟨rfl, hI10, hB10, hK10⟩
          have hr10 := (hK10.2 gr (blk_lt hr9) hgne (by simp)).trans hr9
          have hq10 := (hK10.2 gq (blk_lt hq9) hqg (by simp)).trans hq9
          have hqz : w10.cell? ⟨gq, 3, none⟩ = some (.int .i64 0) := (blk_cell hq10 3).trans rfl
          have hqf : w10.frozen? ⟨gq, 3, none⟩ = false := blk_frozen hq10 3
          have hq0 : (w10.setCell ⟨gq, 3, none⟩ (.int .i64 x3.1)).cell? ⟨gq, 0, none⟩ = some (.int .i64 x0.1) := (blk_cell (blk_put (cs' := #[.int .i64 x0.1, .int .i64 x1.1, .int .i64 x2.1, .int .i64 x3.1, .int .i64 0, .int .i64 0, .int .i64 0, .int .i64 0, .string (⟨#[]⟩ : ByteArray)]) hq10 3 (.int .i64 x3.1) rfl) 0).trans rfl
          go_wp2_with fail
          have hq11 := blk_put (cs' := #[.int .i64 x0.1, .int .i64 x1.1, .int .i64 x2.1, .int .i64 x3.1, .int .i64 0, .int .i64 0, .int .i64 0, .int .i64 0, .string (⟨#[]⟩ : ByteArray)]) hq10 3 (.int .i64 x3.1) rfl
          have hr11 := blk_far hr10 (p := ⟨gq, 3, none⟩) hqr.symm (.int .i64 x3.1)
          have hI11 : IsQ w (w10.setCell ⟨gq, 3, none⟩ (.int .i64 x3.1)) g x3.2 := ⟨blk_far hI10.1 (p := ⟨gq, 3, none⟩) hqg.symm (.int .i64 x3.1), hI10.2⟩
          have hB11 := below_set (j := 3) (v := .int .i64 x3.1) hB10 hqle
          clear hqz hqf hq0
          generalize w10.setCell ⟨gq, 3, none⟩ (.int .i64 x3.1) = w11 at hq11 hr11 hI11 hB11 ⊢
          refine (end_s g _ y w w11 hI11 hB11 HY.out).mono ?_
          rintro e v8 ⟨rfl, hI8', hB8', hK8'⟩
          have kr8 := (hK8'.2 gr (blk_lt hr11) hgne (by simp)).trans hr11
          have kq8 := (hK8'.2 gq (blk_lt hq11) hqg (by simp)).trans hq11
          have hqz_0 : v8.cell? ⟨gq, 0, none⟩ = some (.int .i64 x0.1) := (blk_cell kq8 0).trans rfl
          have hqz_1 : v8.cell? ⟨gq, 1, none⟩ = some (.int .i64 x1.1) := (blk_cell kq8 1).trans rfl
          have hqz_2 : v8.cell? ⟨gq, 2, none⟩ = some (.int .i64 x2.1) := (blk_cell kq8 2).trans rfl
          have hqz_3 : v8.cell? ⟨gq, 3, none⟩ = some (.int .i64 x3.1) := (blk_cell kq8 3).trans rfl
          have hqz_4 : v8.cell? ⟨gq, 4, none⟩ = some (.int .i64 0) := (blk_cell kq8 4).trans rfl
          have hqz_5 : v8.cell? ⟨gq, 5, none⟩ = some (.int .i64 0) := (blk_cell kq8 5).trans rfl
          have hqz_6 : v8.cell? ⟨gq, 6, none⟩ = some (.int .i64 0) := (blk_cell kq8 6).trans rfl
          have hqz_7 : v8.cell? ⟨gq, 7, none⟩ = some (.int .i64 0) := (blk_cell kq8 7).trans rfl
          have hqz_8 : v8.cell? ⟨gq, 8, none⟩ = some (.string (⟨#[]⟩ : ByteArray)) := (blk_cell kq8 8).trans rfl
          have hrz_0 : v8.cell? ⟨gr, 0, none⟩ = some (.int .i64 0) := (blk_cell kr8 0).trans rfl
          have hrf_0 : v8.frozen? ⟨gr, 0, none⟩ = false := blk_frozen kr8 0
          have hrz_1 : v8.cell? ⟨gr, 1, none⟩ = some (.int .i64 0) := (blk_cell kr8 1).trans rfl
          have hrf_1 : v8.frozen? ⟨gr, 1, none⟩ = false := blk_frozen kr8 1
          have hrz_2 : v8.cell? ⟨gr, 2, none⟩ = some (.int .i64 0) := (blk_cell kr8 2).trans rfl
          have hrf_2 : v8.frozen? ⟨gr, 2, none⟩ = false := blk_frozen kr8 2
          have hrz_3 : v8.cell? ⟨gr, 3, none⟩ = some (.int .i64 0) := (blk_cell kr8 3).trans rfl
          have hrf_3 : v8.frozen? ⟨gr, 3, none⟩ = false := blk_frozen kr8 3
          have hrz_4 : v8.cell? ⟨gr, 4, none⟩ = some (.int .i64 0) := (blk_cell kr8 4).trans rfl
          have hrf_4 : v8.frozen? ⟨gr, 4, none⟩ = false := blk_frozen kr8 4
          have hrz_5 : v8.cell? ⟨gr, 5, none⟩ = some (.int .i64 0) := (blk_cell kr8 5).trans rfl
          have hrf_5 : v8.frozen? ⟨gr, 5, none⟩ = false := blk_frozen kr8 5
          have hrz_6 : v8.cell? ⟨gr, 6, none⟩ = some (.int .i64 0) := (blk_cell kr8 6).trans rfl
          have hrf_6 : v8.frozen? ⟨gr, 6, none⟩ = false := blk_frozen kr8 6
          have hrz_7 : v8.cell? ⟨gr, 7, none⟩ = some (.int .i64 0) := (blk_cell kr8 7).trans rfl
          have hrf_7 : v8.frozen? ⟨gr, 7, none⟩ = false := blk_frozen kr8 7
          have hrz_8 : v8.cell? ⟨gr, 8, none⟩ = some (.string (⟨#[]⟩ : ByteArray)) := (blk_cell kr8 8).trans rfl
          have hrf_8 : v8.frozen? ⟨gr, 8, none⟩ = false := blk_frozen kr8 8
          go_wp2_with (first | ((with_reducible refine gate_callee (f := 60) rfl ?_); refine goesL_ (some 63) rfl rfl Try.func60 (by kernel_rfl) rfl #[.agg #[.int .i64 x0.1, .int .i64 x1.1, .int .i64 x2.1, .int .i64 x3.1, .int .i64 0, .int .i64 0, .int .i64 0, .int .i64 0, .string (⟨#[]⟩ : ByteArray)]] rfl (by (try simp only [List.map_toArray, List.map_cons, List.map_nil]); first | done | rfl) ?_; (with_reducible refine (spec_RequestOK.calls k x0.1 x1.1 x2.1 x3.1 0 0 0 0 _ true _ HBB.out).mono ?_); rintro e v9 ⟨rfl, hb9⟩; refine ⟨_, rfl, ?_⟩; have kr9 := blk_below kr8 hb9; have kq9 := blk_below kq8 hb9; have hB9 : Below w.heap.size w v9 := hB8'.trans (hb9.mono hB8'.size); (try clear hqz_0 hqz_1 hqz_2 hqz_3 hqz_4 hqz_5 hqz_6 hqz_7 hqz_8); (try clear hqf_0 hqf_1 hqf_2 hqf_3 hqf_4 hqf_5 hqf_6 hqf_7 hqf_8); (try clear hrz_0 hrz_1 hrz_2 hrz_3 hrz_4 hrz_5 hrz_6 hrz_7 hrz_8); (try clear hrf_0 hrf_1 hrf_2 hrf_3 hrf_4 hrf_5 hrf_6 hrf_7 hrf_8); have hqz_0 : v9.cell? ⟨gq, 0, none⟩ = some (.int .i64 x0.1) := (blk_cell kq9 0).trans rfl; have hqz_1 : v9.cell? ⟨gq, 1, none⟩ = some (.int .i64 x1.1) := (blk_cell kq9 1).trans rfl; have hqz_2 : v9.cell? ⟨gq, 2, none⟩ = some (.int .i64 x2.1) := (blk_cell kq9 2).trans rfl; have hqz_3 : v9.cell? ⟨gq, 3, none⟩ = some (.int .i64 x3.1) := (blk_cell kq9 3).trans rfl; have hqz_4 : v9.cell? ⟨gq, 4, none⟩ = some (.int .i64 0) := (blk_cell kq9 4).trans rfl; have hqz_5 : v9.cell? ⟨gq, 5, none⟩ = some (.int .i64 0) := (blk_cell kq9 5).trans rfl; have hqz_6 : v9.cell? ⟨gq, 6, none⟩ = some (.int .i64 0) := (blk_cell kq9 6).trans rfl; have hqz_7 : v9.cell? ⟨gq, 7, none⟩ = some (.int .i64 0) := (blk_cell kq9 7).trans rfl; have hqz_8 : v9.cell? ⟨gq, 8, none⟩ = some (.string (⟨#[]⟩ : ByteArray)) := (blk_cell kq9 8).trans rfl; have hrz_0 : v9.cell? ⟨gr, 0, none⟩ = some (.int .i64 0) := (blk_cell kr9 0).trans rfl; have hrf_0 : v9.frozen? ⟨gr, 0, none⟩ = false := blk_frozen kr9 0; have hrz_1 : v9.cell? ⟨gr, 1, none⟩ = some (.int .i64 0) := (blk_cell kr9 1).trans rfl; have hrf_1 : v9.frozen? ⟨gr, 1, none⟩ = false := blk_frozen kr9 1; have hrz_2 : v9.cell? ⟨gr, 2, none⟩ = some (.int .i64 0) := (blk_cell kr9 2).trans rfl; have hrf_2 : v9.frozen? ⟨gr, 2, none⟩ = false := blk_frozen kr9 2; have hrz_3 : v9.cell? ⟨gr, 3, none⟩ = some (.int .i64 0) := (blk_cell kr9 3).trans rfl; have hrf_3 : v9.frozen? ⟨gr, 3, none⟩ = false := blk_frozen kr9 3; have hrz_4 : v9.cell? ⟨gr, 4, none⟩ = some (.int .i64 0) := (blk_cell kr9 4).trans rfl; have hrf_4 : v9.frozen? ⟨gr, 4, none⟩ = false := blk_frozen kr9 4; have hrz_5 : v9.cell? ⟨gr, 5, none⟩ = some (.int .i64 0) := (blk_cell kr9 5).trans rfl; have hrf_5 : v9.frozen? ⟨gr, 5, none⟩ = false := blk_frozen kr9 5; have hrz_6 : v9.cell? ⟨gr, 6, none⟩ = some (.int .i64 0) := (blk_cell kr9 6).trans rfl; have hrf_6 : v9.frozen? ⟨gr, 6, none⟩ = false := blk_frozen kr9 6; have hrz_7 : v9.cell? ⟨gr, 7, none⟩ = some (.int .i64 0) := (blk_cell kr9 7).trans rfl; have hrf_7 : v9.frozen? ⟨gr, 7, none⟩ = false := blk_frozen kr9 7; have hrz_8 : v9.cell? ⟨gr, 8, none⟩ = some (.string (⟨#[]⟩ : ByteArray)) := (blk_cell kr9 8).trans rfl; have hrf_8 : v9.frozen? ⟨gr, 8, none⟩ = false := blk_frozen kr9 8))
          refine bodyPost_ret (results_ct rfl _ _ gr 44 #[.int .i64 x0.1, .int .i64 x1.1, .int .i64 x2.1, .int .i64 x3.1, .int .i64 0, .int .i64 0, .int .i64 0, .int .i64 0, .string (⟨#[]⟩ : ByteArray)] (0, 0) _ rfl (st9 kr9 _ _ _ _ _ _ _ _ _) Try.underlying44 rfl (by kernel_rfl)) rfl ?_
          exact ⟨rfl, st9_below hB9 GR.out _ _ _ _ _ _ _ _ _⟩
        | false =>
          rw [if_neg (by simp)] at h
          simp only [noRq, Option.some.injEq, Prod.mk.injEq] at h
          obtain ⟨rfl, rfl, rfl, rfl, rfl, rfl, rfl, rfl, rfl, rfl⟩ := h
          go_enter Try.func79, Try.ntmps79
          go_wp2_with (first | ((with_reducible refine gate_dst (N := 2) rfl ?_); refine box_event ?hg (N := 2) ?hd (cs := #[.int .i64 0, .int .i64 0, .int .i64 0, .int .i64 0, .int .i64 0, .int .i64 0, .int .i64 0, .int .i64 0, .string (⟨#[]⟩ : ByteArray)]) (t := 44) ?hr ?_; (case hd => rfl); (case hg => rfl); (case hr => first | (go_simp; done) | (go_simp; rfl)); intro gr hgr w1 hr1 hb1; have GR := Lib.hid (show w.heap.size ≤ gr from Nat.le_of_eq hgr.symm); clear hgr))
          refine (spec_l01ReadFrame.calls k t body code w1 HR.out).mono ?_
          rintro e w2 ⟨rfl, hd2⟩
          have hb2 := hd2.below
          have hr2 := blk_below hr1 hb2
          have hB2 : Below w.heap.size w w2 := hb1.trans (hb2.mono hb1.size)
          go_wp2_with (first | ((with_reducible refine gate_dst (N := 20) rfl ?_); refine box_event ?hg (N := 20) ?hd (cs := #[.string body, .int .i64 0, .int .i64 0]) (t := 116) ?hr ?_; (case hd => rfl); (case hg => rfl); (case hr => first | (go_simp; done) | (go_simp; rfl)); intro g hgg w3 hR hb3; have hr3 := blk_below hr2 hb3; have hB3 : Below w.heap.size w w3 := hB2.trans (hb3.mono hB2.size); have hgne : gr ≠ g := Nat.ne_of_lt (by rw [hgg]; exact blk_lt hr2); have hI3 : IsQ w w3 g (body, 0, 0) := ⟨hR, by rw [hgg]; exact hB2.size⟩; clear hgg))
          refine (num_s k g _ x0 w w3 hI3 hB3 HN0.out).mono ?_
          rintro e w4 ⟨rfl, hI4, hB4, hK4⟩
          have hr4 := (hK4.2 gr (blk_lt hr3) hgne (by simp)).trans hr3
          go_wp2_with fail
          generalize hw5 : w4.alloc _ = w5; have hb5 : Below w4.heap.size w4 w5 := (by rw [← hw5]; exact (Below.refl _ _).alloc (Nat.le_refl _) _); have hq5 : w5.heap[w4.heap.size]? = some (.cells #[.int .i64 x0.1, .int .i64 0, .int .i64 0, .int .i64 0, .int .i64 0, .int .i64 0, .int .i64 0, .int .i64 0, .string (⟨#[]⟩ : ByteArray)] 44 (0, 0)) := (by rw [← hw5]; exact heap_alloc_new _ _); clear hw5; have hr5 := blk_below hr4 hb5; have hI5 : IsQ w w5 g x0.2 := IsS116.below hI4 hb5; have hB5 : Below w.heap.size w w5 := hB4.trans (hb5.mono hB4.size); have hqg : w4.heap.size ≠ g := (Nat.ne_of_lt (blk_lt hI4.1)).symm; have hqr : w4.heap.size ≠ gr := (Nat.ne_of_lt (blk_lt hr4)).symm; have hqle : w.heap.size ≤ w4.heap.size := hB4.size; generalize w4.heap.size = gq at hq5 hqg hqr hqle ⊢
          refine (num_s k g _ x1 w w5 hI5 hB5 HN1.out).mono ?_
          rintro e w6 ⟨rfl, hI6, hB6, hK6⟩
          have hr6 := (hK6.2 gr (blk_lt hr5) hgne (by simp)).trans hr5
          have hq6 := (hK6.2 gq (blk_lt hq5) hqg (by simp)).trans hq5
          have hqz : w6.cell? ⟨gq, 1, none⟩ = some (.int .i64 0) := (blk_cell hq6 1).trans rfl
          have hqf : w6.frozen? ⟨gq, 1, none⟩ = false := blk_frozen hq6 1
          have hq0 : (w6.setCell ⟨gq, 1, none⟩ (.int .i64 x1.1)).cell? ⟨gq, 0, none⟩ = some (.int .i64 x0.1) := (blk_cell (blk_put (cs' := #[.int .i64 x0.1, .int .i64 x1.1, .int .i64 0, .int .i64 0, .int .i64 0, .int .i64 0, .int .i64 0, .int .i64 0, .string (⟨#[]⟩ : ByteArray)]) hq6 1 (.int .i64 x1.1) rfl) 0).trans rfl
          go_wp2_with fail
          have hq7 := blk_put (cs' := #[.int .i64 x0.1, .int .i64 x1.1, .int .i64 0, .int .i64 0, .int .i64 0, .int .i64 0, .int .i64 0, .int .i64 0, .string (⟨#[]⟩ : ByteArray)]) hq6 1 (.int .i64 x1.1) rfl
          have hr7 := blk_far hr6 (p := ⟨gq, 1, none⟩) hqr.symm (.int .i64 x1.1)
          have hI7 : IsQ w (w6.setCell ⟨gq, 1, none⟩ (.int .i64 x1.1)) g x1.2 := ⟨blk_far hI6.1 (p := ⟨gq, 1, none⟩) hqg.symm (.int .i64 x1.1), hI6.2⟩
          have hB7 := below_set (j := 1) (v := .int .i64 x1.1) hB6 hqle
          clear hqz hqf hq0
          generalize w6.setCell ⟨gq, 1, none⟩ (.int .i64 x1.1) = w7 at hq7 hr7 hI7 hB7 ⊢
          refine (num_s k g _ x2 w w7 hI7 hB7 HN2.out).mono ?_
          rintro e w8 ⟨rfl, hI8, hB8, hK8⟩
          have hr8 := (hK8.2 gr (blk_lt hr7) hgne (by simp)).trans hr7
          have hq8 := (hK8.2 gq (blk_lt hq7) hqg (by simp)).trans hq7
          have hqz : w8.cell? ⟨gq, 2, none⟩ = some (.int .i64 0) := (blk_cell hq8 2).trans rfl
          have hqf : w8.frozen? ⟨gq, 2, none⟩ = false := blk_frozen hq8 2
          have hq0 : (w8.setCell ⟨gq, 2, none⟩ (.int .i64 x2.1)).cell? ⟨gq, 0, none⟩ = some (.int .i64 x0.1) := (blk_cell (blk_put (cs' := #[.int .i64 x0.1, .int .i64 x1.1, .int .i64 x2.1, .int .i64 0, .int .i64 0, .int .i64 0, .int .i64 0, .int .i64 0, .string (⟨#[]⟩ : ByteArray)]) hq8 2 (.int .i64 x2.1) rfl) 0).trans rfl
          go_wp2_with fail
          have hq9 := blk_put (cs' := #[.int .i64 x0.1, .int .i64 x1.1, .int .i64 x2.1, .int .i64 0, .int .i64 0, .int .i64 0, .int .i64 0, .int .i64 0, .string (⟨#[]⟩ : ByteArray)]) hq8 2 (.int .i64 x2.1) rfl
          have hr9 := blk_far hr8 (p := ⟨gq, 2, none⟩) hqr.symm (.int .i64 x2.1)
          have hI9 : IsQ w (w8.setCell ⟨gq, 2, none⟩ (.int .i64 x2.1)) g x2.2 := ⟨blk_far hI8.1 (p := ⟨gq, 2, none⟩) hqg.symm (.int .i64 x2.1), hI8.2⟩
          have hB9 := below_set (j := 2) (v := .int .i64 x2.1) hB8 hqle
          clear hqz hqf hq0
          generalize w8.setCell ⟨gq, 2, none⟩ (.int .i64 x2.1) = w9 at hq9 hr9 hI9 hB9 ⊢
          refine (num_s k g _ x3 w w9 hI9 hB9 HN3.out).mono ?_
          rintro e w10 ⟨rfl, hI10, hB10, hK10⟩
          have hr10 := (hK10.2 gr (blk_lt hr9) hgne (by simp)).trans hr9
          have hq10 := (hK10.2 gq (blk_lt hq9) hqg (by simp)).trans hq9
          have hqz : w10.cell? ⟨gq, 3, none⟩ = some (.int .i64 0) := (blk_cell hq10 3).trans rfl
          have hqf : w10.frozen? ⟨gq, 3, none⟩ = false := blk_frozen hq10 3
          have hq0 : (w10.setCell ⟨gq, 3, none⟩ (.int .i64 x3.1)).cell? ⟨gq, 0, none⟩ = some (.int .i64 x0.1) := (blk_cell (blk_put (cs' := #[.int .i64 x0.1, .int .i64 x1.1, .int .i64 x2.1, .int .i64 x3.1, .int .i64 0, .int .i64 0, .int .i64 0, .int .i64 0, .string (⟨#[]⟩ : ByteArray)]) hq10 3 (.int .i64 x3.1) rfl) 0).trans rfl
          go_wp2_with fail
          have hq11 := blk_put (cs' := #[.int .i64 x0.1, .int .i64 x1.1, .int .i64 x2.1, .int .i64 x3.1, .int .i64 0, .int .i64 0, .int .i64 0, .int .i64 0, .string (⟨#[]⟩ : ByteArray)]) hq10 3 (.int .i64 x3.1) rfl
          have hr11 := blk_far hr10 (p := ⟨gq, 3, none⟩) hqr.symm (.int .i64 x3.1)
          have hI11 : IsQ w (w10.setCell ⟨gq, 3, none⟩ (.int .i64 x3.1)) g x3.2 := ⟨blk_far hI10.1 (p := ⟨gq, 3, none⟩) hqg.symm (.int .i64 x3.1), hI10.2⟩
          have hB11 := below_set (j := 3) (v := .int .i64 x3.1) hB10 hqle
          clear hqz hqf hq0
          generalize w10.setCell ⟨gq, 3, none⟩ (.int .i64 x3.1) = w11 at hq11 hr11 hI11 hB11 ⊢
          refine (end_s g _ y w w11 hI11 hB11 HY.out).mono ?_
          rintro e v8 ⟨rfl, hI8', hB8', hK8'⟩
          have kr8 := (hK8'.2 gr (blk_lt hr11) hgne (by simp)).trans hr11
          have kq8 := (hK8'.2 gq (blk_lt hq11) hqg (by simp)).trans hq11
          have hqz_0 : v8.cell? ⟨gq, 0, none⟩ = some (.int .i64 x0.1) := (blk_cell kq8 0).trans rfl
          have hqz_1 : v8.cell? ⟨gq, 1, none⟩ = some (.int .i64 x1.1) := (blk_cell kq8 1).trans rfl
          have hqz_2 : v8.cell? ⟨gq, 2, none⟩ = some (.int .i64 x2.1) := (blk_cell kq8 2).trans rfl
          have hqz_3 : v8.cell? ⟨gq, 3, none⟩ = some (.int .i64 x3.1) := (blk_cell kq8 3).trans rfl
          have hqz_4 : v8.cell? ⟨gq, 4, none⟩ = some (.int .i64 0) := (blk_cell kq8 4).trans rfl
          have hqz_5 : v8.cell? ⟨gq, 5, none⟩ = some (.int .i64 0) := (blk_cell kq8 5).trans rfl
          have hqz_6 : v8.cell? ⟨gq, 6, none⟩ = some (.int .i64 0) := (blk_cell kq8 6).trans rfl
          have hqz_7 : v8.cell? ⟨gq, 7, none⟩ = some (.int .i64 0) := (blk_cell kq8 7).trans rfl
          have hqz_8 : v8.cell? ⟨gq, 8, none⟩ = some (.string (⟨#[]⟩ : ByteArray)) := (blk_cell kq8 8).trans rfl
          have hrz_0 : v8.cell? ⟨gr, 0, none⟩ = some (.int .i64 0) := (blk_cell kr8 0).trans rfl
          have hrf_0 : v8.frozen? ⟨gr, 0, none⟩ = false := blk_frozen kr8 0
          have hrz_1 : v8.cell? ⟨gr, 1, none⟩ = some (.int .i64 0) := (blk_cell kr8 1).trans rfl
          have hrf_1 : v8.frozen? ⟨gr, 1, none⟩ = false := blk_frozen kr8 1
          have hrz_2 : v8.cell? ⟨gr, 2, none⟩ = some (.int .i64 0) := (blk_cell kr8 2).trans rfl
          have hrf_2 : v8.frozen? ⟨gr, 2, none⟩ = false := blk_frozen kr8 2
          have hrz_3 : v8.cell? ⟨gr, 3, none⟩ = some (.int .i64 0) := (blk_cell kr8 3).trans rfl
          have hrf_3 : v8.frozen? ⟨gr, 3, none⟩ = false := blk_frozen kr8 3
          have hrz_4 : v8.cell? ⟨gr, 4, none⟩ = some (.int .i64 0) := (blk_cell kr8 4).trans rfl
          have hrf_4 : v8.frozen? ⟨gr, 4, none⟩ = false := blk_frozen kr8 4
          have hrz_5 : v8.cell? ⟨gr, 5, none⟩ = some (.int .i64 0) := (blk_cell kr8 5).trans rfl
          have hrf_5 : v8.frozen? ⟨gr, 5, none⟩ = false := blk_frozen kr8 5
          have hrz_6 : v8.cell? ⟨gr, 6, none⟩ = some (.int .i64 0) := (blk_cell kr8 6).trans rfl
          have hrf_6 : v8.frozen? ⟨gr, 6, none⟩ = false := blk_frozen kr8 6
          have hrz_7 : v8.cell? ⟨gr, 7, none⟩ = some (.int .i64 0) := (blk_cell kr8 7).trans rfl
          have hrf_7 : v8.frozen? ⟨gr, 7, none⟩ = false := blk_frozen kr8 7
          have hrz_8 : v8.cell? ⟨gr, 8, none⟩ = some (.string (⟨#[]⟩ : ByteArray)) := (blk_cell kr8 8).trans rfl
          have hrf_8 : v8.frozen? ⟨gr, 8, none⟩ = false := blk_frozen kr8 8
          go_wp2_with (first | ((with_reducible refine gate_callee (f := 60) rfl ?_); refine goesL_ (some 63) rfl rfl Try.func60 (by kernel_rfl) rfl #[.agg #[.int .i64 x0.1, .int .i64 x1.1, .int .i64 x2.1, .int .i64 x3.1, .int .i64 0, .int .i64 0, .int .i64 0, .int .i64 0, .string (⟨#[]⟩ : ByteArray)]] rfl (by (try simp only [List.map_toArray, List.map_cons, List.map_nil]); first | done | rfl) ?_; (with_reducible refine (spec_RequestOK.calls k x0.1 x1.1 x2.1 x3.1 0 0 0 0 _ false _ HBB.out).mono ?_); rintro e v9 ⟨rfl, hb9⟩; refine ⟨_, rfl, ?_⟩; have kr9 := blk_below kr8 hb9; have kq9 := blk_below kq8 hb9; have hB9 : Below w.heap.size w v9 := hB8'.trans (hb9.mono hB8'.size); (try clear hqz_0 hqz_1 hqz_2 hqz_3 hqz_4 hqz_5 hqz_6 hqz_7 hqz_8); (try clear hqf_0 hqf_1 hqf_2 hqf_3 hqf_4 hqf_5 hqf_6 hqf_7 hqf_8); (try clear hrz_0 hrz_1 hrz_2 hrz_3 hrz_4 hrz_5 hrz_6 hrz_7 hrz_8); (try clear hrf_0 hrf_1 hrf_2 hrf_3 hrf_4 hrf_5 hrf_6 hrf_7 hrf_8); have hqz_0 : v9.cell? ⟨gq, 0, none⟩ = some (.int .i64 x0.1) := (blk_cell kq9 0).trans rfl; have hqz_1 : v9.cell? ⟨gq, 1, none⟩ = some (.int .i64 x1.1) := (blk_cell kq9 1).trans rfl; have hqz_2 : v9.cell? ⟨gq, 2, none⟩ = some (.int .i64 x2.1) := (blk_cell kq9 2).trans rfl; have hqz_3 : v9.cell? ⟨gq, 3, none⟩ = some (.int .i64 x3.1) := (blk_cell kq9 3).trans rfl; have hqz_4 : v9.cell? ⟨gq, 4, none⟩ = some (.int .i64 0) := (blk_cell kq9 4).trans rfl; have hqz_5 : v9.cell? ⟨gq, 5, none⟩ = some (.int .i64 0) := (blk_cell kq9 5).trans rfl; have hqz_6 : v9.cell? ⟨gq, 6, none⟩ = some (.int .i64 0) := (blk_cell kq9 6).trans rfl; have hqz_7 : v9.cell? ⟨gq, 7, none⟩ = some (.int .i64 0) := (blk_cell kq9 7).trans rfl; have hqz_8 : v9.cell? ⟨gq, 8, none⟩ = some (.string (⟨#[]⟩ : ByteArray)) := (blk_cell kq9 8).trans rfl; have hrz_0 : v9.cell? ⟨gr, 0, none⟩ = some (.int .i64 0) := (blk_cell kr9 0).trans rfl; have hrf_0 : v9.frozen? ⟨gr, 0, none⟩ = false := blk_frozen kr9 0; have hrz_1 : v9.cell? ⟨gr, 1, none⟩ = some (.int .i64 0) := (blk_cell kr9 1).trans rfl; have hrf_1 : v9.frozen? ⟨gr, 1, none⟩ = false := blk_frozen kr9 1; have hrz_2 : v9.cell? ⟨gr, 2, none⟩ = some (.int .i64 0) := (blk_cell kr9 2).trans rfl; have hrf_2 : v9.frozen? ⟨gr, 2, none⟩ = false := blk_frozen kr9 2; have hrz_3 : v9.cell? ⟨gr, 3, none⟩ = some (.int .i64 0) := (blk_cell kr9 3).trans rfl; have hrf_3 : v9.frozen? ⟨gr, 3, none⟩ = false := blk_frozen kr9 3; have hrz_4 : v9.cell? ⟨gr, 4, none⟩ = some (.int .i64 0) := (blk_cell kr9 4).trans rfl; have hrf_4 : v9.frozen? ⟨gr, 4, none⟩ = false := blk_frozen kr9 4; have hrz_5 : v9.cell? ⟨gr, 5, none⟩ = some (.int .i64 0) := (blk_cell kr9 5).trans rfl; have hrf_5 : v9.frozen? ⟨gr, 5, none⟩ = false := blk_frozen kr9 5; have hrz_6 : v9.cell? ⟨gr, 6, none⟩ = some (.int .i64 0) := (blk_cell kr9 6).trans rfl; have hrf_6 : v9.frozen? ⟨gr, 6, none⟩ = false := blk_frozen kr9 6; have hrz_7 : v9.cell? ⟨gr, 7, none⟩ = some (.int .i64 0) := (blk_cell kr9 7).trans rfl; have hrf_7 : v9.frozen? ⟨gr, 7, none⟩ = false := blk_frozen kr9 7; have hrz_8 : v9.cell? ⟨gr, 8, none⟩ = some (.string (⟨#[]⟩ : ByteArray)) := (blk_cell kr9 8).trans rfl; have hrf_8 : v9.frozen? ⟨gr, 8, none⟩ = false := blk_frozen kr9 8))
          refine bodyPost_ret (results_ct rfl _ _ gr 44 #[.int .i64 0, .int .i64 0, .int .i64 0, .int .i64 0, .int .i64 0, .int .i64 0, .int .i64 0, .int .i64 0, .string (⟨#[]⟩ : ByteArray)] (0, 0) _ rfl (st9 kr9 _ _ _ _ _ _ _ _ _) Try.underlying44 rfl (by kernel_rfl)) rfl ?_
          exact ⟨rfl, st9_below hB9 GR.out _ _ _ _ _ _ _ _ _⟩
      · rw [if_neg cy] at h
        simp only [noRq, Option.some.injEq, Prod.mk.injEq] at h
        obtain ⟨rfl, rfl, rfl, rfl, rfl, rfl, rfl, rfl, rfl, rfl⟩ := h
        have cyb : (y.1 != 0) = true := bne_iff_ne.mpr cy
        clear cy
        go_enter Try.func79, Try.ntmps79
        go_wp2_with (first | ((with_reducible refine gate_dst (N := 2) rfl ?_); refine box_event ?hg (N := 2) ?hd (cs := #[.int .i64 0, .int .i64 0, .int .i64 0, .int .i64 0, .int .i64 0, .int .i64 0, .int .i64 0, .int .i64 0, .string (⟨#[]⟩ : ByteArray)]) (t := 44) ?hr ?_; (case hd => rfl); (case hg => rfl); (case hr => first | (go_simp; done) | (go_simp; rfl)); intro gr hgr w1 hr1 hb1; have GR := Lib.hid (show w.heap.size ≤ gr from Nat.le_of_eq hgr.symm); clear hgr))
        refine (spec_l01ReadFrame.calls k t body code w1 HR.out).mono ?_
        rintro e w2 ⟨rfl, hd2⟩
        have hb2 := hd2.below
        have hr2 := blk_below hr1 hb2
        have hB2 : Below w.heap.size w w2 := hb1.trans (hb2.mono hb1.size)
        go_wp2_with (first | ((with_reducible refine gate_dst (N := 20) rfl ?_); refine box_event ?hg (N := 20) ?hd (cs := #[.string body, .int .i64 0, .int .i64 0]) (t := 116) ?hr ?_; (case hd => rfl); (case hg => rfl); (case hr => first | (go_simp; done) | (go_simp; rfl)); intro g hgg w3 hR hb3; have hr3 := blk_below hr2 hb3; have hB3 : Below w.heap.size w w3 := hB2.trans (hb3.mono hB2.size); have hgne : gr ≠ g := Nat.ne_of_lt (by rw [hgg]; exact blk_lt hr2); have hI3 : IsQ w w3 g (body, 0, 0) := ⟨hR, by rw [hgg]; exact hB2.size⟩; clear hgg))
        refine (num_s k g _ x0 w w3 hI3 hB3 HN0.out).mono ?_
        rintro e w4 ⟨rfl, hI4, hB4, hK4⟩
        have hr4 := (hK4.2 gr (blk_lt hr3) hgne (by simp)).trans hr3
        go_wp2_with fail
        generalize hw5 : w4.alloc _ = w5; have hb5 : Below w4.heap.size w4 w5 := (by rw [← hw5]; exact (Below.refl _ _).alloc (Nat.le_refl _) _); have hq5 : w5.heap[w4.heap.size]? = some (.cells #[.int .i64 x0.1, .int .i64 0, .int .i64 0, .int .i64 0, .int .i64 0, .int .i64 0, .int .i64 0, .int .i64 0, .string (⟨#[]⟩ : ByteArray)] 44 (0, 0)) := (by rw [← hw5]; exact heap_alloc_new _ _); clear hw5; have hr5 := blk_below hr4 hb5; have hI5 : IsQ w w5 g x0.2 := IsS116.below hI4 hb5; have hB5 : Below w.heap.size w w5 := hB4.trans (hb5.mono hB4.size); have hqg : w4.heap.size ≠ g := (Nat.ne_of_lt (blk_lt hI4.1)).symm; have hqr : w4.heap.size ≠ gr := (Nat.ne_of_lt (blk_lt hr4)).symm; have hqle : w.heap.size ≤ w4.heap.size := hB4.size; generalize w4.heap.size = gq at hq5 hqg hqr hqle ⊢
        refine (num_s k g _ x1 w w5 hI5 hB5 HN1.out).mono ?_
        rintro e w6 ⟨rfl, hI6, hB6, hK6⟩
        have hr6 := (hK6.2 gr (blk_lt hr5) hgne (by simp)).trans hr5
        have hq6 := (hK6.2 gq (blk_lt hq5) hqg (by simp)).trans hq5
        have hqz : w6.cell? ⟨gq, 1, none⟩ = some (.int .i64 0) := (blk_cell hq6 1).trans rfl
        have hqf : w6.frozen? ⟨gq, 1, none⟩ = false := blk_frozen hq6 1
        have hq0 : (w6.setCell ⟨gq, 1, none⟩ (.int .i64 x1.1)).cell? ⟨gq, 0, none⟩ = some (.int .i64 x0.1) := (blk_cell (blk_put (cs' := #[.int .i64 x0.1, .int .i64 x1.1, .int .i64 0, .int .i64 0, .int .i64 0, .int .i64 0, .int .i64 0, .int .i64 0, .string (⟨#[]⟩ : ByteArray)]) hq6 1 (.int .i64 x1.1) rfl) 0).trans rfl
        go_wp2_with fail
        have hq7 := blk_put (cs' := #[.int .i64 x0.1, .int .i64 x1.1, .int .i64 0, .int .i64 0, .int .i64 0, .int .i64 0, .int .i64 0, .int .i64 0, .string (⟨#[]⟩ : ByteArray)]) hq6 1 (.int .i64 x1.1) rfl
        have hr7 := blk_far hr6 (p := ⟨gq, 1, none⟩) hqr.symm (.int .i64 x1.1)
        have hI7 : IsQ w (w6.setCell ⟨gq, 1, none⟩ (.int .i64 x1.1)) g x1.2 := ⟨blk_far hI6.1 (p := ⟨gq, 1, none⟩) hqg.symm (.int .i64 x1.1), hI6.2⟩
        have hB7 := below_set (j := 1) (v := .int .i64 x1.1) hB6 hqle
        clear hqz hqf hq0
        generalize w6.setCell ⟨gq, 1, none⟩ (.int .i64 x1.1) = w7 at hq7 hr7 hI7 hB7 ⊢
        refine (num_s k g _ x2 w w7 hI7 hB7 HN2.out).mono ?_
        rintro e w8 ⟨rfl, hI8, hB8, hK8⟩
        have hr8 := (hK8.2 gr (blk_lt hr7) hgne (by simp)).trans hr7
        have hq8 := (hK8.2 gq (blk_lt hq7) hqg (by simp)).trans hq7
        have hqz : w8.cell? ⟨gq, 2, none⟩ = some (.int .i64 0) := (blk_cell hq8 2).trans rfl
        have hqf : w8.frozen? ⟨gq, 2, none⟩ = false := blk_frozen hq8 2
        have hq0 : (w8.setCell ⟨gq, 2, none⟩ (.int .i64 x2.1)).cell? ⟨gq, 0, none⟩ = some (.int .i64 x0.1) := (blk_cell (blk_put (cs' := #[.int .i64 x0.1, .int .i64 x1.1, .int .i64 x2.1, .int .i64 0, .int .i64 0, .int .i64 0, .int .i64 0, .int .i64 0, .string (⟨#[]⟩ : ByteArray)]) hq8 2 (.int .i64 x2.1) rfl) 0).trans rfl
        go_wp2_with fail
        have hq9 := blk_put (cs' := #[.int .i64 x0.1, .int .i64 x1.1, .int .i64 x2.1, .int .i64 0, .int .i64 0, .int .i64 0, .int .i64 0, .int .i64 0, .string (⟨#[]⟩ : ByteArray)]) hq8 2 (.int .i64 x2.1) rfl
        have hr9 := blk_far hr8 (p := ⟨gq, 2, none⟩) hqr.symm (.int .i64 x2.1)
        have hI9 : IsQ w (w8.setCell ⟨gq, 2, none⟩ (.int .i64 x2.1)) g x2.2 := ⟨blk_far hI8.1 (p := ⟨gq, 2, none⟩) hqg.symm (.int .i64 x2.1), hI8.2⟩
        have hB9 := below_set (j := 2) (v := .int .i64 x2.1) hB8 hqle
        clear hqz hqf hq0
        generalize w8.setCell ⟨gq, 2, none⟩ (.int .i64 x2.1) = w9 at hq9 hr9 hI9 hB9 ⊢
        refine (num_s k g _ x3 w w9 hI9 hB9 HN3.out).mono ?_
        rintro e w10 ⟨rfl, hI10, hB10, hK10⟩
        have hr10 := (hK10.2 gr (blk_lt hr9) hgne (by simp)).trans hr9
        have hq10 := (hK10.2 gq (blk_lt hq9) hqg (by simp)).trans hq9
        have hqz : w10.cell? ⟨gq, 3, none⟩ = some (.int .i64 0) := (blk_cell hq10 3).trans rfl
        have hqf : w10.frozen? ⟨gq, 3, none⟩ = false := blk_frozen hq10 3
        have hq0 : (w10.setCell ⟨gq, 3, none⟩ (.int .i64 x3.1)).cell? ⟨gq, 0, none⟩ = some (.int .i64 x0.1) := (blk_cell (blk_put (cs' := #[.int .i64 x0.1, .int .i64 x1.1, .int .i64 x2.1, .int .i64 x3.1, .int .i64 0, .int .i64 0, .int .i64 0, .int .i64 0, .string (⟨#[]⟩ : ByteArray)]) hq10 3 (.int .i64 x3.1) rfl) 0).trans rfl
        go_wp2_with fail
        have hq11 := blk_put (cs' := #[.int .i64 x0.1, .int .i64 x1.1, .int .i64 x2.1, .int .i64 x3.1, .int .i64 0, .int .i64 0, .int .i64 0, .int .i64 0, .string (⟨#[]⟩ : ByteArray)]) hq10 3 (.int .i64 x3.1) rfl
        have hr11 := blk_far hr10 (p := ⟨gq, 3, none⟩) hqr.symm (.int .i64 x3.1)
        have hI11 : IsQ w (w10.setCell ⟨gq, 3, none⟩ (.int .i64 x3.1)) g x3.2 := ⟨blk_far hI10.1 (p := ⟨gq, 3, none⟩) hqg.symm (.int .i64 x3.1), hI10.2⟩
        have hB11 := below_set (j := 3) (v := .int .i64 x3.1) hB10 hqle
        clear hqz hqf hq0
        generalize w10.setCell ⟨gq, 3, none⟩ (.int .i64 x3.1) = w11 at hq11 hr11 hI11 hB11 ⊢
        refine (end_s g _ y w w11 hI11 hB11 HY.out).mono ?_
        rintro e v8 ⟨rfl, hI8', hB8', hK8'⟩
        have kr8 := (hK8'.2 gr (blk_lt hr11) hgne (by simp)).trans hr11
        have kq8 := (hK8'.2 gq (blk_lt hq11) hqg (by simp)).trans hq11
        have hqz_0 : v8.cell? ⟨gq, 0, none⟩ = some (.int .i64 x0.1) := (blk_cell kq8 0).trans rfl
        have hqz_1 : v8.cell? ⟨gq, 1, none⟩ = some (.int .i64 x1.1) := (blk_cell kq8 1).trans rfl
        have hqz_2 : v8.cell? ⟨gq, 2, none⟩ = some (.int .i64 x2.1) := (blk_cell kq8 2).trans rfl
        have hqz_3 : v8.cell? ⟨gq, 3, none⟩ = some (.int .i64 x3.1) := (blk_cell kq8 3).trans rfl
        have hqz_4 : v8.cell? ⟨gq, 4, none⟩ = some (.int .i64 0) := (blk_cell kq8 4).trans rfl
        have hqz_5 : v8.cell? ⟨gq, 5, none⟩ = some (.int .i64 0) := (blk_cell kq8 5).trans rfl
        have hqz_6 : v8.cell? ⟨gq, 6, none⟩ = some (.int .i64 0) := (blk_cell kq8 6).trans rfl
        have hqz_7 : v8.cell? ⟨gq, 7, none⟩ = some (.int .i64 0) := (blk_cell kq8 7).trans rfl
        have hqz_8 : v8.cell? ⟨gq, 8, none⟩ = some (.string (⟨#[]⟩ : ByteArray)) := (blk_cell kq8 8).trans rfl
        have hrz_0 : v8.cell? ⟨gr, 0, none⟩ = some (.int .i64 0) := (blk_cell kr8 0).trans rfl
        have hrf_0 : v8.frozen? ⟨gr, 0, none⟩ = false := blk_frozen kr8 0
        have hrz_1 : v8.cell? ⟨gr, 1, none⟩ = some (.int .i64 0) := (blk_cell kr8 1).trans rfl
        have hrf_1 : v8.frozen? ⟨gr, 1, none⟩ = false := blk_frozen kr8 1
        have hrz_2 : v8.cell? ⟨gr, 2, none⟩ = some (.int .i64 0) := (blk_cell kr8 2).trans rfl
        have hrf_2 : v8.frozen? ⟨gr, 2, none⟩ = false := blk_frozen kr8 2
        have hrz_3 : v8.cell? ⟨gr, 3, none⟩ = some (.int .i64 0) := (blk_cell kr8 3).trans rfl
        have hrf_3 : v8.frozen? ⟨gr, 3, none⟩ = false := blk_frozen kr8 3
        have hrz_4 : v8.cell? ⟨gr, 4, none⟩ = some (.int .i64 0) := (blk_cell kr8 4).trans rfl
        have hrf_4 : v8.frozen? ⟨gr, 4, none⟩ = false := blk_frozen kr8 4
        have hrz_5 : v8.cell? ⟨gr, 5, none⟩ = some (.int .i64 0) := (blk_cell kr8 5).trans rfl
        have hrf_5 : v8.frozen? ⟨gr, 5, none⟩ = false := blk_frozen kr8 5
        have hrz_6 : v8.cell? ⟨gr, 6, none⟩ = some (.int .i64 0) := (blk_cell kr8 6).trans rfl
        have hrf_6 : v8.frozen? ⟨gr, 6, none⟩ = false := blk_frozen kr8 6
        have hrz_7 : v8.cell? ⟨gr, 7, none⟩ = some (.int .i64 0) := (blk_cell kr8 7).trans rfl
        have hrf_7 : v8.frozen? ⟨gr, 7, none⟩ = false := blk_frozen kr8 7
        have hrz_8 : v8.cell? ⟨gr, 8, none⟩ = some (.string (⟨#[]⟩ : ByteArray)) := (blk_cell kr8 8).trans rfl
        have hrf_8 : v8.frozen? ⟨gr, 8, none⟩ = false := blk_frozen kr8 8
        go_wp2
        refine bodyPost_ret (results_ct rfl _ _ gr 44 #[.int .i64 0, .int .i64 0, .int .i64 0, .int .i64 0, .int .i64 0, .int .i64 0, .int .i64 0, .int .i64 0, .string (⟨#[]⟩ : ByteArray)] (0, 0) _ rfl (st9 kr8 _ _ _ _ _ _ _ _ _) Try.underlying44 rfl (by kernel_rfl)) rfl ?_
        exact ⟨rfl, st9_below hB8' GR.out _ _ _ _ _ _ _ _ _⟩
  · rw [if_neg c0] at h
    simp only [noRq, Option.some.injEq, Prod.mk.injEq] at h
    obtain ⟨rfl, rfl, rfl, rfl, rfl, rfl, rfl, rfl, rfl, rfl⟩ := h
    have c0b : (code != 0) = true := bne_iff_ne.mpr c0
    clear c0
    go_enter Try.func79, Try.ntmps79
    go_wp2_with (first | ((with_reducible refine gate_dst (N := 2) rfl ?_); refine box_event ?hg (N := 2) ?hd (cs := #[.int .i64 0, .int .i64 0, .int .i64 0, .int .i64 0, .int .i64 0, .int .i64 0, .int .i64 0, .int .i64 0, .string (⟨#[]⟩ : ByteArray)]) (t := 44) ?hr ?_; (case hd => rfl); (case hg => rfl); (case hr => first | (go_simp; done) | (go_simp; rfl)); intro gr hgr w1 hr1 hb1; have GR := Lib.hid (show w.heap.size ≤ gr from Nat.le_of_eq hgr.symm); clear hgr))
    refine (spec_l01ReadFrame.calls k t body code w1 HR.out).mono ?_
    rintro e w2 ⟨rfl, hd2⟩
    have hb2 := hd2.below
    have hr2 := blk_below hr1 hb2
    have hrz_0 : w2.cell? ⟨gr, 0, none⟩ = some (.int .i64 0) := (blk_cell hr2 0).trans rfl
    have hrf_0 : w2.frozen? ⟨gr, 0, none⟩ = false := blk_frozen hr2 0
    have hrz_1 : w2.cell? ⟨gr, 1, none⟩ = some (.int .i64 0) := (blk_cell hr2 1).trans rfl
    have hrf_1 : w2.frozen? ⟨gr, 1, none⟩ = false := blk_frozen hr2 1
    have hrz_2 : w2.cell? ⟨gr, 2, none⟩ = some (.int .i64 0) := (blk_cell hr2 2).trans rfl
    have hrf_2 : w2.frozen? ⟨gr, 2, none⟩ = false := blk_frozen hr2 2
    have hrz_3 : w2.cell? ⟨gr, 3, none⟩ = some (.int .i64 0) := (blk_cell hr2 3).trans rfl
    have hrf_3 : w2.frozen? ⟨gr, 3, none⟩ = false := blk_frozen hr2 3
    have hrz_4 : w2.cell? ⟨gr, 4, none⟩ = some (.int .i64 0) := (blk_cell hr2 4).trans rfl
    have hrf_4 : w2.frozen? ⟨gr, 4, none⟩ = false := blk_frozen hr2 4
    have hrz_5 : w2.cell? ⟨gr, 5, none⟩ = some (.int .i64 0) := (blk_cell hr2 5).trans rfl
    have hrf_5 : w2.frozen? ⟨gr, 5, none⟩ = false := blk_frozen hr2 5
    have hrz_6 : w2.cell? ⟨gr, 6, none⟩ = some (.int .i64 0) := (blk_cell hr2 6).trans rfl
    have hrf_6 : w2.frozen? ⟨gr, 6, none⟩ = false := blk_frozen hr2 6
    have hrz_7 : w2.cell? ⟨gr, 7, none⟩ = some (.int .i64 0) := (blk_cell hr2 7).trans rfl
    have hrf_7 : w2.frozen? ⟨gr, 7, none⟩ = false := blk_frozen hr2 7
    have hrz_8 : w2.cell? ⟨gr, 8, none⟩ = some (.string (⟨#[]⟩ : ByteArray)) := (blk_cell hr2 8).trans rfl
    have hrf_8 : w2.frozen? ⟨gr, 8, none⟩ = false := blk_frozen hr2 8
    go_wp2
    refine bodyPost_ret (results_ct rfl _ _ gr 44 #[.int .i64 0, .int .i64 0, .int .i64 0, .int .i64 0, .int .i64 0, .int .i64 0, .int .i64 0, .int .i64 0, .string (⟨#[]⟩ : ByteArray)] (0, 0) _ rfl (st9 hr2 _ _ _ _ _ _ _ _ _) Try.underlying44 rfl (by kernel_rfl)) rfl ?_
    exact ⟨rfl, st9_below (hb1.trans (hb2.mono hb1.size)) GR.out _ _ _ _ _ _ _ _ _⟩
end Go.Proofs.Ytnppmhijoaeibaa.H
set_option linter.unusedVariables false
set_option linter.unusedSimpArgs false
namespace Go.Proofs.Ytnppmhijoaeibaa.H
open Go.RowKit Go.Proofs.YtnppmhijoaeibaaW.PrintWords Go.Proofs.YtnppmhijoaeibaaW.PrintLast Go.Proofs.Ytnppmhijoaeibaa.Q
theorem impl_reader_number.mono : ∀ a0 a1 a2 k, LeO (impl_reader_number.f k a0 a1 a2) (impl_reader_number.f (k + 1) a0 a1 a2) := by
  intro a0 a1 a2 k
  unfold impl_reader_number.f
  repeat' first
    | (with_reducible exact impl_takeNumber.mono _ _ _)
    | (with_reducible exact LeO.refl _)
    | (with_reducible refine LeO.ite ?_ ?_)
    | (with_reducible refine LeO.bind ?_ (fun _ => ?_))
theorem impl_reader_string.mono : ∀ a0 a1 a2 k, LeO (impl_reader_string.f k a0 a1 a2) (impl_reader_string.f (k + 1) a0 a1 a2) := by
  intro a0 a1 a2 k
  unfold impl_reader_string.f
  repeat' first
    | (with_reducible exact impl_takeText.mono _ _ _)
    | (with_reducible exact LeO.refl _)
    | (with_reducible refine LeO.ite ?_ ?_)
    | (with_reducible refine LeO.bind ?_ (fun _ => ?_))
theorem num_mono (k : Nat) (s : St) : LeO (num k s) (num (k + 1) s) := impl_reader_number.mono _ _ _ _
theorem str_mono (k : Nat) (s : St) : LeO (str k s) (str (k + 1) s) := impl_reader_string.mono _ _ _ _
theorem numS_mono (k : Nat) (s : St) : LeO (numS k s) (numS (k + 1) s) := spec_l10Reader_number.mono _ _ _ _
theorem strS_mono (k : Nat) (s : St) : LeO (strS k s) (strS (k + 1) s) := spec_l10Reader_text.mono _ _ _ _
theorem finReq_mono (k : Nat) (q0 q1 q2 q3 q4 q5 q6 q7 : Int) (q8 : ByteArray) (s : St) : LeO (finReq k q0 q1 q2 q3 q4 q5 q6 q7 q8 s) (finReq (k + 1) q0 q1 q2 q3 q4 q5 q6 q7 q8 s) := by
  unfold finReq
  repeat' first
    | (with_reducible exact impl_RequestOK.mono _ _ _ _ _ _ _ _ _ _)
    | (with_reducible exact LeO.refl _)
    | (with_reducible refine LeO.ite ?_ ?_)
    | (with_reducible refine LeO.bind ?_ (fun _ => ?_))
theorem finReqS_mono (k : Nat) (q0 q1 q2 q3 q4 q5 q6 q7 : Int) (q8 : ByteArray) (s : St) : LeO (finReqS k q0 q1 q2 q3 q4 q5 q6 q7 q8 s) (finReqS (k + 1) q0 q1 q2 q3 q4 q5 q6 q7 q8 s) := by
  unfold finReqS
  repeat' first
    | (with_reducible exact spec_RequestOK.mono _ _ _ _ _ _ _ _ _ _)
    | (with_reducible exact LeO.refl _)
    | (with_reducible refine LeO.ite ?_ ?_)
    | (with_reducible refine LeO.bind ?_ (fun _ => ?_))
theorem impl_takeRequest.mono : ∀ a0 k, LeO (impl_takeRequest.f k a0) (impl_takeRequest.f (k + 1) a0) := by
  intro a0 k
  unfold impl_takeRequest.f
  repeat' first
    | (with_reducible exact impl_readFrame.mono _ _)
    | (with_reducible exact num_mono _ _)
    | (with_reducible exact str_mono _ _)
    | (with_reducible exact finReq_mono _ _ _ _ _ _ _ _ _ _ _)
    | (with_reducible exact LeO.refl _)
    | (with_reducible refine LeO.ite ?_ ?_)
    | (with_reducible refine LeO.bind ?_ (fun _ => ?_))
theorem spec_l10ReadRequest.mono : ∀ a0 k, LeO (spec_l10ReadRequest.f k a0) (spec_l10ReadRequest.f (k + 1) a0) := by
  intro a0 k
  unfold spec_l10ReadRequest.f
  repeat' first
    | (with_reducible exact spec_l01ReadFrame.mono _ _)
    | (with_reducible exact numS_mono _ _)
    | (with_reducible exact strS_mono _ _)
    | (with_reducible exact finReqS_mono _ _ _ _ _ _ _ _ _ _ _)
    | (with_reducible exact LeO.refl _)
    | (with_reducible refine LeO.ite ?_ ?_)
    | (with_reducible refine LeO.bind ?_ (fun _ => ?_))
end Go.Proofs.Ytnppmhijoaeibaa.H
