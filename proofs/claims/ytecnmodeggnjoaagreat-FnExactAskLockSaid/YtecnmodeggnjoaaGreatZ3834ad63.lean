/- Several of our texts, one behind the other, without what this claim does not need: Td. -/
import Derived.Test.YtecnmodeggnjoaaGreatZ5aca4733
import Derived.Test.YtecnmodeggnjoaaGreatZe2002630
set_option linter.unusedVariables false
set_option linter.unusedSimpArgs false
set_option maxRecDepth 20000
set_option maxHeartbeats 20000000
namespace Go.Proofs.YtecnmodeggnjoaaGreat.Ac
open Go.RowKit
theorem cloneHo_ok' (l : List Ho) (hl : l.length < 2 ^ 28) : FC Tryz.prog 121 [(false, [hos l])] [(1000, some ⟨0, 3, l.map hoW⟩)] [(false, [.row 1000 0 l.length])] := by
  refine gr Tryz.func121 Tryz.ntmps121 (⟨cl_hos _, trivial⟩) ?_
  intro b hb
  cases b with
  | true =>
    have e : l = [] := by simpa using hb rfl
    subst e
    refine nx ?_
    exact ⟨[], [(1000, 3)], don⟩
  | false =>
    refine nx ?_
    refine ⟨l.map hoW, fmap_mapL (fun _ => rfl) l, nx ?_⟩
    refine ⟨l.map hoW, ⟨rfl, by simp; omega⟩, nx ?_⟩
    exact ⟨[], [(1000, 128)], don⟩
theorem put_ok (l : List Ho) (y : Ho) (hr : RiseH l) (hl : l.length < 2 ^ 28) : FC Tryz.prog 166 [(false, [hos l]), (true, hoL y)] [(1000, some ⟨0, 3, (putF l y).map hoW⟩)] [(false, [.row 1000 0 (putF l y).length])] := by
  have hb := bsearchHo_ok l y hr hl
  by_cases k : ∃ hk : kF l y < l.length, keyP l[kF l y] y
  · obtain ⟨hk, hy⟩ := k
    have e := put_yes hk hy
    have q : (l.map hoW).set (kF l y) (hoW ⟨l[kF l y].session, l[kF l y].node, joinM l[kF l y].mode y.mode⟩) = (putF l y).map hoW := by rw [e, List.map_set]
    have q2 : l.length = (putF l y).length := by rw [e, List.length_set]
    rw [dB_yes ⟨hk, hy⟩] at hb
    refine gr Tryz.func166 Tryz.ntmps166 (⟨cl_hos _, trivial⟩) ?_
    refine ⟨([], _), hb, nx ?_⟩
    refine ⟨(_, _), cloneHo_ok' l hl, nx ?_⟩
    refine ⟨kF l y, ⟨rfl, hk⟩, nx ?_⟩
    refine ⟨hoW l[kF l y], by simp [hk], nx ?_⟩
    refine ⟨([], _), joined_ok l[kF l y].mode y.mode, nx ?_⟩
    refine ⟨kF l y, ⟨rfl, hk⟩, nx ?_⟩
    refine ⟨hoW l[kF l y], by simp [hk], nx ?_⟩
    exact ⟨[], [(1000, 256)], don⟩
  · have e := put_no (l := l) (h := y) fun hk w => k ⟨hk, w⟩
    have hle := kF_le y l
    rw [e]
    have q : l.length + 1 = (insF l (kF l y) y).length := insF_len.symm
    rw [dB_no k] at hb
    refine gr Tryz.func166 Tryz.ntmps166 (⟨cl_hos _, trivial⟩) ?_
    refine ⟨([], _), hb, nx ?_⟩
    refine ⟨(_, _), cloneHo_ok' l hl, nx ?_⟩
    refine ⟨⟨false, [(1, 256), (2, 544)], _, _, _, _⟩, insertHo_ok l y (kF l y) hle hl, cd ?_⟩
    exact ⟨[], [(1000, 560)], don⟩
def putS : List Ho → Ho → List Ho
  | [], h => [h]
  | x :: l, h => if lessP x h then x :: putS l h else h :: (x :: l).filter (fun z => !decide (keyP z h))
theorem own_none {s n : Int} : ∀ {l : List Ho}, (∀ x ∈ l, ¬ (x.session = s ∧ x.node = n)) → ownF l s n = 0
  | [], _ => rfl
  | x :: l, h => by
    unfold ownF
    rw [if_neg (h x List.mem_cons_self)]
    exact own_none fun y hy => h y (List.mem_cons_of_mem _ hy)
theorem less_irr {a b : Ho} (h : lessP a b) : ¬ keyP b a := by unfold lessP at h; unfold keyP; omega
theorem less_irr' {a b : Ho} (h : lessP a b) : ¬ keyP a b := by unfold lessP at h; unfold keyP; omega
theorem putS_eq {y : Ho} (hm : Md y.mode) : ∀ {l : List Ho}, RiseH l → putS l ⟨y.session, y.node, joinM y.mode (ownF l y.session y.node)⟩ = putF l y
  | [], _ => by
    show [(⟨y.session, y.node, joinM y.mode 0⟩ : Ho)] = [y]
    rw [join_zero hm]
  | x :: l, hr => by
    obtain ⟨h1, h2⟩ := List.pairwise_cons.1 hr
    unfold putS putF ownF
    by_cases k : lessP x y
    · have k' : ∀ m, lessP x ⟨y.session, y.node, m⟩ := fun m => k
      have n : ¬ (x.session = y.session ∧ x.node = y.node) := less_irr' k
      rw [if_neg n, if_pos (k' _), if_pos k, putS_eq hm h2]
    · have k' : ∀ m, ¬ lessP x ⟨y.session, y.node, m⟩ := fun m => k
      by_cases e : x.session = y.session ∧ x.node = y.node
      · rw [if_pos e, if_neg (k' _), if_neg k, if_pos (show keyP x y from e)]
        rw [List.filter_cons_of_neg (by simp; exact e), List.filter_eq_self.2 fun z hz => by
          have := less_irr (h1 z hz)
          simp only [Bool.not_eq_true', decide_eq_false_iff_not]
          exact fun w => this ⟨w.1.trans e.1.symm, w.2.trans e.2.symm⟩]
        rw [join_comm, e.1, e.2]
      · have gr : ∀ z ∈ l, ¬ (z.session = y.session ∧ z.node = y.node) := fun z hz w => k (by
          have := h1 z hz
          unfold lessP at this ⊢
          omega)
        rw [if_neg e, if_neg (k' _), if_neg k, if_neg (show ¬ keyP x y from e), own_none gr, join_zero hm]
        rw [List.filter_eq_self.2 fun z hz => by
          simp only [Bool.not_eq_true', decide_eq_false_iff_not]
          rcases List.mem_cons.1 hz with rfl | hz
          · exact e
          · exact gr z hz]
def putR (b : Bool) (l : List Ho) (y : Ho) : List Ho := match b with
  | true => l.filter (fun z => !decide (keyP z y))
  | false => putS l y
theorem putR_end (b : Bool) (y : Ho) : putR b [] y = if b then [] else [y] := by cases b <;> rfl
theorem putR_less {x y : Ho} {l : List Ho} (h : lessP x y) : putR false (x :: l) y = x :: putR false l y := by
  show putS (x :: l) y = x :: putS l y
  rw [putS, if_pos h]
theorem putR_key {x y : Ho} {l : List Ho} (h : keyP x y) : putR true (x :: l) y = putR true l y := by
  simp only [putR]
  rw [List.filter_cons_of_neg (by simp [h])]
theorem putR_no {x y : Ho} {l : List Ho} (h : ¬ keyP x y) : putR true (x :: l) y = x :: putR true l y := by
  simp only [putR]
  rw [List.filter_cons_of_pos (by simp [h])]
theorem putR_now {x y : Ho} {l : List Ho} (h : ¬ lessP x y) : putR false (x :: l) y = y :: putR true (x :: l) y := by
  simp only [putR]
  rw [putS, if_neg h]
theorem app_oneM {α : Type} (f : α → List A) (l : List α) (x : α) : (l.map f).take (l.map f).length ++ [f x] = (l ++ [x]).map f := by rw [List.length_map]; exact app_one f l x
theorem l07Put_ok (l : List Ho) (y : Ho) (hr : RiseH l) (hm : Md y.mode) (hl : l.length < 2 ^ 28) : FC Tryz.prog 161 [(false, [hos l]), (true, hoL y)] [(1000, some ⟨0, 3, (putF l y).map hoW⟩)] [(false, [.row 1000 0 (putF l y).length])] := by
  rw [← putS_eq hm hr]
  obtain ⟨g, hg⟩ : ∃ g : Ho, g = ⟨y.session, y.node, joinM y.mode (ownF l y.session y.node)⟩ := ⟨_, rfl⟩
  have ho := l07Own_ok l y.session y.node (by omega)
  have hj := l07Join_ok y.mode (ownF l y.session y.node)
  rw [← hg]
  have hgm : joinM y.mode (ownF l y.session y.node) = g.mode := by rw [hg]
  have hgs : y.session = g.session := by rw [hg]
  have hgn : y.node = g.node := by rw [hg]
  rw [hgm] at hj
  clear hg
  refine gr Tryz.func161 Tryz.ntmps161 (⟨cl_hos _, trivial⟩) ?_
  refine ⟨([], _), ho, nx ?_⟩
  refine ⟨([], _), hj, nx ?_⟩
  rw [hgs, hgn]
  (refine ⟨fun m es hs => ∃ (i : Nat) (b : Bool) (out : List Ho), (m + i = l.length) ∧ (out ++ putR b (l.drop i) g = putS l g) ∧ (out.length ≤ i + 1) ∧ (b = false → out.length ≤ i) ∧ es = [(7, .val false [.f (iL i)]), (6, .val false [.f (bL b)]), (5, .val false [.row 3 0 out.length]), (3, .val false [.pt 64 0 0]), (0, .val false [.f (hos l)])] ∧ hs = [(64, some ⟨3, 3, [hoW g]⟩), (3, some ⟨0, 3, out.map hoW⟩)], ⟨l.length, [], [(3, 304)], _, _, don, 0, false, ([]), don, don, don, don, rfl, rfl⟩, ?_⟩; rintro m _ _ ⟨i, b, out, hPUS0, hPUS1, hPUS2, hPUS3, rfl, rfl⟩; refine nx ?_)
  refine ⟨fun h => nx ?_, fun h => nx ?_⟩
  have hi : i < l.length := by simpa using h
  rw [List.drop_eq_getElem_cons hi] at hPUS1
  cases b with
  | false =>
    refine nx ?_
    have hol := hPUS3 rfl
    by_cases k : lessP l[i] g
    rw [putR_less k] at hPUS1
    have e2 := less_irr' k
    have q : out ++ [l[i]] ++ putR false (l.drop (i + 1)) g = putS l g := by rw [← hPUS1]; simp
    have q1 : (out ++ [l[i]]).length ≤ i + 1 := by simp; omega
    refine ⟨(i, hoL l[i]), ⟨rfl, by simp [hi]⟩, nx ?_⟩
    refine ⟨([], _), (l07Less_ok l[i] g).y k, nx ?_⟩
    by_cases e1 : l[i].session = g.session
    refine ⟨(i, hoL l[i]), ⟨rfl, by simp [hi]⟩, nx ?_⟩
    refine ⟨fun h => absurd h (fun w => w e1), fun h => nx ?_⟩
    refine ⟨(i, hoL l[i]), ⟨rfl, by simp [hi]⟩, nx ?_⟩
    refine ⟨fun h => nx ?_, fun h => absurd h (fun w => e2 ⟨e1, Decidable.of_not_not w⟩)⟩
    refine ⟨(i, hoL l[i]), ⟨rfl, by simp [hi]⟩, nx ?_⟩
    refine ⟨(out ++ [l[i]]).map hoW, ⟨app_one hoW out l[i], by simp; omega⟩, nx ?_⟩
    exact ⟨m - 1, [], [(3, 1040)], _, _, by omega, don, (i + 1), false, (out ++ [l[i]]), don, don, don, don, rfl, rfl⟩
    refine ⟨(i, hoL l[i]), ⟨rfl, by simp [hi]⟩, nx ?_⟩
    refine ⟨fun h => nx ?_, fun h => absurd h (fun w => w e1)⟩
    refine ⟨(i, hoL l[i]), ⟨rfl, by simp [hi]⟩, nx ?_⟩
    refine ⟨(out ++ [l[i]]).map hoW, ⟨app_one hoW out l[i], by simp; omega⟩, nx ?_⟩
    exact ⟨m - 1, [], [(3, 1040)], _, _, by omega, don, (i + 1), false, (out ++ [l[i]]), don, don, don, don, rfl, rfl⟩
    rw [putR_now k] at hPUS1
    by_cases e2 : keyP l[i] g
    rw [putR_key e2] at hPUS1
    have q : out ++ [g] ++ putR true (l.drop (i + 1)) g = putS l g := by rw [← hPUS1]; simp
    refine ⟨(i, hoL l[i]), ⟨rfl, by simp [hi]⟩, nx ?_⟩
    refine ⟨([], _), (l07Less_ok l[i] g).x k, nx ?_⟩
    refine ⟨(out ++ [g]).map hoW, ⟨app_one hoW out g, by simp; omega⟩, nx ?_⟩
    refine ⟨(i, hoL l[i]), ⟨rfl, by simp [hi]⟩, nx ?_⟩
    refine ⟨fun h => absurd h (fun w => w e2.1), fun h => nx ?_⟩
    refine ⟨(i, hoL l[i]), ⟨rfl, by simp [hi]⟩, nx ?_⟩
    refine ⟨fun h => absurd h (fun w => w e2.2), fun h => nx ?_⟩
    exact ⟨m - 1, [], [(3, 640)], _, _, by omega, don, (i + 1), true, (out ++ [g]), don, don, don, don, rfl, rfl⟩
    rw [putR_no e2] at hPUS1
    have q : out ++ [g] ++ [l[i]] ++ putR true (l.drop (i + 1)) g = putS l g := by rw [← hPUS1]; simp
    refine ⟨(i, hoL l[i]), ⟨rfl, by simp [hi]⟩, nx ?_⟩
    refine ⟨([], _), (l07Less_ok l[i] g).x k, nx ?_⟩
    refine ⟨(out ++ [g]).map hoW, ⟨app_one hoW out g, by simp; omega⟩, nx ?_⟩
    by_cases e1 : l[i].session = g.session
    refine ⟨(i, hoL l[i]), ⟨rfl, by simp [hi]⟩, nx ?_⟩
    refine ⟨fun h => absurd h (fun w => w e1), fun h => nx ?_⟩
    refine ⟨(i, hoL l[i]), ⟨rfl, by simp [hi]⟩, nx ?_⟩
    refine ⟨fun h => nx ?_, fun h => absurd h (fun w => e2 ⟨e1, Decidable.of_not_not w⟩)⟩
    refine ⟨(i, hoL l[i]), ⟨rfl, by simp [hi]⟩, nx ?_⟩
    refine ⟨(out ++ [g] ++ [l[i]]).map hoW, ⟨app_oneM hoW (out ++ [g]) l[i], by simp; omega⟩, nx ?_⟩
    exact ⟨m - 1, [], [(3, 1040)], _, _, by omega, don, (i + 1), true, (out ++ [g] ++ [l[i]]), don, don, don, don, rfl, rfl⟩
    refine ⟨(i, hoL l[i]), ⟨rfl, by simp [hi]⟩, nx ?_⟩
    refine ⟨fun h => nx ?_, fun h => absurd h (fun w => w e1)⟩
    refine ⟨(i, hoL l[i]), ⟨rfl, by simp [hi]⟩, nx ?_⟩
    refine ⟨(out ++ [g] ++ [l[i]]).map hoW, ⟨app_oneM hoW (out ++ [g]) l[i], by simp; omega⟩, nx ?_⟩
    exact ⟨m - 1, [], [(3, 1040)], _, _, by omega, don, (i + 1), true, (out ++ [g] ++ [l[i]]), don, don, don, don, rfl, rfl⟩
  | true =>
    refine nx ?_
    by_cases e2 : keyP l[i] g
    rw [putR_key e2] at hPUS1
    refine ⟨(i, hoL l[i]), ⟨rfl, by simp [hi]⟩, nx ?_⟩
    refine ⟨fun h => absurd h (fun w => w e2.1), fun h => nx ?_⟩
    refine ⟨(i, hoL l[i]), ⟨rfl, by simp [hi]⟩, nx ?_⟩
    refine ⟨fun h => absurd h (fun w => w e2.2), fun h => nx ?_⟩
    exact ⟨m - 1, [], [], _, _, by omega, don, (i + 1), true, out, don, don, don, don, rfl, rfl⟩
    rw [putR_no e2] at hPUS1
    have q : out ++ [l[i]] ++ putR true (l.drop (i + 1)) g = putS l g := by rw [← hPUS1]; simp
    by_cases e1 : l[i].session = g.session
    refine ⟨(i, hoL l[i]), ⟨rfl, by simp [hi]⟩, nx ?_⟩
    refine ⟨fun h => absurd h (fun w => w e1), fun h => nx ?_⟩
    refine ⟨(i, hoL l[i]), ⟨rfl, by simp [hi]⟩, nx ?_⟩
    refine ⟨fun h => nx ?_, fun h => absurd h (fun w => e2 ⟨e1, Decidable.of_not_not w⟩)⟩
    refine ⟨(i, hoL l[i]), ⟨rfl, by simp [hi]⟩, nx ?_⟩
    refine ⟨(out ++ [l[i]]).map hoW, ⟨app_one hoW out l[i], by simp; omega⟩, nx ?_⟩
    exact ⟨m - 1, [], [(3, 1040)], _, _, by omega, don, (i + 1), true, (out ++ [l[i]]), don, don, don, don, rfl, rfl⟩
    refine ⟨(i, hoL l[i]), ⟨rfl, by simp [hi]⟩, nx ?_⟩
    refine ⟨fun h => nx ?_, fun h => absurd h (fun w => w e1)⟩
    refine ⟨(i, hoL l[i]), ⟨rfl, by simp [hi]⟩, nx ?_⟩
    refine ⟨(out ++ [l[i]]).map hoW, ⟨app_one hoW out l[i], by simp; omega⟩, nx ?_⟩
    exact ⟨m - 1, [], [(3, 1040)], _, _, by omega, don, (i + 1), true, (out ++ [l[i]]), don, don, don, don, rfl, rfl⟩
  have hi : l.length ≤ i := by simpa using h
  rw [List.drop_eq_nil_of_le hi, putR_end] at hPUS1
  cases b with
  | false =>
    have q : out ++ [g] = putS l g := by simpa using hPUS1
    rw [← q]
    have hol := hPUS3 rfl
    refine nx ?_
    refine ⟨(out ++ [g]).map hoW, ⟨app_one hoW out g, by simp; omega⟩, nx ?_⟩
    exact ⟨[], [(1000, 1136)], don⟩
  | true =>
    have q : out = putS l g := by simpa using hPUS1
    rw [← q]
    refine nx ?_
    exact ⟨[], [(1000, 3)], don⟩
end Go.Proofs.YtecnmodeggnjoaaGreat.Ac
