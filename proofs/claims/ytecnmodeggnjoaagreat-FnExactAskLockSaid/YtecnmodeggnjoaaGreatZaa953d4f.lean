/- Several of our texts, one behind the other, without what this claim does not need: Ta, Tb, AcTl, Wa, Wb. -/
import Derived.Test.YtecnmodeggnjoaaGreatZe2002630
import Derived.Lib.Overlaps
import Derived.Test.YtecnmodeggnjoaaGreatZ855f7bb1
set_option linter.unusedVariables false
set_option linter.unusedSimpArgs false
set_option maxRecDepth 20000
set_option maxHeartbeats 20000000
namespace Go.Proofs.YtecnmodeggnjoaaGreat.Ac
open Go.RowKit
theorem overlapsHo_ok (e1 e2 : List (List A)) (c1 : clR e1) (c2 : clR e2) (hi1 lo2 hi2 : Nat) (h1 : 0 < hi1) (h2 : lo2 < hi2) :
    GCalls Tryz.prog 314 [(1, some ⟨2, 3, e1⟩), (2, some ⟨0, 3, e2⟩)] [(false, [.row 1 0 hi1]), (false, [.row 2 lo2 hi2])] [(1, some ⟨2, 3, e1⟩), (2, some ⟨0, 3, e2⟩)] [(false, [.f (bL false)])] := by
  refine ⟨clHs_of (show clHs [(1, some ⟨2, 3, e1⟩), (2, some ⟨0, 3, e2⟩)] from ⟨c1, c2, trivial⟩), fun n h => h, ⟨rfl, rfl⟩, fun φ w us hok hr => .inr ?_⟩
  obtain ⟨inf, _, _, _, hi, hs, _⟩ := tbl_ok.st 56 _ _ _ _ rfl
  have hu := (tbl_ok.w 30 _ _ _ rfl).1
  match us, hr with
  | [u, v], hr =>
  obtain ⟨x, hx, rx⟩ := hr.1
  obtain ⟨y, hy, ry⟩ := hr.2.1
  cases hx; cases hy
  cases rx with
  | row _ _ _ _ r =>
  cases ry with
  | row _ _ _ _ r' =>
  have r2 := r.2
  have r2' := r'.2
  simp only [get, Nat.beq, cond_true, cond_false] at r2 r2'
  obtain ⟨_, k2, r3⟩ := r2
  obtain ⟨_, k2', r3'⟩ := r2'
  rcases (hok.ob 1 _ rfl).row (fun h => by cases h) with ⟨h0, _⟩ | ⟨hd, c, ty, g1, g2, g3, _⟩
  · rw [show e1 = [] from h0] at k2; exact absurd k2 (by simp; omega)
  rcases (hok.ob 2 _ rfl).row (fun h => by cases h) with ⟨h0, _⟩ | ⟨hd', c', ty', g1', g2', g3', _⟩
  · rw [show e2 = [] from h0] at k2'; exact absurd k2' (by simp; omega)
  rw [g1] at r3
  rw [g1'] at r3'
  obtain ⟨a, rfl, ha⟩ := r3
  obtain ⟨a', rfl, ha'⟩ := r3'
  have hle := g3.le
  have hle' := g3'.le
  have hsz' := g3'.size
  dsimp only at k2 k2' hle hle' hsz' ha ha'
  rw [ha (by simp), ha' (.inr (by omega))]
  have hne : hd.b ≠ hd'.b := fun e => by have := hok.inj _ _ _ _ g1 g1' e; cases this
  refine ⟨.bool false, w, ?_, ⟨_, φ, rfl, ⟨_, rfl, .f _ _ (.v _ rfl)⟩, hok, Turn.refl _ _ _, rfl, rfl, rfl, Nat.le_refl _⟩⟩
  rw [run_callFunc_extern Tryz.func314 (by kernel_rfl) (by kernel_rfl) (by kernel_rfl) (e := Extern.SlicesOverlaps.overlaps #[30, 30] #[4]) (by kernel_rfl),
    Lib.run_overlaps_apart w 30 4 56 hu inf.size (fun w => by simp [sizeOf, typeInfo, hi]) _ _ _ _ _ _ hne ty ty' c.size c'.size (by simp [World.shape?, g2]) (by simp [World.shape?, g2']) (by omega) (by simp [World.frozen?, g2]) (by simp [World.frozen?, g2])]
  rfl
def insF {α : Type} (l : List α) (i : Nat) (x : α) : List α := l.take i ++ x :: l.drop i
theorem insF_len {α : Type} {l : List α} {i : Nat} {x : α} : (insF l i x).length = l.length + 1 := by unfold insF; simp; omega
section
variable {α : Type} {f : α → List A} (hf : ∀ x, (f x).map cpA = f x)
include hf
theorem cp_map (l : List α) : cpE (l.map f) = l.map f := by unfold cpE; rw [List.map_map]; exact List.map_congr_left fun x _ => hf x
omit hf in
theorem ins_open {l : List α} {k : Nat} {wd : Nat} (hk : 1 ≤ k) : ((l.map f ++ junk wd k).take (l.length + 1)) = l.map f ++ [List.replicate wd (.un none)] := by
  unfold junk
  rw [List.take_append, List.take_of_length_le (by simp)]
  cases k with
  | zero => omega
  | succ k => simp [List.replicate_succ]
theorem ins_src {l : List α} {i : Nat} (hi : i ≤ l.length) {J : List A} (hJ : J.map cpA = J) : cpE (((l.map f ++ [J]).take (l.length + 1)).drop i) = (l.drop i).map f ++ [J] := by
  rw [List.take_of_length_le (by simp), List.drop_append_of_le_length (by simpa using hi), ← List.map_drop]
  unfold cpE
  rw [List.map_append, List.map_map]
  congr 1
  · exact List.map_congr_left fun x _ => hf x
  · simp [hJ]
omit hf in
theorem ins_shift {l : List α} {i : Nat} (hi : i < l.length) {J : List A} :
    (l.map f ++ [J]).take (i + 1) ++ ((l.drop i).map f ++ [J]).take (l.length + 1 - (i + 1)) ++ (l.map f ++ [J]).drop (i + 1 + min ((l.drop i).map f ++ [J]).length (l.length + 1 - (i + 1))) = (l.take (i + 1) ++ l.drop i).map f := by
  rw [show i + 1 + min ((l.drop i).map f ++ [J]).length (l.length + 1 - (i + 1)) = l.length + 1 by simp; omega, List.drop_eq_nil_of_le (i := l.length + 1) (by simp), List.append_nil, List.take_append_of_le_length (by simp; omega), List.take_append_of_le_length (by simp), List.map_append, ← List.map_take, List.take_of_length_le (l := (l.drop i).map f) (by simp)]
omit hf in
theorem ins_put {l : List α} {i : Nat} (hi : i < l.length) (x : α) :
    ((l.take (i + 1) ++ l.drop i).map f).take i ++ [f x].take (l.length + 1 - i) ++ ((l.take (i + 1) ++ l.drop i).map f).drop (i + min [f x].length (l.length + 1 - i)) = (insF l i x).map f := by
  rw [show min [f x].length (l.length + 1 - i) = 1 by simp; omega, List.take_of_length_le (l := [f x]) (by simp; omega), ← List.map_take, ← List.map_drop, List.take_append_of_le_length (by simp; omega), List.take_take, show min i (i + 1) = i by omega, List.drop_append, List.drop_eq_nil_of_le (by simp; omega), List.nil_append]
  rw [show i + 1 - (l.take (i + 1)).length = 0 by simp; omega, List.drop_zero]
  unfold insF
  simp
theorem ins_new {l : List α} {i k : Nat} (hi : i ≤ l.length) (wd : Nat) (z : α) {m : Nat} : cpE ((l.map f ++ junk wd k).take i) ++ List.replicate m (f z) = (l.take i ++ List.replicate m z).map f := by
  rw [List.take_append_of_le_length (by simpa using hi), ← List.map_take, cp_map hf, List.map_append, List.map_replicate]
omit hf in
theorem ins_put2 {l : List α} {i : Nat} (hi : i < l.length) (x z : α) :
    ((l.take i ++ List.replicate (l.length + 1 - i) z).map f).take i ++ [f x].take (l.length + 1 - i) ++ ((l.take i ++ List.replicate (l.length + 1 - i) z).map f).drop (i + min [f x].length (l.length + 1 - i)) = (l.take i ++ x :: List.replicate (l.length - i) z).map f := by
  rw [show min [f x].length (l.length + 1 - i) = 1 by simp; omega, List.take_of_length_le (l := [f x]) (by simp; omega), ← List.map_take, ← List.map_drop, List.take_append_of_le_length (by simp; omega), List.take_of_length_le (l := l.take i) (by simp; omega), List.drop_append, List.drop_eq_nil_of_le (by simp; omega), List.nil_append, List.drop_replicate]
  rw [show l.length + 1 - i - (i + 1 - (l.take i).length) = l.length - i by simp; omega]
  simp
theorem ins_src2 {l : List α} {i k : Nat} (hi : i ≤ l.length) (wd : Nat) : cpE (((l.map f ++ junk wd k).take l.length).drop i) = (l.drop i).map f := by
  rw [List.take_append_of_le_length (by simp), List.take_of_length_le (by simp), ← List.map_drop, cp_map hf]
omit hf in
theorem ins_end {l : List α} {i : Nat} (hi : i < l.length) (x z : α) :
    ((l.take i ++ x :: List.replicate (l.length - i) z).map f).take (i + 1) ++ ((l.drop i).map f).take (l.length + 1 - (i + 1)) ++ ((l.take i ++ x :: List.replicate (l.length - i) z).map f).drop (i + 1 + min ((l.drop i).map f).length (l.length + 1 - (i + 1))) = (insF l i x).map f := by
  rw [show i + 1 + min ((l.drop i).map f).length (l.length + 1 - (i + 1)) = l.length + 1 by simp; omega, List.drop_eq_nil_of_le (i := l.length + 1) (by simp; omega), List.append_nil, ← List.map_take, List.take_of_length_le (l := (l.drop i).map f) (by simp), ← List.map_append]
  congr 1
  rw [List.take_append, List.take_of_length_le (l := l.take i) (by simp; omega), show i + 1 - (l.take i).length = 1 by simp; omega]
  unfold insF
  simp
end
end Go.Proofs.YtecnmodeggnjoaaGreat.Ac
set_option linter.unusedVariables false
set_option linter.unusedSimpArgs false
set_option maxRecDepth 20000
set_option maxHeartbeats 20000000
namespace Go.Proofs.YtecnmodeggnjoaaGreat.Ac
open Go.RowKit
theorem cl_un3 : clR [List.replicate 3 (.un none)] := ⟨⟨trivial, trivial, trivial, trivial⟩, trivial⟩
def zHo' : Ho := ⟨0, 0, 0⟩
theorem insertHo_ok (l : List Ho) (x : Ho) (i : Nat) (hi : i ≤ l.length) (hl : l.length < 2 ^ 28) : GCalls Tryz.prog 253 [(1, some ⟨0, 3, l.map hoW⟩), (2, some ⟨2, 3, [hoW x]⟩)] [(false, [.row 1 0 l.length]), (false, [.f (iL i)]), (false, [.row 2 0 1])]
    [(1, none), (2, none), (1000, some ⟨0, 3, (insF l i x).map hoW⟩)] [(false, [.row 1000 0 (l.length + 1)])] := by
  refine gr Tryz.func253 Tryz.ntmps253 (⟨cl_hos _, trivial⟩) ?_
  refine ⟨(i, l.length), ⟨rfl, rfl, hi, .inl (Nat.le_refl _)⟩, nx ?_⟩
  refine ⟨fun h => absurd h (by omega), fun h => nx ?_⟩
  by_cases hin : i = l.length
  · subst hin
    have e : insF l l.length x = l ++ [x] := by simp [insF]
    rw [e]
    refine ⟨fun h => nx ?_, fun h => absurd h (by omega)⟩
    refine ⟨(l ++ [x]).map hoW, ⟨app_one hoW l x, by simp; omega⟩, nx ?_⟩
    exact ⟨[], [(1000, 416)], don⟩
  have hil : i < l.length := by omega
  have w1 : IntKind.i64.wrap ((l.length : Int) + ((1 : Nat) : Int)) = ((l.length + 1 : Nat) : Int) := by rw [IntKind.wrap_i64]; omega
  have w2 : IntKind.i64.wrap ((i : Int) + ((1 : Nat) : Int)) = ((i + 1 : Nat) : Int) := by rw [IntKind.wrap_i64]; omega
  have w3 : IntKind.i64.wrap (((l.length + 1 : Nat) : Int) - (i : Int)) = ((l.length + 1 - i : Nat) : Int) := by rw [IntKind.wrap_i64]; omega
  have w4 : IntKind.i64.wrap (IntKind.i64.wrap ((l.length : Int) + ((1 : Nat) : Int)) - (i : Int)) = ((l.length + 1 - i : Nat) : Int) := by rw [w1, w3]
  refine ⟨fun h => absurd h (by omega), fun h => nx ?_⟩
  intro k hk
  refine nx ?_
  refine ⟨fun h => nx ?_, fun h => nx ?_⟩
  have hk0 : k = 0 := by
    rw [w1] at h
    simp at h; omega
  subst hk0
  clear hk h
  refine ⟨fun h => nx ?_, fun h => absurd h (by omega)⟩
  refine ⟨(0, i), ⟨rfl, rfl, Nat.zero_le _, .inl hi⟩, nx ?_⟩
  refine ⟨(l.length + 1 - i, List.replicate (l.length + 1 - i) (hoW zHo')), ⟨w4, by dsimp only; omega, rfl⟩, nx ?_⟩
  refine ⟨by rw [List.length_replicate]; omega, nx ?_⟩
  refine ⟨fun h => absurd h (by rw [List.length_replicate, List.length_append, List.length_map]; simp [junk]; omega), fun h => nx ?_⟩
  refine ⟨(l.take i ++ List.replicate (l.length + 1 - i) zHo').map hoW, ins_new (fun _ => rfl) hi 3 zHo', nx ?_⟩
  refine ⟨(i, l.length + 1), ⟨rfl, by show l.length + 1 = _; simp; omega, by dsimp only; omega, .inl (by simp; omega)⟩, nx ?_⟩
  refine ⟨(l.take i ++ x :: List.replicate (l.length - i) zHo').map hoW, ins_put2 hil x zHo', nx ?_⟩
  refine ⟨(i + 1, l.length + 1), ⟨w2, by show l.length + 1 = _; simp; omega, by dsimp only; omega, .inl (by simp; omega)⟩, nx ?_⟩
  refine ⟨(i, l.length), ⟨rfl, rfl, hi, .inl (Nat.le_refl _)⟩, nx ?_⟩
  refine ⟨(l.drop i).map hoW, ins_src2 (fun _ => rfl) hi 3, nx ?_⟩
  refine ⟨(insF l i x).map hoW, ins_end hil x zHo', nx ?_⟩
  exact ⟨[], [(1000, 656)], don⟩
  have hk1 : 1 ≤ k := by
    rw [w1] at h
    simp at h; omega
  refine ⟨fun h => absurd h (by rw [w1]; omega), fun h => nx ?_⟩
  refine ⟨(l.length + 1, l.map hoW ++ [List.replicate 3 (.un none)]), ⟨w1, by simp [junk]; omega, ins_open hk1⟩, nx ?_⟩
  refine ⟨(i + 1, l.length + 1), ⟨w2, rfl, by dsimp only; omega, .inl (Nat.le_refl _)⟩, nx ?_⟩
  have hcl := cl_app (cl_hos l) cl_un3
  have hc1 := cl_hos [x]
  refine ⟨⟨false, [(1, 2), (2, 976)], _, _, _, _⟩, overlapsHo_ok [hoW x] (l.map hoW ++ [List.replicate 3 (.un none)]) (cl_hos [x]) (cl_app (cl_hos l) cl_un3) 1 (i + 1) (l.length + 1) (by omega) (by omega), cd ?_⟩
  refine ⟨(i + 1, l.length + 1), ⟨w2, rfl, by dsimp only; omega, .inl (Nat.le_refl _)⟩, nx ?_⟩
  refine ⟨(i, l.length + 1), ⟨rfl, rfl, by dsimp only; omega, .inl (Nat.le_refl _)⟩, nx ?_⟩
  refine ⟨(l.drop i).map hoW ++ [List.replicate 3 (.un none)], ins_src (fun _ => rfl) hi rfl, nx ?_⟩
  refine ⟨(l.take (i + 1) ++ l.drop i).map hoW, ins_shift hil, nx ?_⟩
  refine ⟨(i, l.length + 1), ⟨rfl, rfl, by dsimp only; omega, .inl (Nat.le_refl _)⟩, nx ?_⟩
  refine ⟨(insF l i x).map hoW, ins_put hil x, nx ?_⟩
  exact ⟨[], [(1000, 976)], don⟩
end Go.Proofs.YtecnmodeggnjoaaGreat.Ac
set_option linter.unusedVariables false
namespace Go.Proofs.YtecnmodeggnjoaaGreat.Ac
open Go.RowKit
theorem tel {P : Prop} (h : P := by (repeat' first | with_reducible exact trivial | with_reducible exact rfl | ((with_reducible refine tl_id ?_); first | exact tl_pv rfl rfl rfl (List.cons_ne_nil _ _) | exact tl_ints rfl rfl rfl (by simp) | exact tl_txts rfl rfl rfl (by simp) | exact tl_nds rfl rfl rfl (by simp) | refine tl_int ?_ | refine tl_bool ?_ | refine tl_str ?_ | refine tl_row rfl ?_ | ((conv => whnf); first | exact trivial | exact rfl | exact .inr rfl | exact .inl ⟨rfl, rfl⟩ | apply And.intro) | with_reducible refine tl_f ?_) | with_reducible exact cl_ints _ | with_reducible exact pl_ints _ | with_reducible exact cl_txts _ | with_reducible exact pl_txts _ | with_reducible exact cl_nds _ | with_reducible exact pl_nds _ | with_reducible exact cl_mp _ | (with_reducible refine Exists.intro _ (And.intro ?_ ?_); exact rfl; exact frzC_map _) | ((conv => whnf); first | with_reducible exact trivial | exact rfl | apply And.intro | exact .inr rfl | exact .inl ⟨rfl, rfl⟩) | exact Nat.succ_pos _)) : P := h
theorem tel1 {P X : Prop} (x : X) (h : X → P := by (intro h1; (repeat' first | with_reducible exact trivial | with_reducible exact rfl | ((with_reducible refine tl_id ?_); first | exact tl_pv rfl rfl rfl (List.cons_ne_nil _ _) | exact tl_ints rfl rfl rfl (by simp) | exact tl_txts rfl rfl rfl (by simp) | exact tl_nds rfl rfl rfl (by simp) | refine tl_int ?_ | refine tl_bool ?_ | refine tl_str ?_ | refine tl_row rfl ?_ | ((conv => whnf); first | exact trivial | exact rfl | exact .inr rfl | exact .inl ⟨rfl, rfl⟩ | apply And.intro) | with_reducible refine tl_f ?_) | with_reducible exact cl_ints _ | with_reducible exact pl_ints _ | with_reducible exact cl_txts _ | with_reducible exact pl_txts _ | with_reducible exact cl_nds _ | with_reducible exact pl_nds _ | with_reducible exact cl_mp _ | (with_reducible refine Exists.intro _ (And.intro ?_ ?_); exact rfl; exact frzC_map _) | ((conv => whnf); first | with_reducible exact trivial | exact rfl | apply And.intro | exact .inr rfl | exact .inl ⟨rfl, rfl⟩) | exact Nat.succ_pos _); exact h1)) : P := h x
theorem tel2 {P X Y : Prop} (x : X) (y : Y) (h : X → Y → P := by (intro h1 h2; (repeat' first | with_reducible exact trivial | with_reducible exact rfl | ((with_reducible refine tl_id ?_); first | exact tl_pv rfl rfl rfl (List.cons_ne_nil _ _) | exact tl_ints rfl rfl rfl (by simp) | exact tl_txts rfl rfl rfl (by simp) | exact tl_nds rfl rfl rfl (by simp) | refine tl_int ?_ | refine tl_bool ?_ | refine tl_str ?_ | refine tl_row rfl ?_ | ((conv => whnf); first | exact trivial | exact rfl | exact .inr rfl | exact .inl ⟨rfl, rfl⟩ | apply And.intro) | with_reducible refine tl_f ?_) | with_reducible exact cl_ints _ | with_reducible exact pl_ints _ | with_reducible exact cl_txts _ | with_reducible exact pl_txts _ | with_reducible exact cl_nds _ | with_reducible exact pl_nds _ | with_reducible exact cl_mp _ | (with_reducible refine Exists.intro _ (And.intro ?_ ?_); exact rfl; exact frzC_map _) | ((conv => whnf); first | with_reducible exact trivial | exact rfl | apply And.intro | exact .inr rfl | exact .inl ⟨rfl, rfl⟩) | exact Nat.succ_pos _); exact h1; exact h2)) : P := h x y
end Go.Proofs.YtecnmodeggnjoaaGreat.Ac
set_option linter.unusedVariables false
set_option linter.unusedSimpArgs false
namespace Go.Proofs.YtecnmodeggnjoaaGreat.Ac
open Go.RowKit
def atFrom (id : Int) : Nat → List Nd → Int
  | _, [] => -1
  | i, n :: l => if n.id = id then i else atFrom id (i + 1) l
theorem l02At_ok (d : Dc) (id : Int) (hlen : d.nodes.length < 2 ^ 62) : FC Tryz.prog 91 [(true, dcL d), (false, [iL id])] [] [(false, [.f (iL (atFrom id 0 d.nodes))])] := by
  refine en Tryz.func91 Tryz.ntmps91 trivial ?_
  refine nw ?_
  refine ⟨fun (n : Nat) (es : Es) (hs : Hs) => ∃ i : Nat, n + i = d.nodes.length ∧ atFrom id i (d.nodes.drop i) = atFrom id 0 d.nodes ∧ es = [(5, .val false [.f (iL i)]), (2, .val false [.pt 48 0 0]), (1, .val false [.f (iL id)])] ∧ hs = [(48, some ⟨3, 3, [(dcL d).map .f]⟩)], ⟨d.nodes.length, [], [], _, _, ⟨?_, ?_, ?_⟩, 0, rfl, rfl, rfl, rfl⟩, ?_⟩
  · rfl
  · exact tel
  · exact tel
  rintro n es hs ⟨i, hn, ht, rfl, rfl⟩
  refine nw ?_
  refine ⟨fun h => ?_, fun h => ?_⟩
  · have hi : i < d.nodes.length := by simpa using h
    refine nw ?_
    refine ⟨(i, ndL d.nodes[i]), ⟨rfl, by simp [hi]⟩, ?_⟩
    refine nw ?_
    refine ⟨fun h => ?_, fun h => ?_⟩
    · refine nw ?_
      refine ⟨[], [], ?_⟩
      refine tel1 ?_
      rw [← ht, List.drop_eq_getElem_cons hi]
      simp [atFrom, h]
    · refine nw ?_
      refine ⟨n - 1, [], [], [(5, .val false [.f (iL (i + 1 : Nat))]), (2, .val false [.pt 48 0 0]), (1, .val false [.f (iL id)])], [(48, some ⟨3, 3, [(dcL d).map .f]⟩)], by omega, ⟨?_, ?_, ?_⟩, i + 1, by omega, ?_, rfl, rfl⟩
      · rfl
      · refine tel1 ?_
        exact wrap_suc (by omega)
      · exact tel
      · rw [← ht, List.drop_eq_getElem_cons hi]
        simp [atFrom, h]
  · have hi : d.nodes.length ≤ i := by simpa using h
    refine nw ?_
    refine ⟨[], [], ?_⟩
    refine tel1 ?_
    rw [← ht, List.drop_eq_nil_of_le hi]; rfl
theorem within_ok (n lo hi : Int) : FC Tryz.prog 152 [(false, [iL n]), (false, [iL lo]), (false, [iL hi])] [] [(false, [.f (bL (decide (lo ≤ n ∧ n ≤ hi)))])] := by
  refine en Tryz.func152 Tryz.ntmps152 trivial ?_
  refine nw ?_
  refine ⟨fun h => ?_, fun h => ?_⟩
  · refine nw ?_
    refine ⟨fun h => ?_, fun h => ?_⟩
    · refine nw ?_
      refine ⟨[], [], ?_⟩
      refine tel1 ?_
      exact b_true (by omega)
    · refine nw ?_
      refine ⟨[], [], ?_⟩
      refine tel1 ?_
      exact b_false (by omega)
  · refine nw ?_
    refine ⟨[], [], ?_⟩
    refine tel1 ?_
    exact b_false (by omega)
theorem within_t {n lo hi : Int} (h : lo ≤ n ∧ n ≤ hi) : FC Tryz.prog 152 [(false, [iL n]), (false, [iL lo]), (false, [iL hi])] [] [(false, [.f (bL true)])] := by
  have := within_ok n lo hi
  rwa [decide_eq_true h] at this
theorem within_f {n lo hi : Int} (h : ¬ (lo ≤ n ∧ n ≤ hi)) : FC Tryz.prog 152 [(false, [iL n]), (false, [iL lo]), (false, [iL hi])] [] [(false, [.f (bL false)])] := by
  have := within_ok n lo hi
  rwa [decide_eq_false h] at this
end Go.Proofs.YtecnmodeggnjoaaGreat.Ac
set_option linter.unusedVariables false
set_option linter.unusedSimpArgs false
namespace Go.Proofs.YtecnmodeggnjoaaGreat.Ac
open Go.RowKit
def bsAt (c : Nat → Bool) (i j : Nat) : Nat := if h : i < j then (if c ((i + j) / 2) then bsAt c ((i + j) / 2 + 1) j else bsAt c i ((i + j) / 2)) else i
  termination_by j - i
  decreasing_by all_goals omega
theorem bsAt_yes {c : Nat → Bool} {i j : Nat} (h : i < j) (hc : c ((i + j) / 2) = true) : bsAt c ((i + j) / 2 + 1) j = bsAt c i j := by
  conv => rhs; rw [bsAt]
  rw [dif_pos h, if_pos hc]
theorem bsAt_no {c : Nat → Bool} {i j : Nat} (h : i < j) (hc : c ((i + j) / 2) = false) : bsAt c i ((i + j) / 2) = bsAt c i j := by
  conv => rhs; rw [bsAt]
  rw [dif_pos h, if_neg (by simp [hc])]
theorem bsAt_end {c : Nat → Bool} (i : Nat) : bsAt c i i = i := by rw [bsAt, dif_neg (Nat.lt_irrefl _)]
def idD (l : List Nd) (id : Int) (i : Nat) : Int := IntKind.i64.wrap ((l[i]?.getD ⟨0, 0, 0, .empty, []⟩).id - id)
def bsIx (l : List Nd) (id : Int) : Nat := bsAt (fun i => decide (idD l id i < 0)) 0 l.length
theorem find1_ok (n : Nd) (id : Int) : FC Tryz.prog 288 [(true, ndL n), (false, [iL id])] [] [(false, [.f (iL (IntKind.i64.wrap (n.id - id)))])] := by
  refine en Tryz.func288 Tryz.ntmps288 trivial ?_
  refine nw ?_
  refine ⟨[], [], ?_⟩
  exact tel
theorem half {i j n : Nat} (hi : i ≤ n) (hj : j ≤ n) (hn : n < 2 ^ 62) : IntKind.i64.wrap ((IntKind.u64.wrap (IntKind.i64.wrap ((i : Int) + j))).fdiv (2 ^ min (Int.toNat 1) IntKind.u64.bits)) = (((i + j) / 2 : Nat) : Int) := by
  have h1 : IntKind.i64.wrap ((i : Int) + j) = ((i + j : Nat) : Int) := by rw [IntKind.wrap_i64]; omega
  have h2 : IntKind.u64.wrap ((i + j : Nat) : Int) = ((i + j : Nat) : Int) := by simp [IntKind.wrap, IntKind.bits, IntKind.signed]; omega
  have h3 : (2 : Int) ^ min (Int.toNat 1) IntKind.u64.bits = 2 := rfl
  rw [h1, h2, h3, Int.fdiv_eq_ediv_of_nonneg _ (by omega), IntKind.wrap_i64]
  omega
theorem bsearch_ok (l : List Nd) (id : Int) (hlen : l.length < 2 ^ 62) : FC Tryz.prog 287 [(false, [nds l]), (false, [iL id]), (false, [.cl 288 []])] []
    [(false, [.f (iL (bsIx l id))]), (false, [.f (bL (decide (bsIx l id < l.length ∧ idD l id (bsIx l id) = 0)))])] := by
  refine en Tryz.func287 Tryz.ntmps287 trivial ?_
  refine nw ?_
  refine ⟨fun (n : Nat) (es : Es) (hs : Hs) => ∃ i j : Nat, n = j - i ∧ i ≤ j ∧ j ≤ l.length ∧ bsAt (fun i => decide (idD l id i < 0)) i j = bsIx l id ∧ es = [(10, .val false [.f (iL j)]), (9, .val false [.f (iL i)]), (8, .val false [.f (iL l.length)]), (2, .val false [.f (.cl 288 [])]), (1, .val false [.f (iL id)]), (0, .val false [.f (nds l)])] ∧ hs = [],
    ⟨l.length, [], [], _, _, ⟨?_, ?_, ?_⟩, 0, l.length, rfl, Nat.zero_le _, Nat.le_refl _, rfl, rfl, rfl⟩, ?_⟩
  · rfl
  · refine tel2 ?_ ?_
    all_goals simp
  · exact tel
  rintro n es hs ⟨i, j, rfl, hij, hj, hb, rfl, rfl⟩
  refine nw ?_
  refine ⟨fun h => ?_, fun h => ?_⟩
  · have h' : i < j := by omega
    have hm : (i + j) / 2 < l.length := by omega
    have hh := half (n := l.length) (by omega : i ≤ l.length) hj hlen
    refine nw ?_
    refine ⟨by decide, ?_⟩
    refine nw ?_
    refine ⟨((i + j) / 2, ndL l[(i + j) / 2]), ⟨hh, by simp [hm]⟩, ?_⟩
    refine nw ?_
    refine ⟨([], [(false, [.f (iL (idD l id ((i + j) / 2)))])]), ?_, ?_⟩
    · rw [show idD l id ((i + j) / 2) = IntKind.i64.wrap (l[(i + j) / 2].id - id) by simp [idD, hm]]
      exact find1_ok l[(i + j) / 2] id
    refine nw ?_
    refine ⟨fun h => ?_, fun h => ?_⟩
    · refine nw ?_
      refine ⟨j - ((i + j) / 2 + 1), [], [], [(10, .val false [.f (iL j)]), (9, .val false [.f (iL ((i + j) / 2 + 1 : Nat))]), (8, .val false [.f (iL l.length)]), (2, .val false [.f (.cl 288 [])]), (1, .val false [.f (iL id)]), (0, .val false [.f (nds l)])], [], by omega, ⟨?_, ?_, ?_⟩, (i + j) / 2 + 1, j, rfl, by omega, hj, ?_, rfl, rfl⟩
      · rfl
      · refine tel1 ?_
        rw [hh]; exact wrap_suc (by omega)
      · exact tel
      · exact (bsAt_yes h' (by simpa using h)).trans hb
    · refine nw ?_
      refine ⟨(i + j) / 2 - i, [], [], [(10, .val false [.f (iL ((i + j) / 2 : Nat))]), (9, .val false [.f (iL i)]), (8, .val false [.f (iL l.length)]), (2, .val false [.f (.cl 288 [])]), (1, .val false [.f (iL id)]), (0, .val false [.f (nds l)])], [], by omega, ⟨?_, ?_, ?_⟩, i, (i + j) / 2, rfl, by omega, by omega, ?_, rfl, rfl⟩
      · rfl
      · refine tel1 ?_
        exact hh
      · exact tel
      · exact (bsAt_no h' (by simpa using h)).trans hb
  · have h' : i = j := by omega
    subst h'
    have hx : i = bsIx l id := by rw [← hb, bsAt_end]
    refine nw ?_
    refine ⟨fun h => ?_, fun h => ?_⟩
    · have hm : i < l.length := by omega
      refine nw ?_
      refine ⟨(i, ndL l[i]), ⟨rfl, by simp [hm]⟩, ?_⟩
      refine nw ?_
      refine ⟨([], [(false, [.f (iL (idD l id i))])]), ?_, ?_⟩
      · rw [show idD l id i = IntKind.i64.wrap (l[i].id - id) by simp [idD, hm]]
        exact find1_ok l[i] id
      refine nw ?_
      refine ⟨fun h => ?_, fun h => ?_⟩
      · refine nw ?_
        refine ⟨[], [], ?_⟩
        refine tel2 ?_ ?_
        · rw [hx]
        · exact b_true ⟨hx ▸ hm, hx ▸ h⟩
      · refine nw ?_
        refine ⟨[], [], ?_⟩
        refine tel2 ?_ ?_
        · rw [hx]
        · exact b_false fun e => h (hx.symm ▸ e.2)
    · refine nw ?_
      refine ⟨[], [], ?_⟩
      refine tel2 ?_ ?_
      · rw [hx]
      · exact b_false fun e => h (by rw [hx]; exact_mod_cast e.1)
end Go.Proofs.YtecnmodeggnjoaaGreat.Ac
