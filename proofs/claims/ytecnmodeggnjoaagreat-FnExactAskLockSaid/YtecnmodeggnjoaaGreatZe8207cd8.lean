/- Several of our texts, one behind the other, without what this claim does not need: Ld. -/
import Derived.Test.YtecnmodeggnjoaaGreatZe2002630
import Derived.Test.YtecnmodeggnjoaaGreatZe1b7b2ee
import Derived.Test.YtecnmodeggnjoaaGreatZe8e65b59
set_option linter.unusedVariables false
set_option linter.unusedSimpArgs false
set_option maxRecDepth 20000
set_option maxHeartbeats 20000000
namespace Go.Proofs.YtecnmodeggnjoaaGreat.Ac
open Go.RowKit
theorem holds_next {d : Dc} {l : List Ho} {i : Nat} (hi : i < l.length) (h : ∀ j (hj : j < l.length), j < i → holdP d l[j] ∧ ∀ k (hk : k + 1 = j), lessP l[k] l[j]) (h1 : holdP d l[i]) (h2 : ∀ k (hk : k + 1 = i), lessP l[k] l[i]) :
    ∀ j (hj : j < l.length), j < i + 1 → holdP d l[j] ∧ ∀ k (hk : k + 1 = j), lessP l[k] l[j] := fun j hj hji => by
  by_cases k : j < i
  · exact h j hj k
  · obtain rfl : j = i := by omega
    exact ⟨h1, h2⟩
theorem holdsOK_ok (d : Dc) (h64 : Dc64 d) (l : List Ho) (hl : l.length < 2 ^ 62) (hn : ∀ x ∈ l, I64 x.node) : FC Tryz.prog 163 [(true, dcL d), (false, [hos l])] [] [(false, [.f (bL (dB (DOK d ∧ HoldsP d l)))])] := by
  have hD := docOK_ok d h64
  have hlen : ((l.map hoL).length : Int) = l.length := by rw [List.length_map]
  cases kd : dokB d with
  | false =>
    rw [kd] at hD
    have q : dB (DOK d ∧ HoldsP d l) = false := dB_no fun w => by rw [dokB_yes w.1] at kd; cases kd
    refine gr Tryz.func163 Tryz.ntmps163 trivial ?_
    refine ⟨([], _), hD, nx ?_⟩
    exact ⟨[], [], don⟩
  | true =>
  rw [kd] at hD
  have hd := dokB_iff.1 kd
  by_cases k30 : (l.length : Int) > 30
  · have q : dB (DOK d ∧ HoldsP d l) = false := dB_no fun w => by have := w.2.1; omega
    refine gr Tryz.func163 Tryz.ntmps163 trivial ?_
    refine ⟨([], _), hD, nx ?_⟩
    rw [hlen]
    refine ⟨fun h => nx ?_, fun h => absurd h (fun w => w k30)⟩
    exact ⟨[], [], don⟩
  refine gr Tryz.func163 Tryz.ntmps163 trivial ?_
  refine ⟨([], _), hD, nx ?_⟩
  rw [hlen]
  refine ⟨fun h => absurd h (k30), fun h => nx ?_⟩
  (refine ⟨fun m es hs => ∃ (i : Nat), (m + i = l.length) ∧ (∀ j (hj : j < l.length), j < i → holdP d l[j] ∧ ∀ k (hk : k + 1 = j), lessP l[k] l[j]) ∧ es = [(17, .val false [.f (iL i)]), (16, .val false [.f (iL l.length)]), (15, .val false [.f (hos l)]), (2, .val false [.pt 48 0 0]), (1, .val false [.f (hos l)])] ∧ hs = [(48, some ⟨3, 3, [(dcL d).map .f]⟩)], ⟨l.length, [], [], _, _, don, 0, don, don, rfl, rfl⟩, ?_⟩; rintro m _ _ ⟨i, hHOK0, hHOK1, rfl, rfl⟩; refine nx ?_)
  refine ⟨fun h => nx ?_, fun h => nx ?_⟩
  have hi : i < l.length := by omega
  refine ⟨(i, hoL l[i]), ⟨rfl, by simp [hi]⟩, nx ?_⟩
  have hh := isHold_ok d hd l[i] (hn _ (List.getElem_mem _))
  by_cases kh : holdP d l[i]
  case neg =>
    have q : dB (DOK d ∧ HoldsP d l) = false := dB_no fun w => kh (w.2.2 i hi).1
    refine ⟨⟨true, [], _, _, _, _⟩, hh.x kh, cd ?_⟩
    exact ⟨[], [], don⟩
  refine ⟨⟨true, [], _, _, _, _⟩, hh.y kh, cd ?_⟩
  by_cases k0 : 0 < i
  refine ⟨fun h => nx ?_, fun h => absurd h (by omega)⟩
  refine ⟨(i - 1, hoL l[i - 1]), ⟨by rw [IntKind.wrap_i64]; omega, by simp [show i - 1 < l.length by omega]⟩, nx ?_⟩
  refine ⟨([], _), compareHolds_ok l[i - 1] l[i], nx ?_⟩
  by_cases kl : lessP l[i - 1] l[i]
  have q := holds_next hi hHOK1 kh fun k hk => by (obtain rfl : k = i - 1 := (by omega)); exact kl
  refine ⟨fun h => absurd h (fun w => (cmpH_less _ _).1 w kl), fun h => nx ?_⟩
  exact ⟨m - 1, [], [], _, _, by omega, don, (i + 1), don, don, rfl, rfl⟩
  have q : dB (DOK d ∧ HoldsP d l) = false := dB_no fun w => kl ((w.2.2 i hi).2 (i - 1) (by omega))
  refine ⟨fun h => nx ?_, fun h => absurd h (fun w => w ((cmpH_less _ _).2 kl))⟩
  exact ⟨[], [], don⟩
  have q := holds_next hi hHOK1 kh fun k hk => by omega
  refine ⟨fun h => absurd h (by omega), fun h => nx ?_⟩
  exact ⟨m - 1, [], [], _, _, by omega, don, (i + 1), don, don, rfl, rfl⟩
  have q : dB (DOK d ∧ HoldsP d l) = true := dB_yes ⟨hd, by omega, fun j hj => hHOK1 j hj (by omega)⟩
  exact ⟨[], [], don⟩
  all_goals intro j hj hji; omega
theorem l07Holds_ok (d : Dc) (hdl : d.nodes.length < 2 ^ 62) (l : List Ho) (hl : l.length < 2 ^ 62) : FC Tryz.prog 242 [(true, dcL d), (false, [hos l])] [] [(false, [.f (bL (dB (HoldsP d l)))])] := by
  have hlen : ((l.map hoL).length : Int) = l.length := by rw [List.length_map]
  by_cases k30 : (l.length : Int) > 30
  · have q : dB (HoldsP d l) = false := dB_no fun w => by have := w.1; omega
    refine gr Tryz.func242 Tryz.ntmps242 trivial ?_
    rw [hlen]
    refine ⟨fun h => nx ?_, fun h => absurd h (fun w => w k30)⟩
    exact ⟨[], [], don⟩
  refine gr Tryz.func242 Tryz.ntmps242 trivial ?_
  rw [hlen]
  refine ⟨fun h => absurd h (k30), fun h => nx ?_⟩
  (refine ⟨fun m es hs => ∃ (i : Nat), (m + i = l.length) ∧ (∀ j (hj : j < l.length), j < i → holdP d l[j] ∧ ∀ k (hk : k + 1 = j), lessP l[k] l[j]) ∧ es = [(5, .val false [.f (iL i)]), (2, .val false [.pt 48 0 0]), (1, .val false [.f (hos l)])] ∧ hs = [(48, some ⟨3, 3, [(dcL d).map .f]⟩)], ⟨l.length, [], [], _, _, don, 0, don, don, rfl, rfl⟩, ?_⟩; rintro m _ _ ⟨i, hHOS0, hHOS1, rfl, rfl⟩; refine nx ?_)
  refine ⟨fun h => nx ?_, fun h => nx ?_⟩
  have hi : i < l.length := by simpa using h
  refine ⟨(i, hoL l[i]), ⟨rfl, by simp [hi]⟩, nx ?_⟩
  have hh := l07Hold_ok d hdl l[i]
  by_cases kh : holdP d l[i]
  case neg =>
    have q : dB (HoldsP d l) = false := dB_no fun w => kh (w.2 i hi).1
    refine ⟨([], _), hh.x kh, nx ?_⟩
    exact ⟨[], [], don⟩
  refine ⟨([], _), hh.y kh, nx ?_⟩
  by_cases k0 : 0 < i
  refine ⟨fun h => nx ?_, fun h => absurd h (by omega)⟩
  refine ⟨(i - 1, hoL l[i - 1]), ⟨by rw [IntKind.wrap_i64]; omega, by simp [show i - 1 < l.length by omega]⟩, nx ?_⟩
  refine ⟨(i, hoL l[i]), ⟨rfl, by simp [hi]⟩, nx ?_⟩
  by_cases kl : lessP l[i - 1] l[i]
  have q := holds_next hi hHOS1 kh fun k hk => by (obtain rfl : k = i - 1 := (by omega)); exact kl
  refine ⟨([], _), (l07Less_ok _ _).y kl, nx ?_⟩
  exact ⟨m - 1, [], [], _, _, by omega, don, (i + 1), don, don, rfl, rfl⟩
  have q : dB (HoldsP d l) = false := dB_no fun w => kl ((w.2 i hi).2 (i - 1) (by omega))
  refine ⟨([], _), (l07Less_ok _ _).x kl, nx ?_⟩
  exact ⟨[], [], don⟩
  have q := holds_next hi hHOS1 kh fun k hk => by omega
  refine ⟨fun h => absurd h (by omega), fun h => nx ?_⟩
  exact ⟨m - 1, [], [], _, _, by omega, don, (i + 1), don, don, rfl, rfl⟩
  have hi : l.length ≤ i := by simpa using h
  have q : dB (HoldsP d l) = true := dB_yes ⟨by omega, fun j hj => hHOS1 j hj (by omega)⟩
  exact ⟨[], [], don⟩
  all_goals intro j hj hji; omega
theorem specHoldsOK_ok (d : Dc) (h64 : Dc64 d) (hdl : d.nodes.length < 2 ^ 61) (l : List Ho) (hl : l.length < 2 ^ 62) : FC Tryz.prog 158 [(true, dcL d), (false, [hos l])] [] [(false, [.f (bL (dB (DOK d ∧ HoldsP d l)))])] := by
  have hD := l02OK_ok d h64
  have hlen : ((l.map hoL).length : Int) = l.length := by rw [List.length_map]
  by_cases k30 : (l.length : Int) > 4096
  · have q : dB (DOK d ∧ HoldsP d l) = false := dB_no fun w => by have := w.2.1; omega
    refine gr Tryz.func158 Tryz.ntmps158 trivial ?_
    rw [hlen]
    refine ⟨fun h => nx ?_, fun h => absurd h (fun w => w k30)⟩
    exact ⟨[], [], don⟩
  cases kd : dokB d with
  | false =>
    rw [kd] at hD
    have q : dB (DOK d ∧ HoldsP d l) = false := dB_no fun w => by rw [dokB_yes w.1] at kd; cases kd
    refine gr Tryz.func158 Tryz.ntmps158 trivial ?_
    rw [hlen]
    refine ⟨fun h => absurd h (k30), fun h => nx ?_⟩
    refine ⟨([], _), hD, nx ?_⟩
    exact ⟨[], [], don⟩
  | true =>
  rw [kd] at hD
  have hd := dokB_iff.1 kd
  have q : dB (DOK d ∧ HoldsP d l) = dB (HoldsP d l) := by rw [show (DOK d ∧ HoldsP d l) = HoldsP d l from propext ⟨fun w => w.2, fun w => ⟨hd, w⟩⟩]
  refine gr Tryz.func158 Tryz.ntmps158 trivial ?_
  rw [hlen]
  refine ⟨fun h => absurd h (k30), fun h => nx ?_⟩
  refine ⟨([], _), hD, nx ?_⟩
  refine ⟨([], _), l07Holds_ok d (by omega) l hl, nx ?_⟩
  exact ⟨[], [], don⟩
theorem dedG_snoc (y : Int) : ∀ (l : List Int) (p : Int), dedG p (l ++ [y]) = if y = (p :: l).getLast (by simp) then dedG p l else dedG p l ++ [y]
  | [], p => by by_cases h : y = p <;> simp [dedG, h]
  | x :: l, p => by
    have ih := dedG_snoc y l x
    rw [List.cons_append]
    unfold dedG
    rw [List.getLast_cons (by simp)]
    by_cases h : x = p
    · subst h; rw [if_pos rfl, if_pos rfl]; exact ih
    · rw [if_neg h, if_neg h, ih]
      split <;> simp
theorem ded_snoc (y : Int) {l : List Int} (h : l ≠ []) : dedF (l ++ [y]) = if y = l.getLast h then dedF l else dedF l ++ [y] := by
  cases l with
  | nil => exact absurd rfl h
  | cons x l =>
    show x :: dedG x (l ++ [y]) = if y = (x :: l).getLast h then x :: dedG x l else (x :: dedG x l) ++ [y]
    rw [dedG_snoc]
    split <;> simp
theorem ded_take {l : List Int} {t : Nat} (h0 : 0 < t) (ht : t < l.length) : dedF (l.take (t + 1)) = if l[t] = l[t - 1] then dedF (l.take t) else dedF (l.take t) ++ [l[t]] := by
  have hne : l.take t ≠ [] := by intro e; have := congrArg List.length e; rw [List.length_take, List.length_nil] at this; omega
  rw [List.take_succ_eq_append_getElem ht, ded_snoc _ hne]
  have e : (l.take t).getLast hne = l[t - 1] := by
    rw [List.getLast_eq_getElem]
    simp only [List.getElem_take, List.length_take]
    congr 1
    omega
  rw [e]
theorem app_get_left {α : Type} {W : α → List A} {l u : List α} {k : Nat} (h : k < l.length) : ((l ++ u).map W)[k]? = some (W l[k]) := by
  rw [List.getElem?_map, List.getElem?_append_left h, List.getElem?_eq_getElem h]; rfl
theorem compact_ok (l w : List Int) (hl : l.length < 2 ^ 28) : GCalls Tryz.prog 257 [(1, some ⟨0, 1, (l ++ w).map intW⟩)] [(false, [.row 1 0 l.length])] [(1, some ⟨0, 1, (dedF l ++ (List.replicate (l.length - (dedF l).length) (0 : Int) ++ w)).map intW⟩)] [(false, [.row 1 0 (dedF l).length])] := by
  by_cases k2 : (l.length : Int) < 2
  · have hq : dedF l = l := by
      match l, k2 with
      | [], _ => rfl
      | [x], _ => rfl
      | _ :: _ :: _, h => simp at h; omega
    rw [hq]
    refine gr Tryz.func257 Tryz.ntmps257 (⟨cl_ints _, trivial⟩) ?_
    refine ⟨fun h => nx ?_, fun h => absurd h (fun v => v k2)⟩
    (refine ⟨[], [], ?_⟩; rotate_left)
    simp only [Nat.sub_self, List.replicate_zero, List.nil_append]
    all_goals try exact don
  have q01 : dedF (l.take (0 + 1)) = l.take (0 + 1) := by cases l <;> simp [dedF, dedG]
  refine gr Tryz.func257 Tryz.ntmps257 (⟨cl_ints _, trivial⟩) ?_
  refine ⟨fun h => absurd h (k2), fun h => nx ?_⟩
  (refine ⟨fun m es hs => ∃ (k : Nat), (m + k + 1 = l.length) ∧ (dedF (l.take (k + 1)) = l.take (k + 1)) ∧ es = [(3, .val false [.f (iL ((k + 1 : Nat) : Int))]), (0, .val false [.row 1 0 l.length])] ∧ hs = [(1, some ⟨0, 1, (l ++ w).map intW⟩)], ⟨l.length - 1, [], [], _, _, ⟨rfl, ?_, ?_⟩, 0, ?_, ?_, rfl, rfl⟩, ?_⟩; rotate_left 4; rintro m _ _ ⟨k, hCPA0, hCPA1, rfl, rfl⟩; refine nx ?_)
  refine ⟨fun h => nx ?_, fun h => nx ?_⟩
  have hk : k + 1 < l.length := by omega
  have hdt := ded_take (l := l) (t := k + 1) (by omega) hk
  have hlt : (l.take (k + 1)).length = k + 1 := by simp; omega
  refine ⟨k + 1, ⟨rfl, hk⟩, nx ?_⟩
  refine ⟨intW l[k + 1], app_get_left hk, nx ?_⟩
  refine ⟨k, ⟨by rw [IntKind.wrap_i64]; omega, by omega⟩, nx ?_⟩
  refine ⟨intW l[k], app_get_left (by omega), nx ?_⟩
  by_cases ke : l[k + 1] = l[k]
  case neg =>
    rw [if_neg (by simpa using ke), hCPA1] at hdt
    have q : dedF (l.take (k + 1 + 1)) = l.take (k + 1 + 1) := by rw [hdt, ← List.take_succ_eq_append_getElem hk]
    refine ⟨fun h => absurd h (ke), fun h => nx ?_⟩
    (refine ⟨m - 1, [], [], [(3, .val false [.f (iL (((k + 1) + 1 : Nat) : Int))]), (0, .val false [.row 1 0 l.length])], [(1, some ⟨0, 1, (l ++ w).map intW⟩)], by omega, ⟨rfl, ?_, ?_⟩, (k + 1), ?_, ?_, rfl, rfl⟩; rotate_left 4)
    all_goals try exact don
  rw [if_pos (by simpa using ke), hCPA1] at hdt
  refine ⟨fun h => nx ?_, fun h => absurd h (fun v => v ke)⟩
  refine ⟨(k + 1, l.length), ⟨rfl, rfl, by omega, .inl (Nat.le_refl _)⟩, nx ?_⟩
  have q0 : (l ++ w).map intW = (l.take (k + 1) ++ l.drop (l.take (k + 1)).length ++ w).map intW := by rw [hlt, List.take_append_drop]
  have q00 := hdt.symm
  (refine ⟨fun m es hs => ∃ (u : Nat) (B : List Int), (m + u + (k + 1) = l.length) ∧ (1 ≤ u) ∧ (B = dedF (l.take (k + 1 + u))) ∧ (B.length + 1 ≤ k + 1 + u) ∧ es = [(5, .val false [.f (iL u)]), (4, .val false [.row 1 (k + 1) l.length]), (3, .val false [.f (iL B.length)]), (0, .val false [.row 1 0 l.length])] ∧ hs = [(1, some ⟨0, 1, (B ++ l.drop B.length ++ w).map intW⟩)], ⟨l.length - (k + 1) - 1, [], [], _, _, ⟨rfl, ?_, ?_⟩, 1, (l.take (k + 1)), ?_, ?_, ?_, ?_, rfl, rfl⟩, ?_⟩; rotate_left 6; rintro m _ _ ⟨u, B, hCPB0, hCPB1, hCPB2, hCPB3, rfl, rfl⟩; refine nx ?_)
  refine ⟨fun h => nx ?_, fun h => nx ?_⟩
  have hu : k + 1 + u < l.length := by omega
  have hst := ded_take (l := l) (t := k + 1 + u) (by omega) hu
  refine ⟨u, ⟨rfl, hu⟩, nx ?_⟩
  refine ⟨intW l[k + 1 + u], app_drop_getT rfl (by omega) hu, nx ?_⟩
  refine ⟨u - 1, ⟨by rw [IntKind.wrap_i64]; omega, by omega⟩, nx ?_⟩
  refine ⟨intW l[k + 1 + (u - 1)], app_drop_getT rfl (by omega) (by omega), nx ?_⟩
  by_cases kn : l[k + 1 + u] = l[k + 1 + (u - 1)]
  case pos =>
    rw [if_pos (by rw [kn]; congr 1; omega)] at hst
    have q : B = dedF (l.take (k + 1 + (u + 1))) := by rw [hCPB2]; exact hst.symm
    refine ⟨fun h => absurd h (fun v => v kn), fun h => nx ?_⟩
    (refine ⟨m - 1, [], [], [(5, .val false [.f (iL (u + 1))]), (4, .val false [.row 1 (k + 1) l.length]), (3, .val false [.f (iL B.length)]), (0, .val false [.row 1 0 l.length])], [(1, some ⟨0, 1, (B ++ l.drop B.length ++ w).map intW⟩)], by omega, ⟨rfl, ?_, ?_⟩, (u + 1), B, ?_, ?_, ?_, ?_, rfl, rfl⟩; rotate_left 6)
    all_goals try exact don
  rw [if_neg (by intro v; exact kn (v.trans (by congr 1; omega)))] at hst
  have q : B ++ [l[k + 1 + u]] = dedF (l.take (k + 1 + (u + 1))) := by rw [hCPB2]; exact hst.symm
  have q2 : (B ++ [l[k + 1 + u]]).length = B.length + 1 := by simp
  have q3 := app_drop_setT (W := intW) (B := B) (l := l) (u := w) rfl (by omega) l[k + 1 + u]
  have q4 := app_drop_getT (W := intW) (B := B) (l := l) (u := w) (t := B.length) rfl (Nat.le_refl _) (by omega)
  have q5 : ((B ++ l.drop B.length ++ w).map intW).set B.length (intW l[k + 1 + u]) = ((B ++ [l[k + 1 + u]]) ++ l.drop (B ++ [l[k + 1 + u]]).length ++ w).map intW := by rw [q2]; exact q3
  refine ⟨fun h => nx ?_, fun h => absurd h (fun v => v kn)⟩
  refine ⟨u, ⟨rfl, hu⟩, nx ?_⟩
  refine ⟨intW l[k + 1 + u], app_drop_getT rfl (by omega) hu, nx ?_⟩
  refine ⟨B.length, ⟨rfl, by omega⟩, nx ?_⟩
  refine ⟨_, q4, nx ?_⟩
  (refine ⟨m - 1, [], [], [(5, .val false [.f (iL (u + 1))]), (4, .val false [.row 1 (k + 1) l.length]), (3, .val false [.f (iL (B ++ [l[k + 1 + u]]).length)]), (0, .val false [.row 1 0 l.length])], [(1, some ⟨0, 1, ((B ++ [l[k + 1 + u]]) ++ l.drop (B ++ [l[k + 1 + u]]).length ++ w).map intW⟩)], by omega, ⟨rfl, ?_, ?_⟩, (u + 1), (B ++ [l[k + 1 + u]]), ?_, ?_, ?_, ?_, rfl, rfl⟩; rotate_left 6)
  have hu : k + 1 + u = l.length := by omega
  rw [hu, List.take_length] at hCPB2
  have hle := ded_len l
  rw [← hCPB2] at hle
  refine ⟨(B.length, l.length), ⟨rfl, rfl, by omega, .inl (Nat.le_refl _)⟩, nx ?_⟩
  refine ⟨_, clear_tail (W := intW) (B := B) (l := l) (u := w) (0 : Int) rfl rfl (by omega) rfl, nx ?_⟩
  refine ⟨(0, B.length), ⟨rfl, rfl, Nat.zero_le _, .inl (by omega)⟩, nx ?_⟩
  rw [← hCPB2]
  (refine ⟨[], [], ?_⟩; rotate_left)
  have hk : k + 1 = l.length := by omega
  rw [hk, List.take_length] at hCPA1
  rw [hCPA1]
  (refine ⟨[], [], ?_⟩; rotate_left)
  simp only [Nat.sub_self, List.replicate_zero, List.nil_append]
  all_goals try exact don
theorem sess_take {l : List Ho} {i : Nat} (hi : i < l.length) : (l.take (i + 1)).map (·.session) = (l.take i).map (·.session) ++ [l[i].session] := by
  rw [List.take_succ_eq_append_getElem hi, List.map_append]; rfl
def sessT (l : List Ho) : List Int := List.replicate (l.length - (sessF l).length) 0 ++ []
theorem sessionsOf_ok (l : List Ho) (hl : l.length < 2 ^ 28) (hr : RiseH l) : FC Tryz.prog 213 [(false, [hos l])] [(1000, some ⟨0, 1, (sessF l ++ sessT l).map intW⟩)] [(false, [.row 1000 0 (sessF l).length])] := by
  have hs := sort_id hr.le
  have hso := sort_ok (l.map (·.session)) (by simp; omega)
  have hco := compact_ok (l.map (·.session)) [] (by simp; omega)
  rw [List.append_nil] at hco
  rw [hs] at hso
  refine gr Tryz.func213 Tryz.ntmps213 (⟨cl_ints _, trivial⟩) ?_
  (refine ⟨fun m es hs => ∃ (i : Nat) (out : List Int), (m + i = l.length) ∧ (out = (l.take i).map (·.session)) ∧ es = [(8, .val false [.f (iL i)]), (7, .val false [.f (iL l.length)]), (6, .val false [.f (hos l)]), (3, .val false [.row 3 0 out.length])] ∧ hs = [(3, some ⟨0, 1, out.map intW⟩)], ⟨l.length, [], [], _, _, don, 0, ([]), don, don, rfl, rfl⟩, ?_⟩; rintro m _ _ ⟨i, out, hSOF0, hSOF1, rfl, rfl⟩; refine nx ?_)
  refine ⟨fun h => nx ?_, fun h => nx ?_⟩
  have hi : i < l.length := by omega
  have q := sess_take hi
  have q1 : out ++ [l[i].session] = (l.take (i + 1)).map (·.session) := by rw [q, hSOF1]
  have hol : out.length ≤ l.length := by rw [hSOF1]; simp; omega
  refine ⟨(i, hoL l[i]), ⟨rfl, by simp [hi]⟩, nx ?_⟩
  refine ⟨(out ++ [l[i].session]).map intW, ⟨app_one intW out _, by simp; omega⟩, nx ?_⟩
  exact ⟨m - 1, [], [(3, 272)], _, _, by omega, don, (i + 1), (out ++ [l[i].session]), don, don, rfl, rfl⟩
  have hi : l.length ≤ i := by omega
  rw [List.take_of_length_le hi] at hSOF1
  subst hSOF1
  refine ⟨⟨false, [(1, 3)], _, _, _, _⟩, hso, cd ?_⟩
  refine ⟨⟨false, [(1, 3)], _, _, _, _⟩, hco, cd ?_⟩
  simp only [List.length_map]
  unfold sessT
  exact ⟨[], [(1000, 3)], don⟩
theorem ded_last : ∀ {l : List Int} (h : l ≠ []) (h' : dedF l ≠ []), (dedF l).getLast h' = l.getLast h := by
  have key : ∀ (l : List Int) (p : Int), (p :: dedG p l).getLast (by simp) = (p :: l).getLast (by simp) := by
    intro l
    induction l with
    | nil => intro p; rfl
    | cons x l ih =>
      intro p
      have e2 : (p :: x :: l).getLast (by simp) = (x :: l).getLast (by simp) := List.getLast_cons (by simp)
      rw [e2, ← ih x]
      by_cases h : x = p
      · subst h; simp [dedG]
      · simp [dedG, h]
  intro l h h'
  cases l with
  | nil => exact absurd rfl h
  | cons x l => exact key l x
theorem l07Sessions_ok (l : List Ho) (hl : l.length < 2 ^ 28) : FC Tryz.prog 308 [(false, [hos l])] [(1000, some ⟨0, 1, (sessF l).map intW⟩)] [(false, [.row 1000 0 (sessF l).length])] := by
  refine gr Tryz.func308 Tryz.ntmps308 (⟨cl_ints _, trivial⟩) ?_
  (refine ⟨fun m es hs => ∃ (i : Nat) (out : List Int), (m + i = l.length) ∧ (out = dedF ((l.take i).map (·.session))) ∧ es = [(4, .val false [.f (iL i)]), (3, .val false [.row 3 0 out.length]), (0, .val false [.f (hos l)])] ∧ hs = [(3, some ⟨0, 1, out.map intW⟩)], ⟨l.length, [], [(3, 96)], _, _, don, 0, ([]), don, don, rfl, rfl⟩, ?_⟩; rintro m _ _ ⟨i, out, hSES0, hSES1, rfl, rfl⟩; refine nx ?_)
  refine ⟨fun h => nx ?_, fun h => nx ?_⟩
  have hi : i < l.length := by simpa using h
  have q := sess_take hi
  have hol : out.length ≤ i := by rw [hSES1]; have := ded_len ((l.take i).map (·.session)); rw [List.length_map, List.length_take] at this; omega
  by_cases k0 : i = 0
  · subst k0
    have ho : out = [] := by rw [hSES1]; rfl
    subst ho
    have q1 : [] ++ [l[0].session] = dedF ((l.take (0 + 1)).map (·.session)) := by rw [q]; rfl
    refine ⟨fun h => nx ?_, fun h => absurd h (fun w => w rfl)⟩
    refine ⟨(0, hoL l[0]), ⟨rfl, by simp [hi]⟩, nx ?_⟩
    refine ⟨([] ++ [l[0].session]).map intW, ⟨rfl, by simp⟩, nx ?_⟩
    exact ⟨m - 1, [], [(3, 592)], _, _, by omega, don, (0 + 1), ([] ++ [l[0].session]), don, don, rfl, rfl⟩
  have hne : (l.take i).map (·.session) ≠ [] := by intro e; have := congrArg List.length e; rw [List.length_map, List.length_take, List.length_nil] at this; omega
  have hno : out ≠ [] := by
    rw [hSES1]
    intro e
    obtain ⟨x, r, hx⟩ := List.exists_cons_of_ne_nil hne
    rw [hx] at e; cases e
  have hol0 : 0 < out.length := List.length_pos_iff.2 hno
  have hlast : out[out.length - 1]'(by omega) = l[i - 1].session := by
    have e1 : out.getLast hno = ((l.take i).map (·.session)).getLast hne := by
      have := ded_last hne (by rw [← hSES1]; exact hno)
      rw [← this]; congr 1
    rw [List.getLast_eq_getElem, List.getLast_eq_getElem] at e1
    rw [e1]
    simp only [List.getElem_map, List.getElem_take, List.length_map, List.length_take]
    congr 2
    omega
  have hd := ded_snoc l[i].session hne
  have hgl : ((l.take i).map (·.session)).getLast hne = l[i - 1].session := by
    rw [List.getLast_eq_getElem]
    simp only [List.getElem_map, List.getElem_take, List.length_map, List.length_take]
    congr 2
    omega
  rw [hgl] at hd
  refine ⟨fun h => absurd h (by omega), fun h => nx ?_⟩
  refine ⟨out.length - 1, ⟨by rw [IntKind.wrap_i64]; omega, by omega⟩, nx ?_⟩
  refine ⟨intW (out[out.length - 1]'(by omega)), by simp [show out.length - 1 < out.length by omega], nx ?_⟩
  refine ⟨(i, hoL l[i]), ⟨rfl, by simp [hi]⟩, nx ?_⟩
  rw [hlast]
  by_cases ke : l[i - 1].session = l[i].session
  · rw [if_pos ke.symm] at hd
    have q1 : out = dedF ((l.take (i + 1)).map (·.session)) := by rw [q, hSES1]; exact hd.symm
    refine ⟨fun h => absurd h (fun w => w ke), fun h => nx ?_⟩
    exact ⟨m - 1, [], [(3, 3)], _, _, by omega, don, (i + 1), out, don, don, rfl, rfl⟩
  · rw [if_neg fun w => ke w.symm] at hd
    have q1 : out ++ [l[i].session] = dedF ((l.take (i + 1)).map (·.session)) := by rw [q, hSES1]; exact hd.symm
    refine ⟨fun h => nx ?_, fun h => absurd h (fun w => w ke)⟩
    refine ⟨(i, hoL l[i]), ⟨rfl, by simp [hi]⟩, nx ?_⟩
    refine ⟨(out ++ [l[i].session]).map intW, ⟨app_one intW out _, by simp; omega⟩, nx ?_⟩
    exact ⟨m - 1, [], [(3, 592)], _, _, by omega, don, (i + 1), (out ++ [l[i].session]), don, don, rfl, rfl⟩
  have hi : l.length ≤ i := by simpa using h
  rw [List.take_of_length_le hi] at hSES1
  subst hSES1
  exact ⟨[], [(1000, 3)], don⟩
end Go.Proofs.YtecnmodeggnjoaaGreat.Ac
