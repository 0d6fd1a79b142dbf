/- Several of our texts, one behind the other, without what this claim does not need: Ld. -/
import Derived.Test.YtchfpgpboifbeaaGreatZ49c06576
import Derived.Test.YtchfpgpboifbeaaGreatZdf0e528e
import Derived.Test.YtchfpgpboifbeaaGreatZ8c87fa05
import Derived.Test.YtchfpgpboifbeaaGreatZc0fb2b0b
set_option linter.unusedVariables false
set_option linter.unusedSimpArgs false
set_option maxRecDepth 20000
set_option maxHeartbeats 20000000
namespace Go.Proofs.YtchfpgpboifbeaaGreat.Ac
open Go.RowKit
theorem holds_next {d : Dc} {l : List Ho} {i : Nat} (hi : i < l.length) (h : ∀ j (hj : j < l.length), j < i → holdP d l[j] ∧ ∀ k (hk : k + 1 = j), lessP l[k] l[j]) (h1 : holdP d l[i]) (h2 : ∀ k (hk : k + 1 = i), lessP l[k] l[i]) :
    ∀ j (hj : j < l.length), j < i + 1 → holdP d l[j] ∧ ∀ k (hk : k + 1 = j), lessP l[k] l[j] := fun j hj hji => by
  by_cases k : j < i
  · exact h j hj k
  · obtain rfl : j = i := by omega
    exact ⟨h1, h2⟩
theorem holdsOK_ok (d : Dc) (h64 : Dc64 d) (l : List Ho) (hl : l.length < 2 ^ 62) (hn : ∀ x ∈ l, I64 x.node) : FC Tryz.prog 171 [(true, dcL d), (false, [hos l])] [] [(false, [.f (bL (dB (DOK d ∧ HoldsP d l)))])] := by
  have hD := docOK_ok d h64
  have hlen : ((l.map hoL).length : Int) = l.length := by rw [List.length_map]
  cases kd : dokB d with
  | false =>
    rw [kd] at hD
    have q : dB (DOK d ∧ HoldsP d l) = false := dB_no fun w => by rw [dokB_yes w.1] at kd; cases kd
    refine gcalls_run tbl_ok mixed Tryz.func171 rfl Tryz.ntmps171 (by kernel_rfl) (Nat.le_of_ble_eq_true rfl) rfl rfl trivial ?_; (conv => whnf); (repeat (refine ⟨by kernel_rfl, ?_⟩; (conv => whnf)))
    (refine ⟨([], _), hD, ?_⟩; (conv => whnf); (repeat (refine ⟨by kernel_rfl, ?_⟩; (conv => whnf))))
    (refine ⟨[], [], ?_⟩; rotate_left)
    all_goals try exact don
  | true =>
  rw [kd] at hD
  have hd := dokB_iff.1 kd
  by_cases k30 : (l.length : Int) > 30
  · have q : dB (DOK d ∧ HoldsP d l) = false := dB_no fun w => by have := w.2.1; omega
    refine gcalls_run tbl_ok mixed Tryz.func171 rfl Tryz.ntmps171 (by kernel_rfl) (Nat.le_of_ble_eq_true rfl) rfl rfl trivial ?_; (conv => whnf); (repeat (refine ⟨by kernel_rfl, ?_⟩; (conv => whnf)))
    (refine ⟨([], _), hD, ?_⟩; (conv => whnf); (repeat (refine ⟨by kernel_rfl, ?_⟩; (conv => whnf))))
    rw [hlen]
    (refine ⟨fun h => ?_, fun h => absurd h (fun w => w k30)⟩; (conv => whnf); (repeat (refine ⟨by kernel_rfl, ?_⟩; (conv => whnf))))
    (refine ⟨[], [], ?_⟩; rotate_left)
    all_goals try exact don
  refine gcalls_run tbl_ok mixed Tryz.func171 rfl Tryz.ntmps171 (by kernel_rfl) (Nat.le_of_ble_eq_true rfl) rfl rfl trivial ?_; (conv => whnf); (repeat (refine ⟨by kernel_rfl, ?_⟩; (conv => whnf)))
  (refine ⟨([], _), hD, ?_⟩; (conv => whnf); (repeat (refine ⟨by kernel_rfl, ?_⟩; (conv => whnf))))
  rw [hlen]
  (refine ⟨fun h => absurd h (k30), fun h => ?_⟩; (conv => whnf); (repeat (refine ⟨by kernel_rfl, ?_⟩; (conv => whnf))))
  (refine ⟨fun (m : Nat) (es : Es) (hs : Hs) => ∃ (i : Nat), (m + i = l.length) ∧ (∀ j (hj : j < l.length), j < i → holdP d l[j] ∧ ∀ k (hk : k + 1 = j), lessP l[k] l[j]) ∧ es = [(17, .val false [.f (iL i)]), (16, .val false [.f (iL l.length)]), (15, .val false [.f (hos l)]), (2, .val false [.pt 48 0 0]), (1, .val false [.f (hos l)])] ∧ hs = [(48, some ⟨3, 3, [(dcL d).map .f]⟩)], ⟨l.length, [], [], _, _, ⟨rfl, ?_, ?_⟩, 0, ?_, ?_, rfl, rfl⟩, ?_⟩; rotate_left 4; rintro m es hs ⟨i, hHOK0, hHOK1, rfl, rfl⟩; (conv => whnf); (repeat (refine ⟨by kernel_rfl, ?_⟩; (conv => whnf))))
  (refine ⟨fun h => ?_, fun h => ?_⟩ <;> ((conv => whnf); (repeat (refine ⟨by kernel_rfl, ?_⟩; (conv => whnf)))))
  have hi : i < l.length := by omega
  (refine ⟨(i, hoL l[i]), ⟨rfl, by simp [hi]⟩, ?_⟩; (conv => whnf); (repeat (refine ⟨by kernel_rfl, ?_⟩; (conv => whnf))))
  have hh := isHold_ok d hd l[i] (hn _ (List.getElem_mem _))
  by_cases kh : holdP d l[i]
  case neg =>
    have q : dB (DOK d ∧ HoldsP d l) = false := dB_no fun w => kh (w.2.2 i hi).1
    (refine ⟨⟨true, [], _, _, _, _⟩, hh.x kh, ?_⟩; (conv => whnf); (repeat (refine ⟨by kernel_rfl, ?_⟩; (conv => whnf))); refine ⟨⟨?_, ?_, ?_⟩, ?_⟩; rotate_left 3; (conv => whnf); (repeat (refine ⟨by kernel_rfl, ?_⟩; (conv => whnf))))
    (refine ⟨[], [], ?_⟩; rotate_left)
    all_goals try exact don
  (refine ⟨⟨true, [], _, _, _, _⟩, hh.y kh, ?_⟩; (conv => whnf); (repeat (refine ⟨by kernel_rfl, ?_⟩; (conv => whnf))); refine ⟨⟨?_, ?_, ?_⟩, ?_⟩; rotate_left 3; (conv => whnf); (repeat (refine ⟨by kernel_rfl, ?_⟩; (conv => whnf))))
  by_cases k0 : 0 < i
  (refine ⟨fun h => ?_, fun h => absurd h (by omega)⟩; (conv => whnf); (repeat (refine ⟨by kernel_rfl, ?_⟩; (conv => whnf))))
  (refine ⟨(i - 1, hoL l[i - 1]), ⟨by rw [IntKind.wrap_i64]; omega, by simp [show i - 1 < l.length by omega]⟩, ?_⟩; (conv => whnf); (repeat (refine ⟨by kernel_rfl, ?_⟩; (conv => whnf))))
  (refine ⟨([], _), compareHolds_ok l[i - 1] l[i], ?_⟩; (conv => whnf); (repeat (refine ⟨by kernel_rfl, ?_⟩; (conv => whnf))))
  by_cases kl : lessP l[i - 1] l[i]
  have q := holds_next hi hHOK1 kh fun k hk => by (obtain rfl : k = i - 1 := (by omega)); exact kl
  (refine ⟨fun h => absurd h (fun w => (cmpH_less _ _).1 w kl), fun h => ?_⟩; (conv => whnf); (repeat (refine ⟨by kernel_rfl, ?_⟩; (conv => whnf))))
  (refine ⟨m - 1, [], [], [(17, .val false [.f (iL (i + 1))]), (16, .val false [.f (iL l.length)]), (15, .val false [.f (hos l)]), (2, .val false [.pt 48 0 0]), (1, .val false [.f (hos l)])], [(48, some ⟨3, 3, [(dcL d).map .f]⟩)], by omega, ⟨rfl, ?_, ?_⟩, (i + 1), ?_, ?_, rfl, rfl⟩; rotate_left 4)
  have q : dB (DOK d ∧ HoldsP d l) = false := dB_no fun w => kl ((w.2.2 i hi).2 (i - 1) (by omega))
  (refine ⟨fun h => ?_, fun h => absurd h (fun w => w ((cmpH_less _ _).2 kl))⟩; (conv => whnf); (repeat (refine ⟨by kernel_rfl, ?_⟩; (conv => whnf))))
  (refine ⟨[], [], ?_⟩; rotate_left)
  have q := holds_next hi hHOK1 kh fun k hk => by omega
  (refine ⟨fun h => absurd h (by omega), fun h => ?_⟩; (conv => whnf); (repeat (refine ⟨by kernel_rfl, ?_⟩; (conv => whnf))))
  (refine ⟨m - 1, [], [], [(17, .val false [.f (iL (i + 1))]), (16, .val false [.f (iL l.length)]), (15, .val false [.f (hos l)]), (2, .val false [.pt 48 0 0]), (1, .val false [.f (hos l)])], [(48, some ⟨3, 3, [(dcL d).map .f]⟩)], by omega, ⟨rfl, ?_, ?_⟩, (i + 1), ?_, ?_, rfl, rfl⟩; rotate_left 4)
  have q : dB (DOK d ∧ HoldsP d l) = true := dB_yes ⟨hd, by omega, fun j hj => hHOK1 j hj (by omega)⟩
  (refine ⟨[], [], ?_⟩; rotate_left)
  all_goals try exact don
  all_goals intro j hj hji; omega
theorem l07Holds_ok (d : Dc) (hdl : d.nodes.length < 2 ^ 62) (l : List Ho) (hl : l.length < 2 ^ 62) : FC Tryz.prog 236 [(true, dcL d), (false, [hos l])] [] [(false, [.f (bL (dB (HoldsP d l)))])] := by
  have hlen : ((l.map hoL).length : Int) = l.length := by rw [List.length_map]
  by_cases k30 : (l.length : Int) > 30
  · have q : dB (HoldsP d l) = false := dB_no fun w => by have := w.1; omega
    refine gcalls_run tbl_ok mixed Tryz.func236 rfl Tryz.ntmps236 (by kernel_rfl) (Nat.le_of_ble_eq_true rfl) rfl rfl trivial ?_; (conv => whnf); (repeat (refine ⟨by kernel_rfl, ?_⟩; (conv => whnf)))
    rw [hlen]
    (refine ⟨fun h => ?_, fun h => absurd h (fun w => w k30)⟩; (conv => whnf); (repeat (refine ⟨by kernel_rfl, ?_⟩; (conv => whnf))))
    (refine ⟨[], [], ?_⟩; rotate_left)
    all_goals try exact don
  refine gcalls_run tbl_ok mixed Tryz.func236 rfl Tryz.ntmps236 (by kernel_rfl) (Nat.le_of_ble_eq_true rfl) rfl rfl trivial ?_; (conv => whnf); (repeat (refine ⟨by kernel_rfl, ?_⟩; (conv => whnf)))
  rw [hlen]
  (refine ⟨fun h => absurd h (k30), fun h => ?_⟩; (conv => whnf); (repeat (refine ⟨by kernel_rfl, ?_⟩; (conv => whnf))))
  (refine ⟨fun (m : Nat) (es : Es) (hs : Hs) => ∃ (i : Nat), (m + i = l.length) ∧ (∀ j (hj : j < l.length), j < i → holdP d l[j] ∧ ∀ k (hk : k + 1 = j), lessP l[k] l[j]) ∧ es = [(5, .val false [.f (iL i)]), (2, .val false [.pt 48 0 0]), (1, .val false [.f (hos l)])] ∧ hs = [(48, some ⟨3, 3, [(dcL d).map .f]⟩)], ⟨l.length, [], [], _, _, ⟨rfl, ?_, ?_⟩, 0, ?_, ?_, rfl, rfl⟩, ?_⟩; rotate_left 4; rintro m es hs ⟨i, hHOS0, hHOS1, rfl, rfl⟩; (conv => whnf); (repeat (refine ⟨by kernel_rfl, ?_⟩; (conv => whnf))))
  (refine ⟨fun h => ?_, fun h => ?_⟩ <;> ((conv => whnf); (repeat (refine ⟨by kernel_rfl, ?_⟩; (conv => whnf)))))
  have hi : i < l.length := by simpa using h
  (refine ⟨(i, hoL l[i]), ⟨rfl, by simp [hi]⟩, ?_⟩; (conv => whnf); (repeat (refine ⟨by kernel_rfl, ?_⟩; (conv => whnf))))
  have hh := l07Hold_ok d hdl l[i]
  by_cases kh : holdP d l[i]
  case neg =>
    have q : dB (HoldsP d l) = false := dB_no fun w => kh (w.2 i hi).1
    (refine ⟨([], _), hh.x kh, ?_⟩; (conv => whnf); (repeat (refine ⟨by kernel_rfl, ?_⟩; (conv => whnf))))
    (refine ⟨[], [], ?_⟩; rotate_left)
    all_goals try exact don
  (refine ⟨([], _), hh.y kh, ?_⟩; (conv => whnf); (repeat (refine ⟨by kernel_rfl, ?_⟩; (conv => whnf))))
  by_cases k0 : 0 < i
  (refine ⟨fun h => ?_, fun h => absurd h (by omega)⟩; (conv => whnf); (repeat (refine ⟨by kernel_rfl, ?_⟩; (conv => whnf))))
  (refine ⟨(i - 1, hoL l[i - 1]), ⟨by rw [IntKind.wrap_i64]; omega, by simp [show i - 1 < l.length by omega]⟩, ?_⟩; (conv => whnf); (repeat (refine ⟨by kernel_rfl, ?_⟩; (conv => whnf))))
  (refine ⟨(i, hoL l[i]), ⟨rfl, by simp [hi]⟩, ?_⟩; (conv => whnf); (repeat (refine ⟨by kernel_rfl, ?_⟩; (conv => whnf))))
  by_cases kl : lessP l[i - 1] l[i]
  have q := holds_next hi hHOS1 kh fun k hk => by (obtain rfl : k = i - 1 := (by omega)); exact kl
  (refine ⟨([], _), (l07Less_ok _ _).y kl, ?_⟩; (conv => whnf); (repeat (refine ⟨by kernel_rfl, ?_⟩; (conv => whnf))))
  (refine ⟨m - 1, [], [], [(5, .val false [.f (iL (i + 1))]), (2, .val false [.pt 48 0 0]), (1, .val false [.f (hos l)])], [(48, some ⟨3, 3, [(dcL d).map .f]⟩)], by omega, ⟨rfl, ?_, ?_⟩, (i + 1), ?_, ?_, rfl, rfl⟩; rotate_left 4)
  have q : dB (HoldsP d l) = false := dB_no fun w => kl ((w.2 i hi).2 (i - 1) (by omega))
  (refine ⟨([], _), (l07Less_ok _ _).x kl, ?_⟩; (conv => whnf); (repeat (refine ⟨by kernel_rfl, ?_⟩; (conv => whnf))))
  (refine ⟨[], [], ?_⟩; rotate_left)
  have q := holds_next hi hHOS1 kh fun k hk => by omega
  (refine ⟨fun h => absurd h (by omega), fun h => ?_⟩; (conv => whnf); (repeat (refine ⟨by kernel_rfl, ?_⟩; (conv => whnf))))
  (refine ⟨m - 1, [], [], [(5, .val false [.f (iL (i + 1))]), (2, .val false [.pt 48 0 0]), (1, .val false [.f (hos l)])], [(48, some ⟨3, 3, [(dcL d).map .f]⟩)], by omega, ⟨rfl, ?_, ?_⟩, (i + 1), ?_, ?_, rfl, rfl⟩; rotate_left 4)
  have hi : l.length ≤ i := by simpa using h
  have q : dB (HoldsP d l) = true := dB_yes ⟨by omega, fun j hj => hHOS1 j hj (by omega)⟩
  (refine ⟨[], [], ?_⟩; rotate_left)
  all_goals try exact don
  all_goals intro j hj hji; omega
theorem specHoldsOK_ok (d : Dc) (h64 : Dc64 d) (hdl : d.nodes.length < 2 ^ 61) (l : List Ho) (hl : l.length < 2 ^ 62) : FC Tryz.prog 167 [(true, dcL d), (false, [hos l])] [] [(false, [.f (bL (dB (DOK d ∧ HoldsP d l)))])] := by
  have hD := l02OK_ok d h64
  have hlen : ((l.map hoL).length : Int) = l.length := by rw [List.length_map]
  by_cases k30 : (l.length : Int) > 4096
  · have q : dB (DOK d ∧ HoldsP d l) = false := dB_no fun w => by have := w.2.1; omega
    refine gcalls_run tbl_ok mixed Tryz.func167 rfl Tryz.ntmps167 (by kernel_rfl) (Nat.le_of_ble_eq_true rfl) rfl rfl trivial ?_; (conv => whnf); (repeat (refine ⟨by kernel_rfl, ?_⟩; (conv => whnf)))
    rw [hlen]
    (refine ⟨fun h => ?_, fun h => absurd h (fun w => w k30)⟩; (conv => whnf); (repeat (refine ⟨by kernel_rfl, ?_⟩; (conv => whnf))))
    (refine ⟨[], [], ?_⟩; rotate_left)
    all_goals try exact don
  cases kd : dokB d with
  | false =>
    rw [kd] at hD
    have q : dB (DOK d ∧ HoldsP d l) = false := dB_no fun w => by rw [dokB_yes w.1] at kd; cases kd
    refine gcalls_run tbl_ok mixed Tryz.func167 rfl Tryz.ntmps167 (by kernel_rfl) (Nat.le_of_ble_eq_true rfl) rfl rfl trivial ?_; (conv => whnf); (repeat (refine ⟨by kernel_rfl, ?_⟩; (conv => whnf)))
    rw [hlen]
    (refine ⟨fun h => absurd h (k30), fun h => ?_⟩; (conv => whnf); (repeat (refine ⟨by kernel_rfl, ?_⟩; (conv => whnf))))
    (refine ⟨([], _), hD, ?_⟩; (conv => whnf); (repeat (refine ⟨by kernel_rfl, ?_⟩; (conv => whnf))))
    (refine ⟨[], [], ?_⟩; rotate_left)
    all_goals try exact don
  | true =>
  rw [kd] at hD
  have hd := dokB_iff.1 kd
  have q : dB (DOK d ∧ HoldsP d l) = dB (HoldsP d l) := by rw [show (DOK d ∧ HoldsP d l) = HoldsP d l from propext ⟨fun w => w.2, fun w => ⟨hd, w⟩⟩]
  refine gcalls_run tbl_ok mixed Tryz.func167 rfl Tryz.ntmps167 (by kernel_rfl) (Nat.le_of_ble_eq_true rfl) rfl rfl trivial ?_; (conv => whnf); (repeat (refine ⟨by kernel_rfl, ?_⟩; (conv => whnf)))
  rw [hlen]
  (refine ⟨fun h => absurd h (k30), fun h => ?_⟩; (conv => whnf); (repeat (refine ⟨by kernel_rfl, ?_⟩; (conv => whnf))))
  (refine ⟨([], _), hD, ?_⟩; (conv => whnf); (repeat (refine ⟨by kernel_rfl, ?_⟩; (conv => whnf))))
  (refine ⟨([], _), l07Holds_ok d (by omega) l hl, ?_⟩; (conv => whnf); (repeat (refine ⟨by kernel_rfl, ?_⟩; (conv => whnf))))
  (refine ⟨[], [], ?_⟩; rotate_left)
  all_goals try exact don
theorem dedG_snoc (y : Int) : ∀ (l : List Int) (p : Int), dedG p (l ++ [y]) = if y = (p :: l).getLast (by simp) then dedG p l else dedG p l ++ [y]
  | [], p => by by_cases h : y = p <;> simp [dedG, h]
  | x :: l, p => by
    have ih := dedG_snoc y l x
    rw [List.cons_append]
    unfold dedG
    rw [List.getLast_cons (by simp)]
    by_cases h : x = p
    · subst h; rw [if_pos rfl, if_pos rfl]; exact ih
    · rw [if_neg h, if_neg h, ih]
      split <;> simp
theorem ded_snoc (y : Int) {l : List Int} (h : l ≠ []) : dedF (l ++ [y]) = if y = l.getLast h then dedF l else dedF l ++ [y] := by
  cases l with
  | nil => exact absurd rfl h
  | cons x l =>
    show x :: dedG x (l ++ [y]) = if y = (x :: l).getLast h then x :: dedG x l else (x :: dedG x l) ++ [y]
    rw [dedG_snoc]
    split <;> simp
theorem ded_take {l : List Int} {t : Nat} (h0 : 0 < t) (ht : t < l.length) : dedF (l.take (t + 1)) = if l[t] = l[t - 1] then dedF (l.take t) else dedF (l.take t) ++ [l[t]] := by
  have hne : l.take t ≠ [] := by intro e; have := congrArg List.length e; rw [List.length_take, List.length_nil] at this; omega
  rw [List.take_succ_eq_append_getElem ht, ded_snoc _ hne]
  have e : (l.take t).getLast hne = l[t - 1] := by
    rw [List.getLast_eq_getElem]
    simp only [List.getElem_take, List.length_take]
    congr 1
    omega
  rw [e]
theorem app_get_left {α : Type} {W : α → List A} {l u : List α} {k : Nat} (h : k < l.length) : ((l ++ u).map W)[k]? = some (W l[k]) := by
  rw [List.getElem?_map, List.getElem?_append_left h, List.getElem?_eq_getElem h]; rfl
theorem compact_ok (l w : List Int) (hl : l.length < 2 ^ 28) : GCalls Tryz.prog 250 [(1, some ⟨0, 1, (l ++ w).map intW⟩)] [(false, [.row 1 0 l.length])] [(1, some ⟨0, 1, (dedF l ++ (List.replicate (l.length - (dedF l).length) (0 : Int) ++ w)).map intW⟩)] [(false, [.row 1 0 (dedF l).length])] := by
  by_cases k2 : (l.length : Int) < 2
  · have hq : dedF l = l := by
      match l, k2 with
      | [], _ => rfl
      | [x], _ => rfl
      | _ :: _ :: _, h => simp at h; omega
    rw [hq]
    refine gcalls_run tbl_ok mixed Tryz.func250 rfl Tryz.ntmps250 (by kernel_rfl) (Nat.le_of_ble_eq_true rfl) rfl rfl (⟨cl_ints _, trivial⟩) ?_; (conv => whnf); (repeat (refine ⟨by kernel_rfl, ?_⟩; (conv => whnf)))
    (refine ⟨fun h => ?_, fun h => absurd h (fun v => v k2)⟩; (conv => whnf); (repeat (refine ⟨by kernel_rfl, ?_⟩; (conv => whnf))))
    (refine ⟨[], [], ?_⟩; rotate_left)
    simp only [Nat.sub_self, List.replicate_zero, List.nil_append]
    all_goals try exact don
  have q01 : dedF (l.take (0 + 1)) = l.take (0 + 1) := by cases l <;> simp [dedF, dedG]
  refine gcalls_run tbl_ok mixed Tryz.func250 rfl Tryz.ntmps250 (by kernel_rfl) (Nat.le_of_ble_eq_true rfl) rfl rfl (⟨cl_ints _, trivial⟩) ?_; (conv => whnf); (repeat (refine ⟨by kernel_rfl, ?_⟩; (conv => whnf)))
  (refine ⟨fun h => absurd h (k2), fun h => ?_⟩; (conv => whnf); (repeat (refine ⟨by kernel_rfl, ?_⟩; (conv => whnf))))
  (refine ⟨fun (m : Nat) (es : Es) (hs : Hs) => ∃ (k : Nat), (m + k + 1 = l.length) ∧ (dedF (l.take (k + 1)) = l.take (k + 1)) ∧ es = [(3, .val false [.f (iL ((k + 1 : Nat) : Int))]), (0, .val false [.row 1 0 l.length])] ∧ hs = [(1, some ⟨0, 1, (l ++ w).map intW⟩)], ⟨l.length - 1, [], [], _, _, ⟨rfl, ?_, ?_⟩, 0, ?_, ?_, rfl, rfl⟩, ?_⟩; rotate_left 4; rintro m es hs ⟨k, hCPA0, hCPA1, rfl, rfl⟩; (conv => whnf); (repeat (refine ⟨by kernel_rfl, ?_⟩; (conv => whnf))))
  (refine ⟨fun h => ?_, fun h => ?_⟩ <;> ((conv => whnf); (repeat (refine ⟨by kernel_rfl, ?_⟩; (conv => whnf)))))
  have hk : k + 1 < l.length := by omega
  have hdt := ded_take (l := l) (t := k + 1) (by omega) hk
  have hlt : (l.take (k + 1)).length = k + 1 := by simp; omega
  (refine ⟨k + 1, ⟨rfl, hk⟩, ?_⟩; (conv => whnf); (repeat (refine ⟨by kernel_rfl, ?_⟩; (conv => whnf))))
  (refine ⟨intW l[k + 1], app_get_left hk, ?_⟩; (conv => whnf); (repeat (refine ⟨by kernel_rfl, ?_⟩; (conv => whnf))))
  (refine ⟨k, ⟨by rw [IntKind.wrap_i64]; omega, by omega⟩, ?_⟩; (conv => whnf); (repeat (refine ⟨by kernel_rfl, ?_⟩; (conv => whnf))))
  (refine ⟨intW l[k], app_get_left (by omega), ?_⟩; (conv => whnf); (repeat (refine ⟨by kernel_rfl, ?_⟩; (conv => whnf))))
  by_cases ke : l[k + 1] = l[k]
  case neg =>
    rw [if_neg (by simpa using ke), hCPA1] at hdt
    have q : dedF (l.take (k + 1 + 1)) = l.take (k + 1 + 1) := by rw [hdt, ← List.take_succ_eq_append_getElem hk]
    (refine ⟨fun h => absurd h (ke), fun h => ?_⟩; (conv => whnf); (repeat (refine ⟨by kernel_rfl, ?_⟩; (conv => whnf))))
    (refine ⟨m - 1, [], [], [(3, .val false [.f (iL (((k + 1) + 1 : Nat) : Int))]), (0, .val false [.row 1 0 l.length])], [(1, some ⟨0, 1, (l ++ w).map intW⟩)], by omega, ⟨rfl, ?_, ?_⟩, (k + 1), ?_, ?_, rfl, rfl⟩; rotate_left 4)
    all_goals try exact don
  rw [if_pos (by simpa using ke), hCPA1] at hdt
  (refine ⟨fun h => ?_, fun h => absurd h (fun v => v ke)⟩; (conv => whnf); (repeat (refine ⟨by kernel_rfl, ?_⟩; (conv => whnf))))
  (refine ⟨(k + 1, l.length), ⟨rfl, rfl, by omega, .inl (Nat.le_refl _)⟩, ?_⟩; (conv => whnf); (repeat (refine ⟨by kernel_rfl, ?_⟩; (conv => whnf))))
  have q0 : (l ++ w).map intW = (l.take (k + 1) ++ l.drop (l.take (k + 1)).length ++ w).map intW := by rw [hlt, List.take_append_drop]
  have q00 := hdt.symm
  (refine ⟨fun (m : Nat) (es : Es) (hs : Hs) => ∃ (u : Nat) (B : List Int), (m + u + (k + 1) = l.length) ∧ (1 ≤ u) ∧ (B = dedF (l.take (k + 1 + u))) ∧ (B.length + 1 ≤ k + 1 + u) ∧ es = [(5, .val false [.f (iL u)]), (4, .val false [.row 1 (k + 1) l.length]), (3, .val false [.f (iL B.length)]), (0, .val false [.row 1 0 l.length])] ∧ hs = [(1, some ⟨0, 1, (B ++ l.drop B.length ++ w).map intW⟩)], ⟨l.length - (k + 1) - 1, [], [], _, _, ⟨rfl, ?_, ?_⟩, 1, (l.take (k + 1)), ?_, ?_, ?_, ?_, rfl, rfl⟩, ?_⟩; rotate_left 6; rintro m es hs ⟨u, B, hCPB0, hCPB1, hCPB2, hCPB3, rfl, rfl⟩; (conv => whnf); (repeat (refine ⟨by kernel_rfl, ?_⟩; (conv => whnf))))
  (refine ⟨fun h => ?_, fun h => ?_⟩ <;> ((conv => whnf); (repeat (refine ⟨by kernel_rfl, ?_⟩; (conv => whnf)))))
  have hu : k + 1 + u < l.length := by omega
  have hst := ded_take (l := l) (t := k + 1 + u) (by omega) hu
  (refine ⟨u, ⟨rfl, hu⟩, ?_⟩; (conv => whnf); (repeat (refine ⟨by kernel_rfl, ?_⟩; (conv => whnf))))
  (refine ⟨intW l[k + 1 + u], app_drop_getT rfl (by omega) hu, ?_⟩; (conv => whnf); (repeat (refine ⟨by kernel_rfl, ?_⟩; (conv => whnf))))
  (refine ⟨u - 1, ⟨by rw [IntKind.wrap_i64]; omega, by omega⟩, ?_⟩; (conv => whnf); (repeat (refine ⟨by kernel_rfl, ?_⟩; (conv => whnf))))
  (refine ⟨intW l[k + 1 + (u - 1)], app_drop_getT rfl (by omega) (by omega), ?_⟩; (conv => whnf); (repeat (refine ⟨by kernel_rfl, ?_⟩; (conv => whnf))))
  by_cases kn : l[k + 1 + u] = l[k + 1 + (u - 1)]
  case pos =>
    rw [if_pos (by rw [kn]; congr 1; omega)] at hst
    have q : B = dedF (l.take (k + 1 + (u + 1))) := by rw [hCPB2]; exact hst.symm
    (refine ⟨fun h => absurd h (fun v => v kn), fun h => ?_⟩; (conv => whnf); (repeat (refine ⟨by kernel_rfl, ?_⟩; (conv => whnf))))
    (refine ⟨m - 1, [], [], [(5, .val false [.f (iL (u + 1))]), (4, .val false [.row 1 (k + 1) l.length]), (3, .val false [.f (iL B.length)]), (0, .val false [.row 1 0 l.length])], [(1, some ⟨0, 1, (B ++ l.drop B.length ++ w).map intW⟩)], by omega, ⟨rfl, ?_, ?_⟩, (u + 1), B, ?_, ?_, ?_, ?_, rfl, rfl⟩; rotate_left 6)
    all_goals try exact don
  rw [if_neg (by intro v; exact kn (v.trans (by congr 1; omega)))] at hst
  have q : B ++ [l[k + 1 + u]] = dedF (l.take (k + 1 + (u + 1))) := by rw [hCPB2]; exact hst.symm
  have q2 : (B ++ [l[k + 1 + u]]).length = B.length + 1 := by simp
  have q3 := app_drop_setT (W := intW) (B := B) (l := l) (u := w) rfl (by omega) l[k + 1 + u]
  have q4 := app_drop_getT (W := intW) (B := B) (l := l) (u := w) (t := B.length) rfl (Nat.le_refl _) (by omega)
  have q5 : ((B ++ l.drop B.length ++ w).map intW).set B.length (intW l[k + 1 + u]) = ((B ++ [l[k + 1 + u]]) ++ l.drop (B ++ [l[k + 1 + u]]).length ++ w).map intW := by rw [q2]; exact q3
  (refine ⟨fun h => ?_, fun h => absurd h (fun v => v kn)⟩; (conv => whnf); (repeat (refine ⟨by kernel_rfl, ?_⟩; (conv => whnf))))
  (refine ⟨u, ⟨rfl, hu⟩, ?_⟩; (conv => whnf); (repeat (refine ⟨by kernel_rfl, ?_⟩; (conv => whnf))))
  (refine ⟨intW l[k + 1 + u], app_drop_getT rfl (by omega) hu, ?_⟩; (conv => whnf); (repeat (refine ⟨by kernel_rfl, ?_⟩; (conv => whnf))))
  (refine ⟨B.length, ⟨rfl, by omega⟩, ?_⟩; (conv => whnf); (repeat (refine ⟨by kernel_rfl, ?_⟩; (conv => whnf))))
  (refine ⟨_, q4, ?_⟩; (conv => whnf); (repeat (refine ⟨by kernel_rfl, ?_⟩; (conv => whnf))))
  (refine ⟨m - 1, [], [], [(5, .val false [.f (iL (u + 1))]), (4, .val false [.row 1 (k + 1) l.length]), (3, .val false [.f (iL (B ++ [l[k + 1 + u]]).length)]), (0, .val false [.row 1 0 l.length])], [(1, some ⟨0, 1, ((B ++ [l[k + 1 + u]]) ++ l.drop (B ++ [l[k + 1 + u]]).length ++ w).map intW⟩)], by omega, ⟨rfl, ?_, ?_⟩, (u + 1), (B ++ [l[k + 1 + u]]), ?_, ?_, ?_, ?_, rfl, rfl⟩; rotate_left 6)
  have hu : k + 1 + u = l.length := by omega
  rw [hu, List.take_length] at hCPB2
  have hle := ded_len l
  rw [← hCPB2] at hle
  (refine ⟨(B.length, l.length), ⟨rfl, rfl, by omega, .inl (Nat.le_refl _)⟩, ?_⟩; (conv => whnf); (repeat (refine ⟨by kernel_rfl, ?_⟩; (conv => whnf))))
  (refine ⟨_, clear_tail (W := intW) (B := B) (l := l) (u := w) (0 : Int) rfl rfl (by omega) rfl, ?_⟩; (conv => whnf); (repeat (refine ⟨by kernel_rfl, ?_⟩; (conv => whnf))))
  (refine ⟨(0, B.length), ⟨rfl, rfl, Nat.zero_le _, .inl (by omega)⟩, ?_⟩; (conv => whnf); (repeat (refine ⟨by kernel_rfl, ?_⟩; (conv => whnf))))
  rw [← hCPB2]
  (refine ⟨[], [], ?_⟩; rotate_left)
  have hk : k + 1 = l.length := by omega
  rw [hk, List.take_length] at hCPA1
  rw [hCPA1]
  (refine ⟨[], [], ?_⟩; rotate_left)
  simp only [Nat.sub_self, List.replicate_zero, List.nil_append]
  all_goals try exact don
theorem sess_take {l : List Ho} {i : Nat} (hi : i < l.length) : (l.take (i + 1)).map (·.session) = (l.take i).map (·.session) ++ [l[i].session] := by
  rw [List.take_succ_eq_append_getElem hi, List.map_append]; rfl
def sessT (l : List Ho) : List Int := List.replicate (l.length - (sessF l).length) 0 ++ []
theorem sessionsOf_ok (l : List Ho) (hl : l.length < 2 ^ 28) (hr : RiseH l) : FC Tryz.prog 214 [(false, [hos l])] [(1000, some ⟨0, 1, (sessF l ++ sessT l).map intW⟩)] [(false, [.row 1000 0 (sessF l).length])] := by
  have hs := sort_id hr.le
  have hso := sort_ok (l.map (·.session)) (by simp; omega)
  have hco := compact_ok (l.map (·.session)) [] (by simp; omega)
  rw [List.append_nil] at hco
  rw [hs] at hso
  refine gcalls_run tbl_ok mixed Tryz.func214 rfl Tryz.ntmps214 (by kernel_rfl) (Nat.le_of_ble_eq_true rfl) rfl rfl (⟨cl_ints _, trivial⟩) ?_; (conv => whnf); (repeat (refine ⟨by kernel_rfl, ?_⟩; (conv => whnf)))
  (refine ⟨fun (m : Nat) (es : Es) (hs : Hs) => ∃ (i : Nat) (out : List Int), (m + i = l.length) ∧ (out = (l.take i).map (·.session)) ∧ es = [(8, .val false [.f (iL i)]), (7, .val false [.f (iL l.length)]), (6, .val false [.f (hos l)]), (3, .val false [.row 3 0 out.length])] ∧ hs = [(3, some ⟨0, 1, out.map intW⟩)], ⟨l.length, [], [], _, _, ⟨rfl, ?_, ?_⟩, 0, ([]), ?_, ?_, rfl, rfl⟩, ?_⟩; rotate_left 4; rintro m es hs ⟨i, out, hSOF0, hSOF1, rfl, rfl⟩; (conv => whnf); (repeat (refine ⟨by kernel_rfl, ?_⟩; (conv => whnf))))
  (refine ⟨fun h => ?_, fun h => ?_⟩ <;> ((conv => whnf); (repeat (refine ⟨by kernel_rfl, ?_⟩; (conv => whnf)))))
  have hi : i < l.length := by omega
  have q := sess_take hi
  have q1 : out ++ [l[i].session] = (l.take (i + 1)).map (·.session) := by rw [q, hSOF1]
  have hol : out.length ≤ l.length := by rw [hSOF1]; simp; omega
  (refine ⟨(i, hoL l[i]), ⟨rfl, by simp [hi]⟩, ?_⟩; (conv => whnf); (repeat (refine ⟨by kernel_rfl, ?_⟩; (conv => whnf))))
  (refine ⟨(out ++ [l[i].session]).map intW, ⟨app_one intW out _, by simp; omega⟩, ?_⟩; (conv => whnf); (repeat (refine ⟨by kernel_rfl, ?_⟩; (conv => whnf))))
  (refine ⟨m - 1, [], [(3, 272)], [(8, .val false [.f (iL (i + 1))]), (7, .val false [.f (iL l.length)]), (6, .val false [.f (hos l)]), (3, .val false [.row 3 0 (out ++ [l[i].session]).length])], [(3, some ⟨0, 1, (out ++ [l[i].session]).map intW⟩)], by omega, ⟨rfl, ?_, ?_⟩, (i + 1), (out ++ [l[i].session]), ?_, ?_, rfl, rfl⟩; rotate_left 4)
  have hi : l.length ≤ i := by omega
  rw [List.take_of_length_le hi] at hSOF1
  subst hSOF1
  (refine ⟨⟨false, [(1, 3)], _, _, _, _⟩, hso, ?_⟩; (conv => whnf); (repeat (refine ⟨by kernel_rfl, ?_⟩; (conv => whnf))); refine ⟨⟨?_, ?_, ?_⟩, ?_⟩; rotate_left 3; (conv => whnf); (repeat (refine ⟨by kernel_rfl, ?_⟩; (conv => whnf))))
  (refine ⟨⟨false, [(1, 3)], _, _, _, _⟩, hco, ?_⟩; (conv => whnf); (repeat (refine ⟨by kernel_rfl, ?_⟩; (conv => whnf))); refine ⟨⟨?_, ?_, ?_⟩, ?_⟩; rotate_left 3; (conv => whnf); (repeat (refine ⟨by kernel_rfl, ?_⟩; (conv => whnf))))
  simp only [List.length_map]
  unfold sessT
  (refine ⟨[], [(1000, 3)], ?_⟩; rotate_left)
  all_goals try exact don
theorem ded_last : ∀ {l : List Int} (h : l ≠ []) (h' : dedF l ≠ []), (dedF l).getLast h' = l.getLast h := by
  have key : ∀ (l : List Int) (p : Int), (p :: dedG p l).getLast (by simp) = (p :: l).getLast (by simp) := by
    intro l
    induction l with
    | nil => intro p; rfl
    | cons x l ih =>
      intro p
      have e2 : (p :: x :: l).getLast (by simp) = (x :: l).getLast (by simp) := List.getLast_cons (by simp)
      rw [e2, ← ih x]
      by_cases h : x = p
      · subst h; simp [dedG]
      · simp [dedG, h]
  intro l h h'
  cases l with
  | nil => exact absurd rfl h
  | cons x l => exact key l x
theorem l07Sessions_ok (l : List Ho) (hl : l.length < 2 ^ 28) : FC Tryz.prog 280 [(false, [hos l])] [(1000, some ⟨0, 1, (sessF l).map intW⟩)] [(false, [.row 1000 0 (sessF l).length])] := by
  refine gcalls_run tbl_ok mixed Tryz.func280 rfl Tryz.ntmps280 (by kernel_rfl) (Nat.le_of_ble_eq_true rfl) rfl rfl (⟨cl_ints _, trivial⟩) ?_; (conv => whnf); (repeat (refine ⟨by kernel_rfl, ?_⟩; (conv => whnf)))
  (refine ⟨fun (m : Nat) (es : Es) (hs : Hs) => ∃ (i : Nat) (out : List Int), (m + i = l.length) ∧ (out = dedF ((l.take i).map (·.session))) ∧ es = [(4, .val false [.f (iL i)]), (3, .val false [.row 3 0 out.length]), (0, .val false [.f (hos l)])] ∧ hs = [(3, some ⟨0, 1, out.map intW⟩)], ⟨l.length, [], [(3, 96)], _, _, ⟨rfl, ?_, ?_⟩, 0, ([]), ?_, ?_, rfl, rfl⟩, ?_⟩; rotate_left 4; rintro m es hs ⟨i, out, hSES0, hSES1, rfl, rfl⟩; (conv => whnf); (repeat (refine ⟨by kernel_rfl, ?_⟩; (conv => whnf))))
  (refine ⟨fun h => ?_, fun h => ?_⟩ <;> ((conv => whnf); (repeat (refine ⟨by kernel_rfl, ?_⟩; (conv => whnf)))))
  have hi : i < l.length := by simpa using h
  have q := sess_take hi
  have hol : out.length ≤ i := by rw [hSES1]; have := ded_len ((l.take i).map (·.session)); rw [List.length_map, List.length_take] at this; omega
  by_cases k0 : i = 0
  · subst k0
    have ho : out = [] := by rw [hSES1]; rfl
    subst ho
    have q1 : [] ++ [l[0].session] = dedF ((l.take (0 + 1)).map (·.session)) := by rw [q]; rfl
    (refine ⟨fun h => ?_, fun h => absurd h (fun w => w rfl)⟩; (conv => whnf); (repeat (refine ⟨by kernel_rfl, ?_⟩; (conv => whnf))))
    (refine ⟨(0, hoL l[0]), ⟨rfl, by simp [hi]⟩, ?_⟩; (conv => whnf); (repeat (refine ⟨by kernel_rfl, ?_⟩; (conv => whnf))))
    (refine ⟨([] ++ [l[0].session]).map intW, ⟨rfl, by simp⟩, ?_⟩; (conv => whnf); (repeat (refine ⟨by kernel_rfl, ?_⟩; (conv => whnf))))
    (refine ⟨m - 1, [], [(3, 592)], [(4, .val false [.f (iL (0 + 1))]), (3, .val false [.row 3 0 ([] ++ [l[0].session]).length]), (0, .val false [.f (hos l)])], [(3, some ⟨0, 1, ([] ++ [l[0].session]).map intW⟩)], by omega, ⟨rfl, ?_, ?_⟩, (0 + 1), ([] ++ [l[0].session]), ?_, ?_, rfl, rfl⟩; rotate_left 4)
    all_goals try exact don
  have hne : (l.take i).map (·.session) ≠ [] := by intro e; have := congrArg List.length e; rw [List.length_map, List.length_take, List.length_nil] at this; omega
  have hno : out ≠ [] := by
    rw [hSES1]
    intro e
    obtain ⟨x, r, hx⟩ := List.exists_cons_of_ne_nil hne
    rw [hx] at e; cases e
  have hol0 : 0 < out.length := List.length_pos_iff.2 hno
  have hlast : out[out.length - 1]'(by omega) = l[i - 1].session := by
    have e1 : out.getLast hno = ((l.take i).map (·.session)).getLast hne := by
      have := ded_last hne (by rw [← hSES1]; exact hno)
      rw [← this]; congr 1
    rw [List.getLast_eq_getElem, List.getLast_eq_getElem] at e1
    rw [e1]
    simp only [List.getElem_map, List.getElem_take, List.length_map, List.length_take]
    congr 2
    omega
  have hd := ded_snoc l[i].session hne
  have hgl : ((l.take i).map (·.session)).getLast hne = l[i - 1].session := by
    rw [List.getLast_eq_getElem]
    simp only [List.getElem_map, List.getElem_take, List.length_map, List.length_take]
    congr 2
    omega
  rw [hgl] at hd
  (refine ⟨fun h => absurd h (by omega), fun h => ?_⟩; (conv => whnf); (repeat (refine ⟨by kernel_rfl, ?_⟩; (conv => whnf))))
  (refine ⟨out.length - 1, ⟨by rw [IntKind.wrap_i64]; omega, by omega⟩, ?_⟩; (conv => whnf); (repeat (refine ⟨by kernel_rfl, ?_⟩; (conv => whnf))))
  (refine ⟨intW (out[out.length - 1]'(by omega)), by simp [show out.length - 1 < out.length by omega], ?_⟩; (conv => whnf); (repeat (refine ⟨by kernel_rfl, ?_⟩; (conv => whnf))))
  (refine ⟨(i, hoL l[i]), ⟨rfl, by simp [hi]⟩, ?_⟩; (conv => whnf); (repeat (refine ⟨by kernel_rfl, ?_⟩; (conv => whnf))))
  rw [hlast]
  by_cases ke : l[i - 1].session = l[i].session
  · rw [if_pos ke.symm] at hd
    have q1 : out = dedF ((l.take (i + 1)).map (·.session)) := by rw [q, hSES1]; exact hd.symm
    (refine ⟨fun h => absurd h (fun w => w ke), fun h => ?_⟩; (conv => whnf); (repeat (refine ⟨by kernel_rfl, ?_⟩; (conv => whnf))))
    (refine ⟨m - 1, [], [(3, 3)], [(4, .val false [.f (iL (i + 1))]), (3, .val false [.row 3 0 out.length]), (0, .val false [.f (hos l)])], [(3, some ⟨0, 1, out.map intW⟩)], by omega, ⟨rfl, ?_, ?_⟩, (i + 1), out, ?_, ?_, rfl, rfl⟩; rotate_left 4)
    all_goals try exact don
  · rw [if_neg fun w => ke w.symm] at hd
    have q1 : out ++ [l[i].session] = dedF ((l.take (i + 1)).map (·.session)) := by rw [q, hSES1]; exact hd.symm
    (refine ⟨fun h => ?_, fun h => absurd h (fun w => w ke)⟩; (conv => whnf); (repeat (refine ⟨by kernel_rfl, ?_⟩; (conv => whnf))))
    (refine ⟨(i, hoL l[i]), ⟨rfl, by simp [hi]⟩, ?_⟩; (conv => whnf); (repeat (refine ⟨by kernel_rfl, ?_⟩; (conv => whnf))))
    (refine ⟨(out ++ [l[i].session]).map intW, ⟨app_one intW out _, by simp; omega⟩, ?_⟩; (conv => whnf); (repeat (refine ⟨by kernel_rfl, ?_⟩; (conv => whnf))))
    (refine ⟨m - 1, [], [(3, 592)], [(4, .val false [.f (iL (i + 1))]), (3, .val false [.row 3 0 (out ++ [l[i].session]).length]), (0, .val false [.f (hos l)])], [(3, some ⟨0, 1, (out ++ [l[i].session]).map intW⟩)], by omega, ⟨rfl, ?_, ?_⟩, (i + 1), (out ++ [l[i].session]), ?_, ?_, rfl, rfl⟩; rotate_left 4)
    all_goals try exact don
  have hi : l.length ≤ i := by simpa using h
  rw [List.take_of_length_le hi] at hSES1
  subst hSES1
  (refine ⟨[], [(1000, 3)], ?_⟩; rotate_left)
  all_goals try exact don
end Go.Proofs.YtchfpgpboifbeaaGreat.Ac
