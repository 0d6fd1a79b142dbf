/- Several of our texts, one behind the other, without what this claim does not need: Df, Te. -/
import Derived.Test.YtecnmodeggnjoaaGreatZe2002630
import Derived.Test.YtecnmodeggnjoaaGreatZaa953d4f
set_option linter.unusedVariables false
set_option linter.unusedSimpArgs false
set_option maxRecDepth 20000
set_option maxHeartbeats 20000000
namespace Go.Proofs.YtecnmodeggnjoaaGreat.Ac
open Go.RowKit
theorem app_drop_get {α : Type} {B l : List α} {n t : Nat} (hB : B.length = n) (h : n ≤ t) (ht : t < l.length) : (B ++ l.drop n)[t]? = some l[t] := by
  rw [List.getElem?_append_right (by omega), List.getElem?_drop, hB, show n + (t - n) = t by omega, List.getElem?_eq_getElem ht]
theorem app_drop_set {α : Type} {B l : List α} {n : Nat} (hB : B.length = n) (hn : n < l.length) (x : α) : (B ++ l.drop n).set n x = (B ++ [x]) ++ l.drop (n + 1) := by
  rw [List.set_append, if_neg (by omega), hB, Nat.sub_self, List.drop_eq_getElem_cons hn, List.append_assoc]
  rfl
theorem app_drop_get' {α : Type} {W : α → List A} {B l : List α} {n t : Nat} (hB : B.length = n) (h : n ≤ t) (ht : t < l.length) : ((B ++ l.drop n).map W)[t]? = some (W l[t]) := by
  rw [List.getElem?_map, app_drop_get hB h ht]; rfl
theorem app_drop_set' {α : Type} {W : α → List A} {B l : List α} {n : Nat} (hB : B.length = n) (hn : n < l.length) (x : α) : ((B ++ l.drop n).map W).set n (W x) = ((B ++ [x]) ++ l.drop (n + 1)).map W := by
  rw [← app_drop_set hB hn x, List.map_set]
theorem app_drop_getT {α : Type} {W : α → List A} {B l u : List α} {n t : Nat} (hB : B.length = n) (h : n ≤ t) (ht : t < l.length) : ((B ++ l.drop n ++ u).map W)[t]? = some (W l[t]) := by
  rw [List.map_append, List.getElem?_append_left (by simp; omega)]; exact app_drop_get' hB h ht
theorem app_drop_setT {α : Type} {W : α → List A} {B l u : List α} {n : Nat} (hB : B.length = n) (hn : n < l.length) (x : α) : ((B ++ l.drop n ++ u).map W).set n (W x) = ((B ++ [x]) ++ l.drop (n + 1) ++ u).map W := by
  rw [List.map_append, List.set_append_left _ _ (by simp; omega), app_drop_set' hB hn, ← List.map_append]
theorem clear_tail {α : Type} {W : α → List A} {B l u : List α} {z : List A} {n len : Nat} (x : α) (hx : W x = z) (hB : B.length = n) (hn : n ≤ l.length) (hl : l.length = len) :
    ((B ++ l.drop n ++ u).map W).take n ++ List.replicate (len - n) z ++ ((B ++ l.drop n ++ u).map W).drop len = (B ++ (List.replicate (len - n) x ++ u)).map W := by
  subst hx hl
  have e1 : ((B ++ l.drop n ++ u).map W).take n = B.map W := by
    rw [List.append_assoc, List.map_append, List.take_append_of_le_length (by simp; omega), List.take_of_length_le (by simp; omega)]
  have e2 : ((B ++ l.drop n ++ u).map W).drop l.length = u.map W := by
    rw [List.map_append, List.drop_append, List.drop_eq_nil_of_le (by simp; omega), List.nil_append, show l.length - ((B ++ l.drop n).map W).length = 0 by simp; omega, List.drop_zero]
  rw [e1, e2, List.map_append, List.map_append, List.map_replicate, List.append_assoc]
theorem filter_take {α : Type} {p : α → Bool} {l : List α} {j : Nat} (hj : j < l.length) : (l.take (j + 1)).filter p = if p l[j] then (l.take j).filter p ++ [l[j]] else (l.take j).filter p := by
  rw [List.take_succ_eq_append_getElem hj, List.filter_append]
  by_cases h : p l[j] = true
  · rw [if_pos h, List.filter_cons_of_pos h]; rfl
  · rw [if_neg h, List.filter_cons_of_neg h]; simp
theorem filter_le {α : Type} {p : α → Bool} {l : List α} {j : Nat} (hj : j ≤ l.length) : ((l.take j).filter p).length ≤ j := by
  have := List.length_filter_le p (l.take j)
  simp at this; omega
theorem ixfI3_ok (l : List Int) (f : FuncId) (c0 c1 c2 : L) (p : Int → Bool) (hl : l.length < 2 ^ 28) (hp : ∀ t ∈ l, FC Tryz.prog f [(false, [iL t]), (false, [c0]), (false, [c1]), (false, [c2])] [] [(false, [.f (bL (p t))])]) : FC Tryz.prog 324 [(false, [ints l]), (false, [.cl f [(false, [c0]), (false, [c1]), (false, [c2])]])] [] [(false, [.f (iL (ixP p 0 l))])] := by
  refine gr Tryz.func324 Tryz.ntmps324 trivial ?_
  (refine ⟨fun m es hs => ∃ (i : Nat), (m + i = l.length) ∧ (ixP p i (l.drop i) = ixP p 0 l) ∧ es = [(8, .val false [.f (iL i)]), (7, .val false [.f (iL l.length)]), (1, .val false [.f (.cl f [(false, [c0]), (false, [c1]), (false, [c2])])]), (0, .val false [.f (ints l)])] ∧ hs = [], ⟨l.length, [], [], _, _, don, 0, don, don, rfl, rfl⟩, ?_⟩; rintro m _ _ ⟨i, hIXI30, hIXI31, rfl, rfl⟩; refine nx ?_)
  refine ⟨fun h => nx ?_, fun h => nx ?_⟩
  have hi : i < l.length := by omega
  rw [List.drop_eq_getElem_cons hi] at hIXI31
  rw [ixP_cons] at hIXI31
  refine ⟨(i, intE l[i]), ⟨rfl, by simp [hi]⟩, nx ?_⟩
  have hc := hp l[i] (List.getElem_mem _)
  cases hq : p l[i] with
  | true =>
    rw [hq] at hc hIXI31
    rw [if_pos rfl] at hIXI31
    refine ⟨([], _), hc, nx ?_⟩
    exact ⟨[], [], don⟩
  | false =>
    rw [hq] at hc hIXI31
    rw [if_neg (by simp)] at hIXI31
    refine ⟨([], _), hc, nx ?_⟩
    exact ⟨m - 1, [], [], _, _, by omega, don, (i + 1), don, don, rfl, rfl⟩
  have hi : l.length ≤ i := by omega
  rw [List.drop_eq_nil_of_le hi] at hIXI31
  have q : (-1 : Int) = ixP p 0 l := hIXI31
  exact ⟨[], [], don⟩
theorem dlfI3_ok (l : List Int) (f : FuncId) (c0 c1 c2 : L) (p : Int → Bool) (hl : l.length < 2 ^ 28) (hp : ∀ t ∈ l, FC Tryz.prog f [(false, [iL t]), (false, [c0]), (false, [c1]), (false, [c2])] [] [(false, [.f (bL (p t))])]) (u : List Int) : GCalls Tryz.prog 259 [(1, some ⟨0, 1, (l ++ u).map intW⟩)] [(false, [.row 1 0 l.length]), (false, [.f (.cl f [(false, [c0]), (false, [c1]), (false, [c2])])])] [(1, some ⟨0, 1, (l.filter (fun x => !p x) ++ (List.replicate (l.length - (l.filter (fun x => !p x)).length) (0 : Int) ++ u)).map intW⟩)] [(false, [.row 1 0 (l.filter (fun x => !p x)).length])] := by
  have hx := ixfI3_ok l f c0 c1 c2 p hl hp
  rcases ixP_at (p := p) l 0 with ⟨h1, h2⟩ | ⟨i, hi, h1, h2, h3⟩
  · have q : l.filter (fun x => !p x) = l := by rw [List.filter_eq_self]; intro x hx; rw [h2 x hx]; rfl
    rw [h1] at hx
    rw [q]
    refine gr Tryz.func259 Tryz.ntmps259 (⟨cl_ints _, trivial⟩) ?_
    (refine ⟨⟨true, [], _, _, _, _⟩, hx, co ?_ ?_ ?_ ?_⟩; rotate_left 3)
    refine ⟨fun h => nx ?_, fun h => absurd h (fun w => w rfl)⟩
    (refine ⟨[], [], ?_⟩; rotate_left)
    simp only [Nat.sub_self, List.replicate_zero, List.nil_append]
    all_goals try exact don
  · rw [h1, Nat.zero_add] at hx
    have hf0 : (l.take i).filter (fun x => !p x) = l.take i := by
      rw [List.filter_eq_self]; intro x hx
      obtain ⟨t, ht, rfl⟩ := List.mem_iff_getElem.1 hx
      simp at ht
      rw [List.getElem_take, h3 t (by omega)]; rfl
    have hf1 : (l.take (i + 1)).filter (fun x => !p x) = l.take i := by rw [filter_take hi, h2]; simpa using hf0
    have hf2 := hf1.symm
    have hil : (l.take i).length = i := by simp; omega
    refine gr Tryz.func259 Tryz.ntmps259 (⟨cl_ints _, trivial⟩) ?_
    (refine ⟨⟨true, [], _, _, _, _⟩, hx, co ?_ ?_ ?_ ?_⟩; rotate_left 3)
    refine ⟨fun h => absurd h (by omega), fun h => nx ?_⟩
    have q0 : (l ++ u).map intW = (l.take i ++ l.drop (l.take i).length ++ u).map intW := by rw [hil, List.take_append_drop]
    (refine ⟨fun m es hs => ∃ (j : Nat) (B : List Int), (m + j = l.length) ∧ (B = (l.take j).filter (fun x => !p x)) ∧ (B.length + 1 ≤ j) ∧ es = [(6, .val false [.f (iL j)]), (5, .val false [.f (iL B.length)]), (1, .val false [.f (.cl f [(false, [c0]), (false, [c1]), (false, [c2])])]), (0, .val false [.row 1 0 l.length])] ∧ hs = [(1, some ⟨0, 1, (B ++ l.drop B.length ++ u).map intW⟩)], ⟨l.length - (i + 1), [], [], _, _, ⟨rfl, ?_, ?_⟩, (i + 1), (l.take i), ?_, ?_, ?_, rfl, rfl⟩, ?_⟩; rotate_left 5; rintro m _ _ ⟨j, B, hDFI30, hDFI31, hDFI32, rfl, rfl⟩; refine nx ?_)
    refine ⟨fun h => nx ?_, fun h => nx ?_⟩
    have hj : j < l.length := by omega
    have hBj := filter_take (p := fun x => !p x) hj
    have hc := hp l[j] (List.getElem_mem _)
    refine ⟨j, ⟨rfl, hj⟩, nx ?_⟩
    refine ⟨intW l[j], app_drop_getT rfl (by omega) hj, nx ?_⟩
    cases hq : p l[j] with
    | true =>
      rw [hq] at hc hBj
      refine ⟨([], _), hc, nx ?_⟩
      rw [if_neg (by simp)] at hBj
      have q1 : B = (l.take (j + 1)).filter (fun x => !p x) := by rw [hBj, hDFI31]
      (refine ⟨m - 1, [], [], [(6, .val false [.f (iL (j + 1))]), (5, .val false [.f (iL B.length)]), (1, .val false [.f (.cl f [(false, [c0]), (false, [c1]), (false, [c2])])]), (0, .val false [.row 1 0 l.length])], [(1, some ⟨0, 1, (B ++ l.drop B.length ++ u).map intW⟩)], by omega, ⟨rfl, ?_, ?_⟩, (j + 1), B, ?_, ?_, ?_, rfl, rfl⟩; rotate_left 5)
      all_goals try exact don
    | false =>
      rw [hq] at hc hBj
      rw [if_pos (by simp)] at hBj
      have q1 : B ++ [l[j]] = (l.take (j + 1)).filter (fun x => !p x) := by rw [hBj, hDFI31]
      have q2 : (B ++ [l[j]]).length = B.length + 1 := by simp
      have q3 := app_drop_setT (W := intW) (B := B) (l := l) (u := u) rfl (by omega) l[j]
      have q4 := app_drop_getT (W := intW) (B := B) (l := l) (u := u) (t := B.length) rfl (Nat.le_refl _) (by omega)
      refine ⟨([], _), hc, nx ?_⟩
      refine ⟨B.length, ⟨rfl, by omega⟩, nx ?_⟩
      refine ⟨_, q4, nx ?_⟩
      have q5 : ((B ++ l.drop B.length ++ u).map intW).set B.length (intW l[j]) = ((B ++ [l[j]]) ++ l.drop (B ++ [l[j]]).length ++ u).map intW := by rw [q2]; exact q3
      (refine ⟨m - 1, [], [], [(6, .val false [.f (iL (j + 1))]), (5, .val false [.f (iL (B ++ [l[j]]).length)]), (1, .val false [.f (.cl f [(false, [c0]), (false, [c1]), (false, [c2])])]), (0, .val false [.row 1 0 l.length])], [(1, some ⟨0, 1, ((B ++ [l[j]]) ++ l.drop (B ++ [l[j]]).length ++ u).map intW⟩)], by omega, ⟨rfl, ?_, ?_⟩, (j + 1), (B ++ [l[j]]), ?_, ?_, ?_, rfl, rfl⟩; rotate_left 5)
      all_goals try exact don
    have hj : j = l.length := by omega
    have hBl := filter_le (p := fun x => !p x) (l := l) (j := j) (by omega)
    rw [← hDFI31] at hBl
    rw [hj, List.take_length] at hDFI31
    refine ⟨(B.length, l.length), ⟨rfl, rfl, by omega, .inl (Nat.le_refl _)⟩, nx ?_⟩
    refine ⟨_, clear_tail (W := intW) (B := B) (l := l) (u := u) (0 : Int) rfl rfl (by omega) rfl, nx ?_⟩
    refine ⟨(0, B.length), ⟨rfl, rfl, Nat.zero_le _, .inl (by omega)⟩, nx ?_⟩
    rw [← hDFI31]
    (refine ⟨[], [], ?_⟩; rotate_left)
    all_goals try exact don
theorem ixfI4_ok (l : List Int) (f : FuncId) (c0 c1 c2 c3 : L) (p : Int → Bool) (hl : l.length < 2 ^ 28) (hp : ∀ t ∈ l, FC Tryz.prog f [(false, [iL t]), (false, [c0]), (false, [c1]), (false, [c2]), (false, [c3])] [] [(false, [.f (bL (p t))])]) : FC Tryz.prog 324 [(false, [ints l]), (false, [.cl f [(false, [c0]), (false, [c1]), (false, [c2]), (false, [c3])]])] [] [(false, [.f (iL (ixP p 0 l))])] := by
  refine gr Tryz.func324 Tryz.ntmps324 trivial ?_
  (refine ⟨fun m es hs => ∃ (i : Nat), (m + i = l.length) ∧ (ixP p i (l.drop i) = ixP p 0 l) ∧ es = [(8, .val false [.f (iL i)]), (7, .val false [.f (iL l.length)]), (1, .val false [.f (.cl f [(false, [c0]), (false, [c1]), (false, [c2]), (false, [c3])])]), (0, .val false [.f (ints l)])] ∧ hs = [], ⟨l.length, [], [], _, _, don, 0, don, don, rfl, rfl⟩, ?_⟩; rintro m _ _ ⟨i, hIXI40, hIXI41, rfl, rfl⟩; refine nx ?_)
  refine ⟨fun h => nx ?_, fun h => nx ?_⟩
  have hi : i < l.length := by omega
  rw [List.drop_eq_getElem_cons hi] at hIXI41
  rw [ixP_cons] at hIXI41
  refine ⟨(i, intE l[i]), ⟨rfl, by simp [hi]⟩, nx ?_⟩
  have hc := hp l[i] (List.getElem_mem _)
  cases hq : p l[i] with
  | true =>
    rw [hq] at hc hIXI41
    rw [if_pos rfl] at hIXI41
    refine ⟨([], _), hc, nx ?_⟩
    exact ⟨[], [], don⟩
  | false =>
    rw [hq] at hc hIXI41
    rw [if_neg (by simp)] at hIXI41
    refine ⟨([], _), hc, nx ?_⟩
    exact ⟨m - 1, [], [], _, _, by omega, don, (i + 1), don, don, rfl, rfl⟩
  have hi : l.length ≤ i := by omega
  rw [List.drop_eq_nil_of_le hi] at hIXI41
  have q : (-1 : Int) = ixP p 0 l := hIXI41
  exact ⟨[], [], don⟩
theorem cofI4_ok (l : List Int) (f : FuncId) (c0 c1 c2 c3 : L) (p : Int → Bool) (hl : l.length < 2 ^ 28) (hp : ∀ t ∈ l, FC Tryz.prog f [(false, [iL t]), (false, [c0]), (false, [c1]), (false, [c2]), (false, [c3])] [] [(false, [.f (bL (p t))])]) : FC Tryz.prog 317 [(false, [ints l]), (false, [.cl f [(false, [c0]), (false, [c1]), (false, [c2]), (false, [c3])]])] [] [(false, [.f (bL (l.any p))])] := by
  have hx := ixfI4_ok l f c0 c1 c2 c3 p hl hp
  by_cases k : 0 ≤ ixP p 0 l
  · have q : l.any p = true := by rw [List.any_eq_true]; exact (ixP_any l 0).1 k
    refine gr Tryz.func317 Tryz.ntmps317 trivial ?_
    refine ⟨([], _), hx, nx ?_⟩
    refine ⟨fun h => nx ?_, fun h => absurd h (fun w => w k)⟩
    exact ⟨[], [], don⟩
  · have q : l.any p = false := by
      cases e : l.any p with
      | false => rfl
      | true => rw [List.any_eq_true] at e; exact absurd ((ixP_any l 0).2 e) k
    refine gr Tryz.func317 Tryz.ntmps317 trivial ?_
    refine ⟨([], _), hx, nx ?_⟩
    refine ⟨fun h => absurd h (k), fun h => nx ?_⟩
    exact ⟨[], [], don⟩
theorem ixfI5_ok (l : List Int) (f : FuncId) (c0 c1 c2 c3 c4 : L) (p : Int → Bool) (hl : l.length < 2 ^ 28) (hp : ∀ t ∈ l, FC Tryz.prog f [(false, [iL t]), (false, [c0]), (false, [c1]), (false, [c2]), (false, [c3]), (false, [c4])] [] [(false, [.f (bL (p t))])]) : FC Tryz.prog 324 [(false, [ints l]), (false, [.cl f [(false, [c0]), (false, [c1]), (false, [c2]), (false, [c3]), (false, [c4])]])] [] [(false, [.f (iL (ixP p 0 l))])] := by
  refine gr Tryz.func324 Tryz.ntmps324 trivial ?_
  (refine ⟨fun m es hs => ∃ (i : Nat), (m + i = l.length) ∧ (ixP p i (l.drop i) = ixP p 0 l) ∧ es = [(8, .val false [.f (iL i)]), (7, .val false [.f (iL l.length)]), (1, .val false [.f (.cl f [(false, [c0]), (false, [c1]), (false, [c2]), (false, [c3]), (false, [c4])])]), (0, .val false [.f (ints l)])] ∧ hs = [], ⟨l.length, [], [], _, _, don, 0, don, don, rfl, rfl⟩, ?_⟩; rintro m _ _ ⟨i, hIXI50, hIXI51, rfl, rfl⟩; refine nx ?_)
  refine ⟨fun h => nx ?_, fun h => nx ?_⟩
  have hi : i < l.length := by omega
  rw [List.drop_eq_getElem_cons hi] at hIXI51
  rw [ixP_cons] at hIXI51
  refine ⟨(i, intE l[i]), ⟨rfl, by simp [hi]⟩, nx ?_⟩
  have hc := hp l[i] (List.getElem_mem _)
  cases hq : p l[i] with
  | true =>
    rw [hq] at hc hIXI51
    rw [if_pos rfl] at hIXI51
    refine ⟨([], _), hc, nx ?_⟩
    exact ⟨[], [], don⟩
  | false =>
    rw [hq] at hc hIXI51
    rw [if_neg (by simp)] at hIXI51
    refine ⟨([], _), hc, nx ?_⟩
    exact ⟨m - 1, [], [], _, _, by omega, don, (i + 1), don, don, rfl, rfl⟩
  have hi : l.length ≤ i := by omega
  rw [List.drop_eq_nil_of_le hi] at hIXI51
  have q : (-1 : Int) = ixP p 0 l := hIXI51
  exact ⟨[], [], don⟩
theorem cofI5_ok (l : List Int) (f : FuncId) (c0 c1 c2 c3 c4 : L) (p : Int → Bool) (hl : l.length < 2 ^ 28) (hp : ∀ t ∈ l, FC Tryz.prog f [(false, [iL t]), (false, [c0]), (false, [c1]), (false, [c2]), (false, [c3]), (false, [c4])] [] [(false, [.f (bL (p t))])]) : FC Tryz.prog 317 [(false, [ints l]), (false, [.cl f [(false, [c0]), (false, [c1]), (false, [c2]), (false, [c3]), (false, [c4])]])] [] [(false, [.f (bL (l.any p))])] := by
  have hx := ixfI5_ok l f c0 c1 c2 c3 c4 p hl hp
  by_cases k : 0 ≤ ixP p 0 l
  · have q : l.any p = true := by rw [List.any_eq_true]; exact (ixP_any l 0).1 k
    refine gr Tryz.func317 Tryz.ntmps317 trivial ?_
    refine ⟨([], _), hx, nx ?_⟩
    refine ⟨fun h => nx ?_, fun h => absurd h (fun w => w k)⟩
    exact ⟨[], [], don⟩
  · have q : l.any p = false := by
      cases e : l.any p with
      | false => rfl
      | true => rw [List.any_eq_true] at e; exact absurd ((ixP_any l 0).2 e) k
    refine gr Tryz.func317 Tryz.ntmps317 trivial ?_
    refine ⟨([], _), hx, nx ?_⟩
    refine ⟨fun h => absurd h (k), fun h => nx ?_⟩
    exact ⟨[], [], don⟩
theorem dlfHo1_ok (l : List Ho) (f : FuncId) (c0 : L) (p : Ho → Bool) (hl : l.length < 2 ^ 28) (hp : ∀ t ∈ l, FC Tryz.prog f [(true, hoL t), (false, [c0])] [] [(false, [.f (bL (p t))])]) (u : List Ho) : GCalls Tryz.prog 173 [(1, some ⟨0, 3, (l ++ u).map hoW⟩)] [(false, [.row 1 0 l.length]), (false, [.f (.cl f [(false, [c0])])])] [(1, some ⟨0, 3, (l.filter (fun x => !p x) ++ (List.replicate (l.length - (l.filter (fun x => !p x)).length) (⟨0, 0, 0⟩ : Ho) ++ u)).map hoW⟩)] [(false, [.row 1 0 (l.filter (fun x => !p x)).length])] := by
  have hx := ixfHold_ok l f c0 p (by omega) hp
  rcases ixP_at (p := p) l 0 with ⟨h1, h2⟩ | ⟨i, hi, h1, h2, h3⟩
  · have q : l.filter (fun x => !p x) = l := by rw [List.filter_eq_self]; intro x hx; rw [h2 x hx]; rfl
    rw [h1] at hx
    rw [q]
    refine gr Tryz.func173 Tryz.ntmps173 (⟨cl_hos _, trivial⟩) ?_
    (refine ⟨⟨true, [], _, _, _, _⟩, hx, co ?_ ?_ ?_ ?_⟩; rotate_left 3)
    refine ⟨fun h => nx ?_, fun h => absurd h (fun w => w rfl)⟩
    (refine ⟨[], [], ?_⟩; rotate_left)
    simp only [Nat.sub_self, List.replicate_zero, List.nil_append]
    all_goals try exact don
  · rw [h1, Nat.zero_add] at hx
    have hf0 : (l.take i).filter (fun x => !p x) = l.take i := by
      rw [List.filter_eq_self]; intro x hx
      obtain ⟨t, ht, rfl⟩ := List.mem_iff_getElem.1 hx
      simp at ht
      rw [List.getElem_take, h3 t (by omega)]; rfl
    have hf1 : (l.take (i + 1)).filter (fun x => !p x) = l.take i := by rw [filter_take hi, h2]; simpa using hf0
    have hf2 := hf1.symm
    have hil : (l.take i).length = i := by simp; omega
    refine gr Tryz.func173 Tryz.ntmps173 (⟨cl_hos _, trivial⟩) ?_
    (refine ⟨⟨true, [], _, _, _, _⟩, hx, co ?_ ?_ ?_ ?_⟩; rotate_left 3)
    refine ⟨fun h => absurd h (by omega), fun h => nx ?_⟩
    have q0 : (l ++ u).map hoW = (l.take i ++ l.drop (l.take i).length ++ u).map hoW := by rw [hil, List.take_append_drop]
    (refine ⟨fun m es hs => ∃ (j : Nat) (B : List Ho), (m + j = l.length) ∧ (B = (l.take j).filter (fun x => !p x)) ∧ (B.length + 1 ≤ j) ∧ es = [(6, .val false [.f (iL j)]), (5, .val false [.f (iL B.length)]), (1, .val false [.f (.cl f [(false, [c0])])]), (0, .val false [.row 1 0 l.length])] ∧ hs = [(1, some ⟨0, 3, (B ++ l.drop B.length ++ u).map hoW⟩)], ⟨l.length - (i + 1), [], [], _, _, ⟨rfl, ?_, ?_⟩, (i + 1), (l.take i), ?_, ?_, ?_, rfl, rfl⟩, ?_⟩; rotate_left 5; rintro m _ _ ⟨j, B, hDFHo10, hDFHo11, hDFHo12, rfl, rfl⟩; refine nx ?_)
    refine ⟨fun h => nx ?_, fun h => nx ?_⟩
    have hj : j < l.length := by omega
    have hBj := filter_take (p := fun x => !p x) hj
    have hc := hp l[j] (List.getElem_mem _)
    refine ⟨j, ⟨rfl, hj⟩, nx ?_⟩
    refine ⟨hoW l[j], app_drop_getT rfl (by omega) hj, nx ?_⟩
    cases hq : p l[j] with
    | true =>
      rw [hq] at hc hBj
      refine ⟨([], _), hc, nx ?_⟩
      rw [if_neg (by simp)] at hBj
      have q1 : B = (l.take (j + 1)).filter (fun x => !p x) := by rw [hBj, hDFHo11]
      (refine ⟨m - 1, [], [], [(6, .val false [.f (iL (j + 1))]), (5, .val false [.f (iL B.length)]), (1, .val false [.f (.cl f [(false, [c0])])]), (0, .val false [.row 1 0 l.length])], [(1, some ⟨0, 3, (B ++ l.drop B.length ++ u).map hoW⟩)], by omega, ⟨rfl, ?_, ?_⟩, (j + 1), B, ?_, ?_, ?_, rfl, rfl⟩; rotate_left 5)
      all_goals try exact don
    | false =>
      rw [hq] at hc hBj
      rw [if_pos (by simp)] at hBj
      have q1 : B ++ [l[j]] = (l.take (j + 1)).filter (fun x => !p x) := by rw [hBj, hDFHo11]
      have q2 : (B ++ [l[j]]).length = B.length + 1 := by simp
      have q3 := app_drop_setT (W := hoW) (B := B) (l := l) (u := u) rfl (by omega) l[j]
      have q4 := app_drop_getT (W := hoW) (B := B) (l := l) (u := u) (t := B.length) rfl (Nat.le_refl _) (by omega)
      refine ⟨([], _), hc, nx ?_⟩
      refine ⟨B.length, ⟨rfl, by omega⟩, nx ?_⟩
      refine ⟨_, q4, nx ?_⟩
      have q5 : ((B ++ l.drop B.length ++ u).map hoW).set B.length (hoW l[j]) = ((B ++ [l[j]]) ++ l.drop (B ++ [l[j]]).length ++ u).map hoW := by rw [q2]; exact q3
      (refine ⟨m - 1, [], [], [(6, .val false [.f (iL (j + 1))]), (5, .val false [.f (iL (B ++ [l[j]]).length)]), (1, .val false [.f (.cl f [(false, [c0])])]), (0, .val false [.row 1 0 l.length])], [(1, some ⟨0, 3, ((B ++ [l[j]]) ++ l.drop (B ++ [l[j]]).length ++ u).map hoW⟩)], by omega, ⟨rfl, ?_, ?_⟩, (j + 1), (B ++ [l[j]]), ?_, ?_, ?_, rfl, rfl⟩; rotate_left 5)
      all_goals try exact don
    have hj : j = l.length := by omega
    have hBl := filter_le (p := fun x => !p x) (l := l) (j := j) (by omega)
    rw [← hDFHo11] at hBl
    rw [hj, List.take_length] at hDFHo11
    refine ⟨(B.length, l.length), ⟨rfl, rfl, by omega, .inl (Nat.le_refl _)⟩, nx ?_⟩
    refine ⟨_, clear_tail (W := hoW) (B := B) (l := l) (u := u) (⟨0, 0, 0⟩ : Ho) rfl rfl (by omega) rfl, nx ?_⟩
    refine ⟨(0, B.length), ⟨rfl, rfl, Nat.zero_le _, .inl (by omega)⟩, nx ?_⟩
    rw [← hDFHo11]
    (refine ⟨[], [], ?_⟩; rotate_left)
    all_goals try exact don
end Go.Proofs.YtecnmodeggnjoaaGreat.Ac
set_option linter.unusedVariables false
set_option linter.unusedSimpArgs false
set_option maxRecDepth 20000
set_option maxHeartbeats 20000000
namespace Go.Proofs.YtecnmodeggnjoaaGreat.Ac
open Go.RowKit
section
variable {α : Type} {f : α → List A} (hf : ∀ x, (f x).map cpA = f x) {l u : List α} {i : Nat} (hi : i < l.length)
include hi
theorem del_len : (l.eraseIdx i).length = l.length - 1 := by rw [List.length_eraseIdx, if_pos hi]
include hf in
theorem del_shift : ((l ++ u).map f).take i ++ cpE ((((l ++ u).map f).take l.length).drop (i + 1)) ++ ((l ++ u).map f).drop (i + (l.length - (i + 1))) = (l.eraseIdx i ++ l.drop (l.length - 1) ++ u).map f := by
  have e1 : ((l ++ u).map f).take i = (l.take i).map f := by rw [← List.map_take, List.take_append_of_le_length (Nat.le_of_lt hi)]
  have e2 : (((l ++ u).map f).take l.length).drop (i + 1) = (l.drop (i + 1)).map f := by rw [← List.map_take, ← List.map_drop, List.take_append_of_le_length (Nat.le_refl _), List.take_length]
  have e3 : ((l ++ u).map f).drop (l.length - 1) = (l.drop (l.length - 1) ++ u).map f := by rw [← List.map_drop, List.drop_append_of_le_length (Nat.sub_le _ _)]
  rw [show i + (l.length - (i + 1)) = l.length - 1 by omega, e1, e2, e3, cp_map hf, List.eraseIdx_eq_take_drop_succ]
  simp only [List.map_append, List.append_assoc]
theorem del_clear (z : α) : ((l.eraseIdx i ++ l.drop (l.length - 1) ++ u).map f).take (i + (l.length - (i + 1))) ++ List.replicate (l.length - (i + (l.length - (i + 1)))) (f z) ++ ((l.eraseIdx i ++ l.drop (l.length - 1) ++ u).map f).drop l.length = (l.eraseIdx i ++ (z :: u)).map f := by
  have e := del_len hi
  have e1 : ((l.eraseIdx i ++ l.drop (l.length - 1) ++ u).map f).take (l.length - 1) = (l.eraseIdx i).map f := by rw [← List.map_take, List.append_assoc, List.take_left' e]
  have e2 : ((l.eraseIdx i ++ l.drop (l.length - 1) ++ u).map f).drop l.length = u.map f := by rw [← List.map_drop, List.drop_left' (by rw [List.length_append, e, List.length_drop]; omega)]
  rw [show i + (l.length - (i + 1)) = l.length - 1 by omega, show l.length - (l.length - 1) = 1 by omega, e1, e2]
  simp
end
theorem deleteHo_ok (l u : List Ho) (i : Nat) (hi : i < l.length) (hl : l.length < 2 ^ 28) : GCalls Tryz.prog 168 [(1, some ⟨0, 3, (l ++ u).map hoW⟩)] [(false, [.row 1 0 l.length]), (false, [.f (iL i)]), (false, [.f (iL ((i + 1 : Nat) : Int))])]
    [(1, some ⟨0, 3, (l.eraseIdx i ++ (zHo' :: u)).map hoW⟩)] [(false, [.row 1 0 (l.eraseIdx i).length])] := by
  rw [del_len hi]
  refine gr Tryz.func168 Tryz.ntmps168 (⟨cl_hos _, trivial⟩) ?_
  refine ⟨(i, i + 1, l.length), ⟨rfl, rfl, rfl, Nat.le_succ _, hi, by dsimp only; omega⟩, nx ?_⟩
  refine ⟨fun h => absurd h (by omega), fun h => nx ?_⟩
  refine ⟨(0, i), ⟨rfl, rfl, Nat.zero_le _, .inl (Nat.le_of_lt hi)⟩, nx ?_⟩
  refine ⟨(i + 1, l.length), ⟨rfl, rfl, hi, .inl (Nat.le_refl _)⟩, nx ?_⟩
  refine ⟨(l.eraseIdx i ++ l.drop (l.length - 1) ++ u).map hoW, ⟨Nat.le_succ _, hi, del_shift (fun _ => rfl) hi⟩, nx ?_⟩
  refine ⟨(i + (l.length - (i + 1)), l.length), ⟨rfl, rfl, by dsimp only; omega, .inr (by simp [del_len hi]; omega)⟩, nx ?_⟩
  refine ⟨(l.eraseIdx i ++ (zHo' :: u)).map hoW, del_clear hi zHo', nx ?_⟩
  exact ⟨[], [], don⟩
end Go.Proofs.YtecnmodeggnjoaaGreat.Ac
