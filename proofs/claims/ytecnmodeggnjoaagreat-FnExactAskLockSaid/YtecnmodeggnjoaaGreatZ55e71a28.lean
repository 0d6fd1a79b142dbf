/- Several of our texts, one behind the other, without what this claim does not need: La, Sh. -/
import Derived.Test.YtecnmodeggnjoaaGreatZc78cb4ad
import Derived.Test.YtecnmodeggnjoaaGreatZ166ed640
import Derived.Test.YtecnmodeggnjoaaGreatZ855f7bb1
import Derived.Test.YtecnmodeggnjoaaGreatZe2002630
import Derived.Test.YtecnmodeggnjoaaGreatZde51322d
set_option linter.unusedVariables false
set_option linter.unusedSimpArgs false
namespace Go.Proofs.YtecnmodeggnjoaaGreat.Ac
def fitP (a b : Int) : Prop := min a b = 0 ∨ (min a b = 1 ∧ max a b ≠ 5) ∨ (min a b = 2 ∧ max a b = 2) ∨ (min a b = 3 ∧ max a b = 3)
theorem fit_symm {a b : Int} : fitP a b ↔ fitP b a := by unfold fitP; rw [Int.min_comm, Int.max_comm]
def joinM (a b : Int) : Int := if min a b = 2 ∧ max a b = 3 then 4 else max a b
theorem join_comm (a b : Int) : joinM a b = joinM b a := by unfold joinM; rw [Int.min_comm, Int.max_comm]
def Md (m : Int) : Prop := 0 ≤ m ∧ m ≤ 5
theorem md0 : Md 0 := by unfold Md; omega
theorem join_md {a b : Int} (ha : Md a) (hb : Md b) : Md (joinM a b) := by
  unfold Md joinM at *
  split <;> omega
theorem join_zero {a : Int} (ha : Md a) : joinM a 0 = a := by
  unfold Md joinM at *
  rw [if_neg (by omega)]; omega
theorem zero_join {a : Int} (ha : Md a) : joinM 0 a = a := by rw [join_comm, join_zero ha]
def intM (m : Int) : Int := if m = 0 then 0 else if m = 1 ∨ m = 3 then 1 else 2
theorem int_md (m : Int) : Md (intM m) := by
  unfold Md intM
  split
  · omega
  · split <;> omega
def pathF (d : Dc) (x : Int) : List Int := (upsF d.nodes 7 x).reverse
theorem mem_path {d : Dc} {x t : Int} : t ∈ pathF d x ↔ t ∈ upsF d.nodes 7 x := by unfold pathF; rw [List.mem_reverse]
def needF (d : Dc) (h : Ho) (node : Int) : Int := if h.node = node then h.mode else if node ∈ upsF d.nodes 7 h.node then intM h.mode else 0
def modeF (d : Dc) (l : List Ho) (s node : Int) : Int := l.foldl (fun m h => if h.session = s then joinM m (needF d h node) else m) 0
def wantF (d : Dc) (l : List Ho) (h : Ho) (node : Int) : Int := joinM (modeF d l h.session node) (needF d h node)
def ownF : List Ho → Int → Int → Int
  | [], _, _ => 0
  | h :: l, s, n => if h.session = s ∧ h.node = n then h.mode else ownF l s n
theorem own_md {s n : Int} : ∀ {l : List Ho}, (∀ h ∈ l, Md h.mode) → Md (ownF l s n)
  | [], _ => md0
  | h :: l, hm => by
    unfold ownF
    split
    · exact hm h (by simp)
    · exact own_md fun x hx => hm x (by simp [hx])
theorem need_md {d : Dc} {h : Ho} (hm : Md h.mode) (node : Int) : Md (needF d h node) := by
  unfold needF
  split
  · exact hm
  · split
    · exact int_md _
    · exact md0
theorem mode_fold_md {d : Dc} {s node : Int} : ∀ {l : List Ho} (m : Int), (∀ h ∈ l, Md h.mode) → Md m → Md (l.foldl (fun m h => if h.session = s then joinM m (needF d h node) else m) m)
  | [], m, _, h => h
  | a :: l, m, hm, h => by
    rw [List.foldl_cons]
    refine mode_fold_md _ (fun x hx => hm x (by simp [hx])) ?_
    split
    · exact join_md h (need_md (hm a (by simp)) node)
    · exact h
theorem mode_md {d : Dc} {l : List Ho} (hm : ∀ h ∈ l, Md h.mode) (s node : Int) : Md (modeF d l s node) := mode_fold_md 0 hm md0
theorem want_md {d : Dc} {l : List Ho} {h : Ho} (hm : ∀ h ∈ l, Md h.mode) (hh : Md h.mode) (node : Int) : Md (wantF d l h node) := join_md (mode_md hm _ _) (need_md hh _)
def dedG : Int → List Int → List Int
  | _, [] => []
  | p, x :: l => if x = p then dedG p l else x :: dedG x l
def dedF : List Int → List Int
  | [] => []
  | x :: l => x :: dedG x l
theorem mem_dedG {x : Int} : ∀ {l : List Int} {p : Int}, x ∈ p :: dedG p l ↔ x ∈ p :: l
  | [], p => by simp [dedG]
  | y :: l, p => by
    unfold dedG
    split
    · rename_i h
      subst h
      rw [mem_dedG]
      simp
    · rw [List.mem_cons, mem_dedG (l := l), ← List.mem_cons]
theorem mem_ded {x : Int} : ∀ {l : List Int}, x ∈ dedF l ↔ x ∈ l
  | [] => by simp [dedF]
  | y :: l => by unfold dedF; exact mem_dedG
theorem dedG_sorted : ∀ {l : List Int} {p : Int}, (p :: l).Pairwise (· ≤ ·) → (p :: dedG p l).Pairwise (· < ·)
  | [], p, _ => by simp [dedG]
  | y :: l, p, h => by
    obtain ⟨h1, h2⟩ := List.pairwise_cons.1 h
    unfold dedG
    split
    · rename_i e
      subst e
      exact dedG_sorted h2
    · rename_i e
      have hp : p < y := by have := h1 y (by simp); omega
      have ih := dedG_sorted h2
      refine List.pairwise_cons.2 ⟨fun z hz => ?_, ih⟩
      rcases List.mem_cons.1 hz with rfl | hz
      · exact hp
      · have := (List.pairwise_cons.1 ih).1 z hz; omega
theorem ded_sorted : ∀ {l : List Int}, l.Pairwise (· ≤ ·) → (dedF l).Pairwise (· < ·)
  | [], _ => by simp [dedF]
  | y :: l, h => dedG_sorted h
theorem dedG_len : ∀ (l : List Int) (p : Int), (dedG p l).length ≤ l.length
  | [], p => by simp [dedG]
  | y :: l, p => by
    unfold dedG
    split
    · have := dedG_len l p; simp; omega
    · have := dedG_len l y; simp; omega
theorem ded_len : ∀ (l : List Int), (dedF l).length ≤ l.length
  | [] => by simp [dedF]
  | y :: l => by unfold dedF; have := dedG_len l y; simp; omega
theorem lt_ext : ∀ {l m : List Int}, l.Pairwise (· < ·) → m.Pairwise (· < ·) → (∀ x, x ∈ l ↔ x ∈ m) → l = m := by
  intro l m hl hm h
  have nl : l.Nodup := hl.imp fun h => by omega
  have nm : m.Nodup := hm.imp fun h => by omega
  exact sorted_eq ((List.perm_ext_iff_of_nodup nl nm).2 h) (hl.imp fun h => by omega) (hm.imp fun h => by omega)
theorem sort_sorted (l : List Int) : (sortI l).Pairwise (· ≤ ·) := by rw [← rises_sort]; exact rises_sorted l [] List.Pairwise.nil
theorem sort_perm (l : List Int) : (sortI l).Perm l := by unfold sortI; exact List.mergeSort_perm l _
theorem sort_mem {l : List Int} {x : Int} : x ∈ sortI l ↔ x ∈ l := (sort_perm l).mem_iff
theorem sort_id {l : List Int} (h : l.Pairwise (· ≤ ·)) : sortI l = l := sorted_eq (sort_perm l) (sort_sorted l) h
theorem sort_filter (p : Int → Bool) (l : List Int) : (sortI l).filter p = sortI (l.filter p) :=
  sorted_eq (((sort_perm l).filter p).trans (sort_perm _).symm) ((sort_sorted l).sublist List.filter_sublist) (sort_sorted _)
def sessF (l : List Ho) : List Int := dedF (l.map (·.session))
def lessP (a b : Ho) : Prop := a.session < b.session ∨ a.session = b.session ∧ a.node < b.node
def RiseH (l : List Ho) : Prop := l.Pairwise lessP
theorem less_trans {a b c : Ho} (h1 : lessP a b) (h2 : lessP b c) : lessP a c := by unfold lessP at *; omega
theorem RiseH.le {l : List Ho} (h : RiseH l) : (l.map (·.session)).Pairwise (· ≤ ·) := by
  rw [List.pairwise_map]
  exact h.imp fun h => by unfold lessP at h; omega
theorem rise_steps {l : List Ho} (h : ∀ i (hi : i + 1 < l.length), lessP l[i] l[i + 1]) : RiseH l := by
  refine List.pairwise_iff_getElem.2 fun i j hi hj hij => ?_
  induction j with
  | zero => omega
  | succ j ih =>
    have h1 := h j hj
    by_cases q : i = j
    · subst q; exact h1
    · exact less_trans (ih (by omega) (by omega)) h1
def holdP (d : Dc) (h : Ho) : Prop := (1 ≤ h.session ∧ h.session ≤ 999) ∧ (ndAt d.nodes h.node).isSome ∧ (1 ≤ h.mode ∧ h.mode ≤ 5)
theorem holdP.md {d : Dc} {h : Ho} (w : holdP d h) : Md h.mode := by unfold holdP at w; unfold Md; omega
def HoldsP (d : Dc) (l : List Ho) : Prop := l.length ≤ 30 ∧ ∀ i (hi : i < l.length), holdP d l[i] ∧ ∀ j (hj : j + 1 = i), lessP l[j] l[i]
theorem HoldsP.rise {d : Dc} {l : List Ho} (h : HoldsP d l) : RiseH l := rise_steps fun i hi => (h.2 (i + 1) hi).2 i rfl
theorem HoldsP.all {d : Dc} {l : List Ho} (h : HoldsP d l) : ∀ x ∈ l, holdP d x := fun x hx => by
  obtain ⟨i, hi, rfl⟩ := List.mem_iff_getElem.1 hx
  exact (h.2 i hi).1
theorem HoldsP.md {d : Dc} {l : List Ho} (h : HoldsP d l) : ∀ x ∈ l, Md x.mode := fun x hx => (h.all x hx).md
def WaitsP (d : Dc) (l : List Ho) : Prop := l.length ≤ 6 ∧ ∀ i (hi : i < l.length), holdP d l[i] ∧ ∀ k (hk : k < i), l[k].session ≠ l[i].session
theorem WaitsP.all {d : Dc} {l : List Ho} (h : WaitsP d l) : ∀ x ∈ l, holdP d x := fun x hx => by
  obtain ⟨i, hi, rfl⟩ := List.mem_iff_getElem.1 hx
  exact (h.2 i hi).1
theorem WaitsP.md {d : Dc} {l : List Ho} (h : WaitsP d l) : ∀ x ∈ l, Md x.mode := fun x hx => (h.all x hx).md
def TabP (d : Dc) (t : Tb) : Prop := HoldsP d t.holds ∧ WaitsP d t.waits
theorem ups_stable {l : List Nd} (h0 : parP l 0 = 0) : ∀ (k k' : Nat) (t : Int), upP l k t = 0 → upP l k' t = 0 → upsF l k t = upsF l k' t
  | 0, k', t, h, _ => by
    have : t = 0 := h
    subst this
    cases k' <;> simp [upsF]
  | k + 1, 0, t, _, h => by
    have : t = 0 := h
    subst this
    simp [upsF]
  | k + 1, k' + 1, t, h, h' => by
    simp only [upsF]
    by_cases e : t = 0
    · rw [if_pos e, if_pos e]
    · rw [if_neg e, if_neg e, ups_stable h0 k k' (parP l t) h h']
theorem ups_split {l : List Nd} : ∀ (s j : Nat) (x : Int), j ≤ s → upP l j x ≠ 0 → parP l 0 = 0 → ∃ pre, upsF l s x = pre ++ upsF l (s - j) (upP l j x) ∧ pre.length = j
  | s, 0, x, _, _, _ => ⟨[], by simp [upP], rfl⟩
  | 0, j + 1, x, h, _, _ => by omega
  | s + 1, j + 1, x, h, hn, h0 => by
    have hx : x ≠ 0 := fun e => by
      subst e
      have hz : ∀ j, upP l j 0 = 0 := fun j => by
        induction j with
        | zero => rfl
        | succ j ih => show upP l j (parP l 0) = 0; rw [h0]; exact ih
      exact hn (hz _)
    obtain ⟨pre, h1, h2⟩ := ups_split s j (parP l x) (by omega) hn h0
    refine ⟨x :: pre, ?_, by simp [h2]⟩
    simp only [upsF, if_neg hx]
    rw [h1, List.cons_append]
    congr 2
    congr 1
    omega
variable {d : Dc}
theorem path_head (hd : DOK d) {x t : Int} (hx : (ndAt d.nodes x).isSome) (ht : t ∈ pathF d x) : ∃ rest, pathF d x = pathF d t ++ rest := by
  have h0 := hd.par0
  have ht' := mem_path.1 ht
  have hu := hd.up hx
  have htz : t ≠ 0 := by
    intro e
    subst e
    have key : ∀ (s : Nat) (x : Int), (0 : Int) ∉ upsF d.nodes s x := by
      intro s
      induction s with
      | zero => intro x; simp [upsF]
      | succ s ih =>
        intro x
        simp only [upsF]
        split
        · simp
        · rename_i hx
          intro hm
          rcases List.mem_cons.1 hm with e | hm
          · exact hx e.symm
          · exact ih _ hm
    exact key _ _ ht'
  obtain ⟨j, hj, rfl⟩ := (mem_ups h0 htz 7 x).1 ht'
  obtain ⟨pre, h1, _⟩ := ups_split 7 j x (by omega) htz h0
  have h2 : upP d.nodes (7 - j) (upP d.nodes j x) = 0 := by rw [← up_add, show j + (7 - j) = 7 by omega]; exact hu
  have h3 : upP d.nodes 7 (upP d.nodes j x) = 0 := by
    rw [show 7 = (7 - j) + j by omega, up_add, h2]
    exact up_zero hd.tree j
  refine ⟨pre.reverse, ?_⟩
  unfold pathF
  rw [h1, List.reverse_append, ups_stable h0 (7 - j) 7 _ h2 h3]
theorem path_last (hd : DOK d) {x : Int} (hx : (ndAt d.nodes x).isSome) : ∃ p, pathF d x = p ++ [x] ∧ x ∉ p := by
  have h1 : x ≠ 0 := by have := has_pos hd.tree hx; omega
  refine ⟨(upsF d.nodes 6 (parP d.nodes x)).reverse, ?_, ?_⟩
  · unfold pathF
    simp [upsF, h1]
  · rw [List.mem_reverse, mem_ups hd.par0 h1]
    rintro ⟨j, _, hj⟩
    have hr : ∃ t, upP d.nodes t x = d.root := by
      obtain ⟨s, _, hu⟩ := ord_depth hd.tree 6 d.root x hd.tree.top (hd.all hx)
      exact ⟨s, hu⟩
    exact no_cycle hd.tree hr j hj
theorem path_common (hd : DOK d) {a b x : Int} (ha : (ndAt d.nodes a).isSome) (hb : (ndAt d.nodes b).isSome) (hxa : x ∈ pathF d a) (hxb : x ∈ pathF d b) (hx : (ndAt d.nodes x).isSome) :
    ∃ i : Nat, (pathF d a)[i]? = some x ∧ ∀ j : Nat, j ≤ i → ∃ y, (pathF d a)[j]? = some y ∧ (pathF d b)[j]? = some y := by
  obtain ⟨ra, ea⟩ := path_head hd ha hxa
  obtain ⟨rb, eb⟩ := path_head hd hb hxb
  obtain ⟨p, ep, _⟩ := path_last hd hx
  refine ⟨p.length, ?_, fun j hj => ?_⟩
  · rw [ea, ep]; simp
  · have hl : j < (pathF d x).length := by rw [ep]; simp; omega
    refine ⟨(pathF d x)[j], ?_, ?_⟩
    · rw [ea, List.getElem?_append_left hl]; simp [hl]
    · rw [eb, List.getElem?_append_left hl]; simp [hl]
theorem path_has (hd : DOK d) {a x : Int} (ha : (ndAt d.nodes a).isSome) (hx : x ∈ pathF d a) : (ndAt d.nodes x).isSome := by
  have hx' := mem_path.1 hx
  have key : ∀ (s : Nat) (y : Int), (y = 0 ∨ (ndAt d.nodes y).isSome) → x ∈ upsF d.nodes s y → (ndAt d.nodes x).isSome := by
    intro s
    induction s with
    | zero => intro y _ h; simp [upsF] at h
    | succ s ih =>
      intro y hy h
      simp only [upsF] at h
      split at h
      · simp at h
      · rename_i hy0
        have hy1 := hy.resolve_left hy0
        rcases List.mem_cons.1 h with rfl | h
        · exact hy1
        · refine ih _ ?_ h
          by_cases e : parP d.nodes y = 0
          · exact .inl e
          · refine .inr ?_
            have := par_nonneg hd.tree y
            exact (par_kid hd.tree (z := y) rfl (by omega)).2
  exact key 7 a (.inr ha) hx'
noncomputable def confF (d : Dc) (l : List Ho) (h : Ho) : List Int := (sessF l).filter fun s => dB (s ≠ h.session ∧ ∃ x ∈ pathF d h.node, ¬ fitP (modeF d l s x) (wantF d l h x))
def rivalP (d : Dc) (l : List Ho) (a b : Ho) : Prop := ∃ x, x ∈ pathF d a.node ∧ x ∈ pathF d b.node ∧ ¬ fitP (wantF d l a x) (wantF d l b x)
theorem rival_symm {l : List Ho} {a b : Ho} : rivalP d l a b ↔ rivalP d l b a :=
  ⟨fun ⟨x, h1, h2, h3⟩ => ⟨x, h2, h1, fun h => h3 (fit_symm.1 h)⟩, fun ⟨x, h1, h2, h3⟩ => ⟨x, h2, h1, fun h => h3 (fit_symm.1 h)⟩⟩
theorem rival_common (hd : DOK d) {l : List Ho} {a b : Ho} (ha : (ndAt d.nodes a.node).isSome) (hb : (ndAt d.nodes b.node).isSome) : rivalP d l a b ↔
    ∃ (i : Nat) (x : Int), (pathF d a.node)[i]? = some x ∧ (∀ j : Nat, j ≤ i → ∃ y, (pathF d a.node)[j]? = some y ∧ (pathF d b.node)[j]? = some y) ∧ ¬ fitP (wantF d l a x) (wantF d l b x) := by
  constructor
  · rintro ⟨x, h1, h2, h3⟩
    obtain ⟨i, e1, e2⟩ := path_common hd ha hb h1 h2 (path_has hd ha h1)
    exact ⟨i, x, e1, e2, h3⟩
  · rintro ⟨i, x, e1, e2, h3⟩
    obtain ⟨y, y1, y2⟩ := e2 i (Nat.le_refl _)
    rw [e1] at y1
    cases y1
    exact ⟨x, List.mem_of_getElem? e1, List.mem_of_getElem? y2, h3⟩
noncomputable def rivF (d : Dc) (t : Tb) (k : Nat) (w : Ho) : List Int := ((t.waits.take k).filter fun a => dB (rivalP d t.holds a w)).map (·.session)
noncomputable def blockF (d : Dc) (t : Tb) (k : Nat) (w : Ho) : List Int := dedF (sortI (confF d t.holds w ++ rivF d t k w))
theorem conf_sorted {l : List Ho} (h : RiseH l) (w : Ho) : (confF d l w).Pairwise (· < ·) := (ded_sorted h.le).sublist List.filter_sublist
theorem rise_lt {l : List Int} {n : Int} (h : l.Pairwise (· < ·)) (hn : n ∉ l) : (riseF l n).Pairwise (· < ·) := by
  have h1 := riseF_sorted n l (h.imp fun {a b} (h : a < b) => Int.le_of_lt h)
  have h2 : (riseF l n).Nodup := (riseF_perm n l).nodup_iff.2 (List.nodup_cons.2 ⟨hn, h.imp fun {a b} (h : a < b) => Int.ne_of_lt h⟩)
  exact (List.pairwise_and_iff.2 ⟨h1, h2⟩).imp fun h => by obtain ⟨a, b⟩ := h; omega
noncomputable def blockS (d : Dc) (t : Tb) (w : Ho) (l : List Ho) (out : List Int) : List Int := l.foldl (fun out a => if dB (rivalP d t.holds a w) then (if a.session ∈ out then out else riseF out a.session) else out) out
theorem blockS_ok {t : Tb} {w : Ho} : ∀ (l : List Ho) (out : List Int), out.Pairwise (· < ·) → (blockS d t w l out).Pairwise (· < ·) ∧ ∀ x, x ∈ blockS d t w l out ↔ x ∈ out ∨ x ∈ (l.filter fun a => dB (rivalP d t.holds a w)).map (·.session)
  | [], out, h => ⟨h, fun x => by simp [blockS]⟩
  | a :: l, out, h => by
    unfold blockS
    rw [List.foldl_cons]
    cases hb : dB (rivalP d t.holds a w) with
    | false =>
      obtain ⟨i1, i2⟩ := blockS_ok l out h
      rw [List.filter_cons_of_neg (by simp [hb])]
      exact ⟨i1, i2⟩
    | true =>
      rw [List.filter_cons_of_pos (by simp [hb])]
      by_cases hm : a.session ∈ out
      · obtain ⟨i1, i2⟩ := blockS_ok l out h
        simp only [if_pos hm, if_true]
        refine ⟨i1, fun x => (i2 x).trans ?_⟩
        rw [List.map_cons, List.mem_cons]
        constructor
        · rintro (h | h)
          · exact .inl h
          · exact .inr (.inr h)
        · rintro (h | rfl | h)
          · exact .inl h
          · exact .inl hm
          · exact .inr h
      · obtain ⟨i1, i2⟩ := blockS_ok l (riseF out a.session) (rise_lt h hm)
        simp only [if_neg hm, if_true]
        refine ⟨i1, fun x => (i2 x).trans ?_⟩
        rw [(riseF_perm _ _).mem_iff, List.mem_cons, List.map_cons, List.mem_cons]
        constructor
        · rintro ((rfl | h) | h)
          · exact .inr (.inl rfl)
          · exact .inl h
          · exact .inr (.inr h)
        · rintro (h | rfl | h)
          · exact .inl (.inr h)
          · exact .inl (.inl rfl)
          · exact .inr h
theorem block_eq {t : Tb} (hr : RiseH t.holds) (k : Nat) (w : Ho) : blockS d t w (t.waits.take k) (confF d t.holds w) = blockF d t k w := by
  obtain ⟨h1, h2⟩ := blockS_ok (d := d) (t := t) (w := w) (t.waits.take k) _ (conf_sorted (d := d) hr w)
  refine lt_ext h1 (ded_sorted (sort_sorted _)) fun x => ?_
  unfold blockF
  rw [h2, mem_ded, sort_mem, List.mem_append]
  rfl
theorem conf_mem {l : List Ho} {w : Ho} {x : Int} (h : x ∈ confF d l w) : x ∈ l.map (·.session) := mem_ded.1 (List.mem_filter.1 h).1
theorem block_mem {t : Tb} {k : Nat} {w : Ho} {x : Int} (h : x ∈ blockF d t k w) : x ∈ (t.holds ++ t.waits).map (·.session) := by
  unfold blockF at h
  rw [mem_ded, sort_mem, List.mem_append] at h
  rw [List.map_append, List.mem_append]
  rcases h with h | h
  · exact .inl (conf_mem h)
  · refine .inr ?_
    obtain ⟨a, ha, rfl⟩ := List.mem_map.1 h
    exact List.mem_map.2 ⟨a, List.mem_of_mem_take (List.mem_filter.1 ha).1, rfl⟩
def addF : List Int → List Int → List Int
  | _, [] => []
  | out, y :: l => if y ∈ out then addF out l else y :: addF (out ++ [y]) l
def bfsF (blk : Int → List Int) : Nat → List Int → List Int → List Int
  | 0, _, out => out
  | _ + 1, [], out => out
  | n + 1, x :: q, out => bfsF blk n (q ++ addF out (blk x)) (out ++ addF out (blk x))
theorem bfs_nil {blk : Int → List Int} {n : Nat} {out : List Int} : bfsF blk n [] out = out := by cases n <;> rfl
theorem add_nodup : ∀ {l out : List Int}, out.Nodup → (out ++ addF out l).Nodup
  | [], out, h => by simpa [addF] using h
  | y :: l, out, h => by
    unfold addF
    split
    · exact add_nodup h
    · rename_i hy
      have h1 : (out ++ [y]).Nodup := by
        rw [List.nodup_append]
        exact ⟨h, by simp, fun a ha b hb e => hy (by simp at hb; rw [← hb, ← e]; exact ha)⟩
      have := add_nodup (l := l) h1
      simpa using this
theorem add_mem {x : Int} : ∀ {l out : List Int}, x ∈ addF out l → x ∈ l
  | [], out, h => by simp [addF] at h
  | y :: l, out, h => by
    unfold addF at h
    split at h
    · exact List.mem_cons_of_mem _ (add_mem h)
    · rcases List.mem_cons.1 h with rfl | h
      · simp
      · exact List.mem_cons_of_mem _ (add_mem h)
theorem add_snoc (y : Int) : ∀ (l out : List Int), addF out (l ++ [y]) = if y ∈ out ++ addF out l then addF out l else addF out l ++ [y]
  | [], out => by simp [addF]
  | z :: l, out => by
    rw [List.cons_append]
    unfold addF
    by_cases hz : z ∈ out
    · rw [if_pos hz, if_pos hz]; exact add_snoc y l out
    · rw [if_neg hz, if_neg hz, add_snoc y l (out ++ [z])]
      simp only [List.append_assoc, List.singleton_append]
      split <;> simp
def waitF (t : Tb) (s : Int) : Int := ixP (fun h : Ho => decide (h.session = s)) 0 t.waits
noncomputable def blkF (d : Dc) (t : Tb) (s : Int) : List Int := if waitF t s < 0 then [] else match t.waits[(waitF t s).toNat]? with
  | none => []
  | some w => blockF d t (waitF t s).toNat w
noncomputable def reachF (d : Dc) (t : Tb) (s : Int) : List Int := bfsF (blkF d t) (t.holds.length + t.waits.length + 1) [s] []
noncomputable def circF (d : Dc) (t : Tb) (s : Int) : List Int := (sortI (reachF d t s)).filter fun x => dB (s ∈ reachF d t x)
theorem blk_mem {t : Tb} {s x : Int} (h : x ∈ blkF d t s) : x ∈ (t.holds ++ t.waits).map (·.session) := by
  unfold blkF at h
  split at h
  · simp at h
  · split at h
    · simp at h
    · exact block_mem h
theorem circ_eq (t : Tb) (s : Int) : (reachF d t s).foldl (fun out x => if dB (x = s ∨ s ∈ reachF d t x) then riseF out x else out) [] = circF d t s := by
  have key : ∀ (l : List Int) (out : List Int), (∀ x ∈ l, x ∈ reachF d t s) → l.foldl (fun out x => if dB (x = s ∨ s ∈ reachF d t x) then riseF out x else out) out = (l.filter fun x => dB (s ∈ reachF d t x)).foldl riseF out := by
    intro l
    induction l with
    | nil => intro out _; rfl
    | cons a l ih =>
      intro out ha
      rw [List.foldl_cons]
      have e : dB (a = s ∨ s ∈ reachF d t a) = dB (s ∈ reachF d t a) := by
        by_cases h : s ∈ reachF d t a
        · rw [dB_yes h, dB_yes (.inr h)]
        · rw [dB_no h, dB_no]
          rintro (rfl | h')
          · exact h (ha _ (by simp))
          · exact h h'
      rw [e]
      cases hb : dB (s ∈ reachF d t a) with
      | true =>
        rw [List.filter_cons_of_pos (by simp [hb]), List.foldl_cons]
        simpa using ih _ fun x hx => ha x (by simp [hx])
      | false =>
        rw [List.filter_cons_of_neg (by simp [hb])]
        simpa using ih _ fun x hx => ha x (by simp [hx])
  rw [key _ _ fun x hx => hx]
  unfold circF
  rw [rises_sort, sort_filter]
end Go.Proofs.YtecnmodeggnjoaaGreat.Ac
set_option linter.unusedVariables false
set_option linter.unusedSimpArgs false
set_option maxRecDepth 20000
set_option maxHeartbeats 20000000
namespace Go.Proofs.YtecnmodeggnjoaaGreat.Ac
open Go.RowKit
theorem DOK.len {d : Dc} (h : DOK d) : d.nodes.length ≤ 40 := by have := h.1.2; omega
theorem DOK.kl' {d : Dc} (h : DOK d) : ∀ n ∈ d.nodes, n.kids.length ≤ 12 := fun n hn => by
  obtain ⟨t, ht, rfl⟩ := List.mem_iff_getElem.1 hn
  exact (h.2.2.1 t ht).1.2.2.2.2
theorem DOK.kd {d : Dc} (h : DOK d) : ∀ n ∈ d.nodes, 1 ≤ n.kind ∧ n.kind ≤ 8 := fun n hn => by
  obtain ⟨t, ht, rfl⟩ := List.mem_iff_getElem.1 hn
  exact (h.2.2.1 t ht).1.2.1
end Go.Proofs.YtecnmodeggnjoaaGreat.Ac
