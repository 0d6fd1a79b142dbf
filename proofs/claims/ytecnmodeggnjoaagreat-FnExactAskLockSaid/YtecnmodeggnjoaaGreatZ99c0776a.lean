/- Several of our texts, one behind the other, without what this claim does not need: Wc, Tr. -/
import Derived.Test.YtecnmodeggnjoaaGreatZe2002630
import Derived.Test.YtecnmodeggnjoaaGreatZaa953d4f
set_option linter.unusedVariables false
set_option linter.unusedSimpArgs false
set_option maxRecDepth 20000
namespace Go.Proofs.YtecnmodeggnjoaaGreat.Ac
open Go.RowKit
def Rise (l : List Nd) : Prop := (∀ n ∈ l, 1 ≤ n.id ∧ n.id < 1000000) ∧ l.Pairwise (fun a b => a.id < b.id)
def ndAt (l : List Nd) (id : Int) : Option Nd := l.find? (fun n => n.id == id)
def findL (l : List Nd) (id : Int) : L := match ndAt l id with
  | some n => .pv (ndL n)
  | none => .v (.pointer none)
theorem Rise.lt {l : List Nd} (h : Rise l) {i j : Nat} (hij : i < j) (hj : j < l.length) : l[i].id < l[j].id := List.pairwise_iff_getElem.1 h.2 i j (by omega) hj hij
theorem Rise.at {l : List Nd} (h : Rise l) {i : Nat} (hi : i < l.length) : ndAt l l[i].id = some l[i] := by
  unfold ndAt
  rw [List.find?_eq_some_iff_getElem]
  refine ⟨by simp, i, hi, rfl, fun j hj => ?_⟩
  have := h.lt hj hi
  simp; omega
theorem idD_zero {l : List Nd} (h : Rise l) {id : Int} (h64 : I64 id) {i : Nat} (hi : i < l.length) : idD l id i = 0 ↔ l[i].id = id := by
  have := h.1 l[i] (List.getElem_mem _)
  obtain ⟨h1, h2⟩ := h64
  simp only [idD, List.getElem?_eq_getElem hi, Option.getD_some, IntKind.wrap_i64]
  omega
theorem bsAt_mono {c : Nat → Bool} {k : Nat} : ∀ (n i j : Nat), n = j - i → i ≤ k → k ≤ j → (∀ m, i ≤ m → m < j → (c m = true ↔ m < k)) → bsAt c i j = k
  | n, i, j, hn, hik, hkj, hc => by
    by_cases h : i < j
    · by_cases hm : (i + j) / 2 < k
      · rw [← bsAt_yes h ((hc _ (by omega) (by omega)).2 hm)]
        exact bsAt_mono (j - ((i + j) / 2 + 1)) _ _ rfl (by omega) hkj fun m h1 h2 => hc m (by omega) h2
      · have : c ((i + j) / 2) = false := by
          cases hb : c ((i + j) / 2) with
          | false => rfl
          | true => exact absurd ((hc _ (by omega) (by omega)).1 hb) hm
        rw [← bsAt_no h this]
        exact bsAt_mono ((i + j) / 2 - i) _ _ rfl hik (by omega) fun m h1 h2 => hc m h1 (by omega)
    · have : i = j := by omega
      subst this
      rw [bsAt_end]; omega
  termination_by n => n
theorem bsIx_at {l : List Nd} (h : Rise l) {i : Nat} (hi : i < l.length) : bsIx l l[i].id = i := by
  refine bsAt_mono _ _ _ rfl (Nat.zero_le _) (Nat.le_of_lt hi) fun m _ hm => ?_
  have h1 := h.1 l[m] (List.getElem_mem _)
  have h2 := h.1 l[i] (List.getElem_mem _)
  have e1 : idD l l[i].id m = l[m].id - l[i].id := by
    simp only [idD, List.getElem?_eq_getElem hm, Option.getD_some, IntKind.wrap_i64]
    omega
  rw [e1]
  rcases Nat.lt_trichotomy m i with h3 | h3 | h3
  · have := h.lt h3 hi; simp; omega
  · subst h3; simp
  · have := h.lt h3 hm; simp; omega
theorem bs_found {l : List Nd} (h : Rise l) {id : Int} (h64 : I64 id) : ndAt l id = if bsIx l id < l.length ∧ idD l id (bsIx l id) = 0 then l[bsIx l id]? else none := by
  split
  · rename_i hc
    have e := (idD_zero h h64 hc.1).1 hc.2
    have := h.at hc.1
    rw [e] at this
    rw [this, List.getElem?_eq_getElem hc.1]
  · rename_i hc
    unfold ndAt
    rw [List.find?_eq_none]
    intro n hn
    obtain ⟨i, hi, rfl⟩ := List.mem_iff_getElem.1 hn
    simp only [beq_iff_eq]
    rintro rfl
    apply hc
    rw [bsIx_at h hi]
    exact ⟨hi, (idD_zero h h64 hi).2 rfl⟩
theorem find_ok (d : Dc) (id : Int) (h : Rise d.nodes) (h64 : I64 id) (hlen : d.nodes.length < 2 ^ 62) : FC Tryz.prog 212 [(false, [.pv (dcL d)]), (false, [iL id])] [] [(false, [.f (findL d.nodes id)])] := by
  have hb := bs_found h h64
  have hs := bsearch_ok d.nodes id hlen
  by_cases hc : bsIx d.nodes id < d.nodes.length ∧ idD d.nodes id (bsIx d.nodes id) = 0
  · rw [decide_eq_true hc] at hs
    rw [if_pos hc, List.getElem?_eq_getElem hc.1] at hb
    refine en Tryz.func212 Tryz.ntmps212 trivial ?_
    refine nw ?_
    refine ⟨([], _), hs, ?_⟩
    refine nw ?_
    refine ⟨(bsIx d.nodes id, ndL d.nodes[bsIx d.nodes id]), ⟨rfl, by simp [hc.1]⟩, ?_⟩
    refine nw ?_
    refine ⟨[], [], ?_⟩
    refine tel1 ?_
    simp only [findL, hb]
  · rw [decide_eq_false hc] at hs
    rw [if_neg hc] at hb
    refine en Tryz.func212 Tryz.ntmps212 trivial ?_
    refine nw ?_
    refine ⟨([], _), hs, ?_⟩
    refine nw ?_
    refine ⟨[], [], ?_⟩
    refine tel1 ?_
    exact tl_f (a := .v (.pointer none)) (by simp only [findL, hb])
theorem has_ok (d : Dc) (id : Int) (h : Rise d.nodes) (h64 : I64 id) (hlen : d.nodes.length < 2 ^ 62) : FC Tryz.prog 127 [(false, [.pv (dcL d)]), (false, [iL id])] [] [(false, [.f (bL (ndAt d.nodes id).isSome)])] := by
  have hf := find_ok d id h h64 hlen
  unfold findL at hf
  cases hq : ndAt d.nodes id with
  | none =>
    rw [hq] at hf
    refine en Tryz.func127 Tryz.ntmps127 trivial ?_
    refine nw ?_
    refine ⟨([], _), hf, ?_⟩
    refine nw ?_
    refine ⟨[], [], ?_⟩
    exact tel
  | some n =>
    rw [hq] at hf
    refine en Tryz.func127 Tryz.ntmps127 trivial ?_
    refine nw ?_
    refine ⟨([], _), hf, ?_⟩
    refine nw ?_
    refine ⟨[], [], ?_⟩
    exact tel
def Fits (l : List Nd) : Nat → Int → Prop
  | 0, _ => False
  | k + 1, id => ∃ n, ndAt l id = some n ∧ ∀ c ∈ n.kids, Fits l k c
def Kids (l : List Nd) : Prop := ∀ n ∈ l, ∀ c ∈ n.kids, ∃ m, ndAt l c = some m
def kidsAt (l : List Nd) (id : Int) : List Int := ((ndAt l id).map (·.kids)).getD []
def depthF (l : List Nd) : Nat → Int → Nat
  | 0, _ => 0
  | k + 1, id => (kidsAt l id).foldl (fun m c => max m (depthF l k c)) 0 + 1
theorem ndAt_mem {l : List Nd} {id : Int} {n : Nd} (h : ndAt l id = some n) : n ∈ l ∧ n.id = id := ⟨List.mem_of_find?_eq_some h, by simpa using List.find?_some h⟩
theorem Rise.i64 {l : List Nd} (h : Rise l) {id : Int} {n : Nd} (hn : ndAt l id = some n) : I64 id := by
  obtain ⟨h1, rfl⟩ := ndAt_mem hn
  have := h.1 n h1
  unfold I64; omega
theorem findL_some {l : List Nd} {id : Int} {n : Nd} (hn : ndAt l id = some n) : findL l id = .pv (ndL n) := by simp only [findL, hn]
theorem foldl_take {f : Nat → Int → Nat} {ks : List Int} {i : Nat} (hi : i < ks.length) (z : Nat) : (ks.take (i + 1)).foldl f z = f ((ks.take i).foldl f z) ks[i] := by
  rw [List.take_succ_eq_append_getElem hi, List.foldl_append]; rfl
theorem depthF_le {l : List Nd} (hk : ∀ n ∈ l, n.kids.length < 2 ^ 62) : ∀ (k : Nat) (id : Int), depthF l k id ≤ k
  | 0, _ => Nat.le_refl _
  | k + 1, id => by
    have : ∀ (ks : List Int) (m : Nat), m ≤ k → ks.foldl (fun m c => max m (depthF l k c)) m ≤ k := by
      intro ks
      induction ks with
      | nil => exact fun m hm => hm
      | cons c ks ih => exact fun m hm => ih _ (Nat.max_le.2 ⟨hm, depthF_le hk k c⟩)
    have := this (kidsAt l id) 0 (Nat.zero_le _)
    simp only [depthF]; omega
theorem depth_ok (d : Dc) (h : Rise d.nodes) (hk : Kids d.nodes) (hlen : d.nodes.length < 2 ^ 62) (hks : ∀ n ∈ d.nodes, n.kids.length < 2 ^ 62) : ∀ (k : Nat), k ≤ 7 → ∀ (id : Int) (n : Nd), ndAt d.nodes id = some n →
    FC Tryz.prog 294 [(false, [.pv (dcL d)]), (false, [iL id]), (false, [iL ((7 - k : Nat) : Int)])] [] [(false, [.f (iL (depthF d.nodes k id))])]
  | 0, _, id, n, hn => by
    refine en Tryz.func294 Tryz.ntmps294 trivial ?_
    refine nw ?_
    refine ⟨fun h => ?_, fun h => by omega⟩
    refine nw ?_
    refine ⟨[], [], ?_⟩
    exact tel
  | k + 1, hle, id, n, hn => by
    have ih := depth_ok d h hk hlen hks k (by omega)
    have hf := find_ok d id h (h.i64 hn) hlen
    rw [findL_some hn] at hf
    refine en Tryz.func294 Tryz.ntmps294 trivial ?_
    refine nw ?_
    refine ⟨fun h => by omega, fun h' => ?_⟩
    clear h'
    refine nw ?_
    refine ⟨([], _), hf, ?_⟩
    refine nw ?_
    refine ⟨fun (m : Nat) (es : Es) (hs : Hs) => ∃ i : Nat, m + i = n.kids.length ∧ es = [(19, .val false [.f (iL i)]), (18, .val false [.f (iL n.kids.length)]), (17, .val false [.f (ints n.kids)]), (7, .val false [.f (iL ((n.kids.take i).foldl (fun m c => max m (depthF d.nodes k c)) 0 : Nat))]), (2, .val false [.f (iL ((7 - (k + 1) : Nat) : Int))]), (0, .val false [.f (.pv (dcL d))])] ∧ hs = [],
      ⟨n.kids.length, [], [], _, _, ⟨?_, ?_, ?_⟩, 0, rfl, rfl, rfl⟩, ?_⟩
    · rfl
    · refine tel1 ?_
      simp
    · exact tel
    rintro m es hs ⟨i, hm, rfl, rfl⟩
    refine nw ?_
    refine ⟨fun h => ?_, fun h => ?_⟩
    · have hi : i < n.kids.length := by omega
      obtain ⟨c, hc⟩ := hk n (ndAt_mem hn).1 n.kids[i] (List.getElem_mem _)
      have ih := ih n.kids[i] c hc
      refine nw ?_
      refine ⟨(i, intE n.kids[i]), ⟨rfl, by simp [hi]⟩, ?_⟩
      refine nw ?_
      refine ⟨([], [(false, [.f (iL (depthF d.nodes k n.kids[i]))])]), ?_, ?_⟩
      · have e : IntKind.i64.wrap (((7 - (k + 1) : Nat) : Int) + 1) = ((7 - k : Nat) : Int) := by rw [IntKind.wrap_i64]; omega
        rw [← e] at ih
        exact ih
      refine nw ?_
      refine ⟨m - 1, [], [], [(19, .val false [.f (iL (i + 1 : Nat))]), (18, .val false [.f (iL n.kids.length)]), (17, .val false [.f (ints n.kids)]), (7, .val false [.f (iL ((n.kids.take (i + 1)).foldl (fun m c => max m (depthF d.nodes k c)) 0 : Nat))]), (2, .val false [.f (iL ((7 - (k + 1) : Nat) : Int))]), (0, .val false [.f (.pv (dcL d))])], [], by omega, ⟨?_, ?_, ?_⟩, i + 1, by omega, rfl, rfl⟩
      · rfl
      · refine tel2 ?_ ?_
        · exact wrap_suc (by have := hks n (ndAt_mem hn).1; omega)
        · rw [foldl_take hi]
          split <;> omega
      · exact tel
    · have hi : n.kids.length = i := by omega
      refine nw ?_
      refine ⟨[], [], ?_⟩
      refine tel1 ?_
      subst hi
      have hd := depthF_le hks (k + 1) id
      have he : depthF d.nodes (k + 1) id = n.kids.foldl (fun m c => max m (depthF d.nodes k c)) 0 + 1 := by simp only [depthF, kidsAt, hn, Option.map_some, Option.getD_some]
      rw [List.take_length, he]
      exact wrap_suc (by omega)
theorem isDeep_ok (d : Dc) (h : Rise d.nodes) (hk : Kids d.nodes) (hlen : d.nodes.length < 2 ^ 62) (hks : ∀ n ∈ d.nodes, n.kids.length < 2 ^ 62) {n : Nd} (hn : ndAt d.nodes d.root = some n) :
    FC Tryz.prog 224 [(false, [.pv (dcL d)])] [] [(false, [.f (bL (decide (6 < depthF d.nodes 7 d.root)))])] := by
  refine en Tryz.func224 Tryz.ntmps224 trivial ?_
  refine nw ?_
  refine ⟨([], _), depth_ok d h hk hlen hks 7 (by omega) d.root n hn, ?_⟩
  refine nw ?_
  refine ⟨fun h => ?_, fun h => ?_⟩
  · refine nw ?_
    refine ⟨[], [], ?_⟩
    refine tel1 ?_
    exact b_true (by omega)
  · refine nw ?_
    refine ⟨[], [], ?_⟩
    refine tel1 ?_
    exact b_false (by omega)
def orderF (l : List Nd) : Nat → Int → List Int
  | 0, _ => []
  | k + 1, id => id :: (kidsAt l id).flatMap (orderF l k)
theorem order_ok (d : Dc) (h : Rise d.nodes) (hlen : d.nodes.length < 2 ^ 62) (hks : ∀ n ∈ d.nodes, n.kids.length < 2 ^ 62) : ∀ (k : Nat) (id : Int), Fits d.nodes k id → ∀ out : List Int, out.length + (orderF d.nodes k id).length < 2 ^ 30 →
    GCalls Tryz.prog 225 [(1, some ⟨0, 1, out.map intW⟩)] [(false, [.f (.pv (dcL d))]), (false, [.row 1 0 out.length]), (false, [.f (iL id)])] [(1, none), (1000, some ⟨0, 1, (out ++ orderF d.nodes k id).map intW⟩)] [(false, [.row 1000 0 (out ++ orderF d.nodes k id).length])]
  | 0, id, hf, _, _ => hf.elim
  | k + 1, id, hf, out, hb => by
    obtain ⟨n, hn, hfk⟩ := hf
    have ih := order_ok d h hlen hks k
    have hf := find_ok d id h (h.i64 hn) hlen
    rw [findL_some hn] at hf
    have ho : orderF d.nodes (k + 1) id = id :: n.kids.flatMap (orderF d.nodes k) := by simp only [orderF, kidsAt, hn, Option.map_some, Option.getD_some]
    rw [ho] at hb ⊢
    refine en Tryz.func225 Tryz.ntmps225 (⟨cl_ints _, trivial⟩) ?_
    refine nw ?_
    refine ⟨(out ++ [id]).map intW, ⟨app_one intW out id, by simp at hb ⊢; omega⟩, ?_⟩
    refine nw ?_
    refine ⟨([], _), hf, ?_⟩
    refine nw ?_
    refine ⟨fun (m : Nat) (es : Es) (hs : Hs) => ∃ i : Nat, m + i = n.kids.length ∧ es = [(20, .val false [.f (iL i)]), (19, .val false [.f (iL n.kids.length)]), (18, .val false [.f (ints n.kids)]), (1, .val false [.row 208 0 (out ++ id :: (n.kids.take i).flatMap (orderF d.nodes k)).length]), (0, .val false [.f (.pv (dcL d))])] ∧ hs = [(208, some ⟨0, 1, (out ++ id :: (n.kids.take i).flatMap (orderF d.nodes k)).map intW⟩), (1, none)],
      ⟨n.kids.length, [], [], _, _, ⟨?_, ?_, ?_⟩, 0, rfl, rfl, rfl⟩, ?_⟩
    · rfl
    · refine tel2 ?_ ?_
      all_goals simp
    · exact tel
      all_goals simp
    rintro m es hs ⟨i, hm, rfl, rfl⟩
    refine nw ?_
    refine ⟨fun h => ?_, fun h => ?_⟩
    · have hi : i < n.kids.length := by omega
      refine nw ?_
      refine ⟨(i, intE n.kids[i]), ⟨rfl, by simp [hi]⟩, ?_⟩
      refine nw ?_
      have hsp : n.kids.flatMap (orderF d.nodes k) = (n.kids.take i).flatMap (orderF d.nodes k) ++ (orderF d.nodes k n.kids[i] ++ (n.kids.drop (i + 1)).flatMap (orderF d.nodes k)) := by
        conv => lhs; rw [← List.take_append_drop i n.kids, List.drop_eq_getElem_cons hi]
        rw [List.flatMap_append, List.flatMap_cons]
      have hst : out ++ id :: (n.kids.take (i + 1)).flatMap (orderF d.nodes k) = out ++ id :: (n.kids.take i).flatMap (orderF d.nodes k) ++ orderF d.nodes k n.kids[i] := by
        rw [List.take_succ_eq_append_getElem hi, List.flatMap_append]; simp
      refine ⟨⟨false, [(1, 208)], _, _, _, _⟩, ih n.kids[i] (hfk _ (List.getElem_mem _)) (out ++ id :: (n.kids.take i).flatMap (orderF d.nodes k)) ?_, ?_⟩
      · rw [hsp] at hb
        simp only [List.length_append, List.length_cons] at hb ⊢
        omega
      refine nw ?_
      refine ⟨⟨?_, ?_, trivial⟩, ?_⟩
      · exact tel
      · exact tel
      refine nw ?_
      refine ⟨m - 1, [], [(208, 448)], [(20, .val false [.f (iL (i + 1 : Nat))]), (19, .val false [.f (iL n.kids.length)]), (18, .val false [.f (ints n.kids)]), (1, .val false [.row 208 0 (out ++ id :: (n.kids.take (i + 1)).flatMap (orderF d.nodes k)).length]), (0, .val false [.f (.pv (dcL d))])], [(208, some ⟨0, 1, (out ++ id :: (n.kids.take (i + 1)).flatMap (orderF d.nodes k)).map intW⟩), (1, none)], by omega, ⟨?_, ?_, ?_⟩, i + 1, by omega, rfl, rfl⟩
      · rfl
      · refine tel2 ?_ ?_
        · exact wrap_suc (by have := hks n (ndAt_mem hn).1; omega)
        · rw [hst]
      · refine tel1 ?_
        dsimp only
        rw [hst]
    · have hi : n.kids.length = i := by omega
      have hst : (n.kids.take i) = n.kids := by rw [← hi, List.take_length]
      refine nw ?_
      refine ⟨[], [(1000, 208)], ?_⟩
      refine tel2 ?_ ?_
      · rw [hst]
      · dsimp only; rw [hst]
end Go.Proofs.YtecnmodeggnjoaaGreat.Ac
set_option linter.unusedVariables false
set_option linter.unusedSimpArgs false
namespace Go.Proofs.YtecnmodeggnjoaaGreat.Ac
def NodeOK (next : Int) (x : Nd) : Prop := (1 ≤ x.id ∧ x.id ≤ next - 1) ∧ (1 ≤ x.kind ∧ x.kind ≤ 8) ∧ (0 ≤ x.attr ∧ x.attr ≤ 99) ∧ x.text.size ≤ 20 ∧ x.kids.length ≤ 12
def StepOK (next : Int) (l : List Nd) (i : Nat) (h : i < l.length) : Prop := NodeOK next l[i] ∧ ∀ j (hj : j + 1 = i), l[j].id < l[i].id
def kidsAll (l : List Nd) : List Int := l.flatMap (·.kids)
def SetOK (root : Int) (l : List Nd) (ks : List Int) : Prop := ks.Nodup ∧ ∀ k ∈ ks, k ≠ root ∧ (ndAt l k).isSome
def DOK (d : Dc) : Prop :=
  (1 ≤ d.nodes.length ∧ d.nodes.length ≤ 40) ∧ (2 ≤ d.next ∧ d.next ≤ 999999) ∧ (∀ i (h : i < d.nodes.length), StepOK d.next d.nodes i h) ∧ SetOK d.root d.nodes (kidsAll d.nodes) ∧
    ((ndAt d.nodes d.root).isSome ∧ (kidsAll d.nodes).length + 1 = d.nodes.length ∧ depthF d.nodes 7 d.root ≤ 6) ∧ (orderF d.nodes 6 d.root).length = d.nodes.length
noncomputable def dokB (d : Dc) : Bool := @decide (DOK d) (Classical.propDecidable _)
theorem dokB_iff {d : Dc} : dokB d = true ↔ DOK d := by unfold dokB; exact @decide_eq_true_iff _ (Classical.propDecidable _)
theorem dokB_yes {d : Dc} (h : DOK d) : dokB d = true := dokB_iff.2 h
theorem dokB_no {d : Dc} (h : ¬ DOK d) : dokB d = false := by
  cases e : dokB d with
  | false => rfl
  | true => exact absurd (dokB_iff.1 e) h
def Dc64 (d : Dc) : Prop := I64 d.root ∧ ∀ n ∈ d.nodes, ∀ k ∈ n.kids, I64 k
theorem prev_lt {l : List Nd} {t j : Nat} (hj : j + 1 = t) (ht : t < l.length) (h1 : t - 1 < l.length) (h : ¬ l[t - 1].id ≥ l[t].id) : l[j].id < l[t].id := by
  subst hj
  simpa using Int.not_le.1 h
theorem rise_of {next : Int} {l : List Nd} (hn : next ≤ 999999) (h : ∀ i (h : i < l.length), StepOK next l i h) : Rise l := by
  refine ⟨fun n hm => ?_, List.pairwise_iff_getElem.2 fun i j hi hj hij => ?_⟩
  · obtain ⟨i, hi, rfl⟩ := List.mem_iff_getElem.1 hm
    have := (h i hi).1.1; omega
  · induction j with
    | zero => omega
    | succ j ih =>
      have h1 := (h (j + 1) hj).2 j rfl
      by_cases q : i = j
      · subst q; exact h1
      · exact Int.lt_trans (ih (by omega) (by omega)) h1
def kidsTo (l : List Nd) (j : Nat) : List Int := (l.take j).flatMap (·.kids)
theorem kidsTo_all (l : List Nd) : kidsTo l l.length = kidsAll l := by unfold kidsTo kidsAll; rw [List.take_length]
theorem kidsTo_step {l : List Nd} {j : Nat} (h : j < l.length) : kidsTo l (j + 1) = kidsTo l j ++ l[j].kids := by
  unfold kidsTo
  rw [List.take_succ_eq_append_getElem h, List.flatMap_append]; simp
theorem kids_split {l : List Nd} {j i : Nat} (h : j < l.length) (hi : i < l[j].kids.length) : ∃ rest, kidsAll l = (kidsTo l j ++ l[j].kids.take i) ++ l[j].kids[i] :: rest := by
  refine ⟨l[j].kids.drop (i + 1) ++ (l.drop (j + 1)).flatMap (·.kids), ?_⟩
  have e1 : kidsAll l = kidsTo l (j + 1) ++ (l.drop (j + 1)).flatMap (·.kids) := by
    unfold kidsTo kidsAll
    rw [← List.flatMap_append, List.take_append_drop]
  rw [e1, kidsTo_step h, List.append_assoc, List.append_assoc, ← List.cons_append, ← List.drop_eq_getElem_cons hi, ← List.append_assoc (List.take i _), List.take_append_drop]
theorem set_bad {root : Int} {l : List Nd} {acc rest : List Int} {k : Int} (h : SetOK root l (acc ++ k :: rest)) : k ∉ acc ∧ k ≠ root ∧ (ndAt l k).isSome := by
  refine ⟨fun hk => ?_, h.2 k (by simp)⟩
  have := (List.nodup_append.1 h.1).2.2 k hk k (by simp)
  exact this rfl
theorem set_step {root : Int} {l : List Nd} {acc : List Int} {k : Int} (h : SetOK root l acc) (h1 : k ∉ acc) (h2 : k ≠ root) (h3 : (ndAt l k).isSome) : SetOK root l (acc ++ [k]) := by
  refine ⟨List.nodup_append.2 ⟨h.1, by simp, fun a ha b hb => ?_⟩, fun x hx => ?_⟩
  · obtain rfl : b = k := by simpa using hb
    exact fun e => h1 (e ▸ ha)
  · rcases List.mem_append.1 hx with hx | hx
    · exact h.2 x hx
    · obtain rfl : x = k := by simpa using hx
      exact ⟨h2, h3⟩
def setM (acc : List Int) : List (Int × Value) := acc.map fun k => (k, .bool true)
theorem setM_get (acc : List Int) (k : Int) : (mget (setM acc) k).getD (.bool false) = .bool (decide (k ∈ acc)) := by
  induction acc with
  | nil => rfl
  | cons a acc ih =>
    simp only [setM, List.map_cons, mget]
    by_cases h : a = k
    · simp [h]
    · rw [if_neg h]
      have h' : ¬ k = a := fun e => h e.symm
      simpa [setM, h'] using ih
theorem setM_put {acc : List Int} {k : Int} (h : k ∉ acc) : mput (setM acc) k (.bool true) = setM (acc ++ [k]) := by
  induction acc with
  | nil => rfl
  | cons a acc ih =>
    simp only [List.mem_cons, not_or] at h
    have h' : ¬ a = k := fun e => h.1 e.symm
    simp only [setM, List.map_cons, mput, if_neg h', List.cons_append]
    rw [show acc.map (fun k => (k, Value.bool true)) = setM acc from rfl, ih h.2]; rfl
theorem depthF_fits {l : List Nd} (hk : Kids l) : ∀ (k : Nat) (id : Int), (ndAt l id).isSome → depthF l (k + 1) id ≤ k → Fits l k id
  | 0, id, h, hd => by simp [depthF] at hd
  | k + 1, id, h, hd => by
    obtain ⟨n, hn⟩ := Option.isSome_iff_exists.1 h
    refine ⟨n, hn, fun c hc => depthF_fits hk k c (Option.isSome_iff_exists.2 (hk n (ndAt_mem hn).1 c hc)) ?_⟩
    have he : depthF l (k + 1 + 1) id = n.kids.foldl (fun m c => max m (depthF l (k + 1) c)) 0 + 1 := by simp only [depthF, kidsAt, hn, Option.map_some, Option.getD_some]
    have key : ∀ (ks : List Int) (m : Nat), c ∈ ks ∨ depthF l (k + 1) c ≤ m → depthF l (k + 1) c ≤ ks.foldl (fun m c => max m (depthF l (k + 1) c)) m := by
      intro ks
      induction ks with
      | nil => intro m h; rcases h with h | h
               · cases h
               · exact h
      | cons a ks ih =>
        intro m h
        refine ih _ ?_
        rcases h with h | h
        · rcases List.mem_cons.1 h with rfl | h
          · exact .inr (Nat.le_max_right _ _)
          · exact .inl h
        · exact .inr (Nat.le_trans h (Nat.le_max_left _ _))
    have := key n.kids 0 (.inl hc)
    omega
theorem flat_len {f : Int → List Int} {b : Nat} : ∀ (ks : List Int), (∀ k ∈ ks, (f k).length ≤ b) → (ks.flatMap f).length ≤ ks.length * b
  | [], _ => by simp
  | k :: ks, h => by
    have h1 := h k (by simp)
    have h2 := flat_len ks fun c hc => h c (by simp [hc])
    rw [List.flatMap_cons, List.length_append, List.length_cons, Nat.succ_mul]
    omega
theorem orderF_len {l : List Nd} (hk : ∀ n ∈ l, n.kids.length ≤ 12) : ∀ (k : Nat) (id : Int), (orderF l k id).length ≤ 13 ^ k
  | 0, _ => by simp [orderF]
  | k + 1, id => by
    have h0 : (kidsAt l id).length ≤ 12 := by
      unfold kidsAt
      cases hn : ndAt l id with
      | none => simp
      | some n => exact hk n (ndAt_mem hn).1
    have h1 := flat_len (f := orderF l k) (b := 13 ^ k) (kidsAt l id) fun c _ => orderF_len hk k c
    have h2 : (kidsAt l id).length * 13 ^ k ≤ 12 * 13 ^ k := Nat.mul_le_mul_right _ h0
    have h3 : 1 ≤ 13 ^ k := Nat.one_le_pow _ _ (by omega)
    simp only [orderF, List.length_cons]
    rw [Nat.pow_succ]
    omega
theorem DOK.rise {d : Dc} (h : DOK d) : Rise d.nodes := rise_of h.2.1.2 h.2.2.1
theorem DOK.kids {d : Dc} (h : DOK d) : Kids d.nodes := fun n hn c hc => Option.isSome_iff_exists.1 (h.2.2.2.1.2 c (List.mem_flatMap.2 ⟨n, hn, hc⟩)).2
end Go.Proofs.YtecnmodeggnjoaaGreat.Ac
