/- Several of our texts, one behind the other, without what this claim does not need: Ts, Wg. -/
import Derived.Test.YtecnmodeggnjoaaGreatZe2002630
import Derived.Test.YtecnmodeggnjoaaGreatZ1669dd86
import Derived.Test.YtecnmodeggnjoaaGreatZaa953d4f
set_option linter.unusedVariables false
set_option linter.unusedSimpArgs false
namespace Go.Proofs.YtecnmodeggnjoaaGreat.Ac
theorem len_le : ∀ {l1 l2 : List Int}, l1.Nodup → (∀ x ∈ l1, x ∈ l2) → l1.length ≤ l2.length
  | [], _, _, _ => Nat.zero_le _
  | a :: l1, l2, hn, hs => by
    have ha : a ∈ l2 := hs a (by simp)
    rw [List.nodup_cons] at hn
    have h1 := len_le (l1 := l1) (l2 := l2.erase a) hn.2 (fun x hx => (List.mem_erase_of_ne (fun (e : x = a) => hn.1 (by rw [← e]; exact hx))).2 (hs x (by simp [hx])))
    rw [List.length_erase_of_mem ha] at h1
    have : 0 < l2.length := List.length_pos_of_mem ha
    rw [List.length_cons]; omega
theorem sub_eq {l1 l2 : List Int} (hn : l1.Nodup) (hs : ∀ x ∈ l1, x ∈ l2) (hl : l2.length ≤ l1.length) : ∀ x ∈ l2, x ∈ l1 := by
  intro a ha
  by_cases h : a ∈ l1
  · exact h
  · have h1 := len_le (l1 := l1) (l2 := l2.erase a) hn (fun x hx => (List.mem_erase_of_ne (fun (e : x = a) => h (by rw [← e]; exact hx))).2 (hs x hx))
    rw [List.length_erase_of_mem ha] at h1
    have : 0 < l2.length := List.length_pos_of_mem ha
    omega
theorem nodup_flat {f : Int → List Int} : ∀ {L : List Int}, L.Nodup → (∀ k ∈ L, (f k).Nodup) → (∀ a ∈ L, ∀ b ∈ L, a ≠ b → ∀ x ∈ f a, x ∉ f b) → (L.flatMap f).Nodup
  | [], _, _, _ => List.nodup_nil
  | a :: L, hn, h1, h2 => by
    rw [List.nodup_cons] at hn
    rw [List.flatMap_cons, List.nodup_append]
    refine ⟨h1 a (by simp), nodup_flat hn.2 (fun k hk => h1 k (by simp [hk])) (fun x hx y hy => h2 x (by simp [hx]) y (by simp [hy])), fun x hx y hy e => ?_⟩
    subst e
    obtain ⟨k, hk, hx2⟩ := List.mem_flatMap.1 hy
    exact h2 a (by simp) k (by simp [hk]) (fun e => hn.1 (e ▸ hk)) x hx hx2
def upP (l : List Nd) : Nat → Int → Int
  | 0, x => x
  | s + 1, x => upP l s (parP l x)
theorem up_add (l : List Nd) : ∀ (a b : Nat) (x : Int), upP l (a + b) x = upP l b (upP l a x)
  | 0, b, x => by rw [Nat.zero_add]; rfl
  | a + 1, b, x => by rw [Nat.succ_add]; exact up_add l a b (parP l x)
theorem up_succ (l : List Nd) (s : Nat) (x : Int) : upP l (s + 1) x = parP l (upP l s x) := by rw [up_add]; rfl
structure Tree (root : Int) (l : List Nd) : Prop where
  rise : Rise l
  set : SetOK root l (kidsAll l)
  top : (ndAt l root).isSome
variable {root : Int} {l : List Nd}
theorem Tree.kin (hT : Tree root l) : Kids l := fun n hn c hc => Option.isSome_iff_exists.1 (hT.set.2 c (List.mem_flatMap.2 ⟨n, hn, hc⟩)).2
theorem has_pos (hT : Tree root l) {x : Int} (h : (ndAt l x).isSome) : 1 ≤ x := by
  obtain ⟨n, hn⟩ := Option.isSome_iff_exists.1 h
  obtain ⟨h1, rfl⟩ := ndAt_mem hn
  exact (hT.rise.1 n h1).1
theorem kidsAt_some {id : Int} {n : Nd} (hn : ndAt l id = some n) : kidsAt l id = n.kids := by simp only [kidsAt, hn, Option.map_some, Option.getD_some]
theorem one_parent (hT : Tree root l) {a b : Nat} (ha : a < l.length) (hb : b < l.length) {k : Int} (h1 : k ∈ l[a].kids) (h2 : k ∈ l[b].kids) : a = b := by
  have key : ∀ {a b : Nat} (ha : a < l.length) (hb : b < l.length), k ∈ l[a].kids → k ∈ l[b].kids → ¬ a < b := by
    intro a b ha hb h1 h2 hab
    have e1 : kidsAll l = kidsTo l (a + 1) ++ (l.drop (a + 1)).flatMap (·.kids) := by
      unfold kidsTo kidsAll
      rw [← List.flatMap_append, List.take_append_drop]
    have hn := hT.set.1
    rw [e1] at hn
    refine (List.nodup_append.1 hn).2.2 k ?_ k ?_ rfl
    · rw [kidsTo_step ha]; exact List.mem_append_right _ h1
    · refine List.mem_flatMap.2 ⟨l[b], ?_, h2⟩
      rw [List.mem_drop_iff_getElem]
      exact ⟨b - (a + 1), by omega, by congr 1; omega⟩
  have := key ha hb h1 h2
  have := key hb ha h2 h1
  omega
theorem par_of_mem (hT : Tree root l) {n : Nd} (hn : n ∈ l) {k : Int} (hk : k ∈ n.kids) : parP l k = n.id := by
  obtain ⟨t, ht, rfl⟩ := List.mem_iff_getElem.1 hn
  unfold parP
  cases e : l.find? (fun x => decide (k ∈ x.kids)) with
  | none =>
    have := List.find?_eq_none.1 e l[t] (List.getElem_mem ht)
    exact absurd hk (by simpa using this)
  | some y =>
    have hy := List.find?_some e
    obtain ⟨b, hb, rfl⟩ := List.getElem_of_mem (List.mem_of_find?_eq_some e)
    obtain rfl := one_parent hT ht hb hk (by simpa using hy)
    rfl
theorem par_none {x : Int} (h : ∀ n ∈ l, x ∉ n.kids) : parP l x = 0 := by
  unfold parP
  rw [List.find?_eq_none.2 (fun y hy => by simpa using h y hy)]
  rfl
theorem par_root (hT : Tree root l) : parP l root = 0 := par_none (fun n hn h => (hT.set.2 root (List.mem_flatMap.2 ⟨n, hn, h⟩)).1 rfl)
theorem par_zero (hT : Tree root l) : parP l 0 = 0 := par_none (fun n hn h => by have := has_pos hT (hT.set.2 0 (List.mem_flatMap.2 ⟨n, hn, h⟩)).2; omega)
theorem par_kid (hT : Tree root l) {z id : Int} (h : parP l z = id) (h1 : 1 ≤ id) : z ∈ kidsAt l id ∧ (ndAt l id).isSome := by
  unfold parP at h
  cases e : l.find? (fun x => decide (z ∈ x.kids)) with
  | none => rw [e] at h; simp at h; omega
  | some y =>
    rw [e] at h
    have hy := List.find?_some e
    obtain ⟨b, hb, rfl⟩ := List.getElem_of_mem (List.mem_of_find?_eq_some e)
    have h2 : l[b].id = id := by simpa using h
    have h3 := hT.rise.at hb
    rw [h2] at h3
    exact ⟨by rw [kidsAt_some h3]; simpa using hy, by rw [h3]; rfl⟩
theorem kid_par (hT : Tree root l) {k id : Int} (hh : (ndAt l id).isSome) (hk : k ∈ kidsAt l id) : parP l k = id ∧ (ndAt l k).isSome := by
  obtain ⟨n, hn⟩ := Option.isSome_iff_exists.1 hh
  rw [kidsAt_some hn] at hk
  obtain ⟨h1, rfl⟩ := ndAt_mem hn
  exact ⟨par_of_mem hT h1 hk, (hT.set.2 k (List.mem_flatMap.2 ⟨n, h1, hk⟩)).2⟩
theorem kids_nodup (hT : Tree root l) (id : Int) : (kidsAt l id).Nodup := by
  cases hn : ndAt l id with
  | none => simp [kidsAt, hn]
  | some n =>
    rw [kidsAt_some hn]
    obtain ⟨t, ht, rfl⟩ := List.mem_iff_getElem.1 (ndAt_mem hn).1
    have e1 : kidsAll l = kidsTo l (t + 1) ++ (l.drop (t + 1)).flatMap (·.kids) := by
      unfold kidsTo kidsAll
      rw [← List.flatMap_append, List.take_append_drop]
    have hn := hT.set.1
    rw [e1, kidsTo_step ht] at hn
    exact (List.nodup_append.1 (List.nodup_append.1 hn).1).2.1
theorem up_zero (hT : Tree root l) : ∀ s, upP l s 0 = 0
  | 0 => rfl
  | s + 1 => by show upP l s (parP l 0) = 0; rw [par_zero hT]; exact up_zero hT s
theorem no_cycle (hT : Tree root l) {id : Int} (h : ∃ t, upP l t id = root) (d : Nat) : upP l (d + 1) id ≠ id := by
  intro e
  obtain ⟨t, ht⟩ := h
  have h1 : upP l (t + (d + 1)) id = 0 := by
    rw [up_add, ht]
    show upP l d (parP l root) = 0
    rw [par_root hT]; exact up_zero hT d
  rw [Nat.add_comm, up_add, e, ht] at h1
  have := has_pos hT hT.top
  omega
theorem ord_up (hT : Tree root l) : ∀ (m : Nat) (id x : Int), (ndAt l id).isSome → x ∈ orderF l m id → ∃ s, upP l s x = id ∧ (ndAt l x).isSome
  | 0, id, x, _, h => by simp [orderF] at h
  | m + 1, id, x, hh, h => by
    rw [orderF, List.mem_cons] at h
    rcases h with rfl | h
    · exact ⟨0, rfl, hh⟩
    · obtain ⟨k, hk, hx⟩ := List.mem_flatMap.1 h
      obtain ⟨h1, h2⟩ := kid_par hT hh hk
      obtain ⟨s, hu, hp⟩ := ord_up hT m k x h2 hx
      exact ⟨s + 1, by rw [up_succ, hu, h1], hp⟩
theorem ord_nodup (hT : Tree root l) : ∀ (m : Nat) (id : Int), (ndAt l id).isSome → (∃ t, upP l t id = root) → (orderF l m id).Nodup
  | 0, _, _, _ => List.nodup_nil
  | m + 1, id, hh, hr => by
    have hkr : ∀ k ∈ kidsAt l id, ∃ t, upP l t k = root := fun k hk => by
      obtain ⟨t, ht⟩ := hr
      exact ⟨t + 1, by show upP l t (parP l k) = root; rw [(kid_par hT hh hk).1]; exact ht⟩
    rw [orderF, List.nodup_cons]
    refine ⟨fun h => ?_, nodup_flat (kids_nodup hT id) (fun k hk => ord_nodup hT m k (kid_par hT hh hk).2 (hkr k hk)) (fun a ha b hb hab x hxa hxb => ?_)⟩
    · obtain ⟨k, hk, hx⟩ := List.mem_flatMap.1 h
      obtain ⟨s, hu, _⟩ := ord_up hT m k id (kid_par hT hh hk).2 hx
      exact no_cycle hT hr s (by rw [up_succ, hu, (kid_par hT hh hk).1])
    · obtain ⟨s1, hu1, _⟩ := ord_up hT m a x (kid_par hT hh ha).2 hxa
      obtain ⟨s2, hu2, _⟩ := ord_up hT m b x (kid_par hT hh hb).2 hxb
      have key : ∀ {a b : Int} {s1 s2 : Nat}, a ∈ kidsAt l id → b ∈ kidsAt l id → a ≠ b → upP l s1 x = a → upP l s2 x = b → ¬ s1 ≤ s2 := by
        intro a b s1 s2 ha hb hab hu1 hu2 hle
        obtain ⟨d, rfl⟩ : ∃ d, s2 = s1 + d := ⟨s2 - s1, by omega⟩
        rw [up_add, hu1] at hu2
        cases d with
        | zero => exact hab hu2
        | succ d =>
          have h1 : upP l d id = b := by rw [← (kid_par hT hh ha).1]; exact hu2
          exact no_cycle hT hr d (by rw [up_succ, h1, (kid_par hT hh hb).1])
      have := key ha hb hab hu1 hu2
      have := key hb ha (fun e => hab e.symm) hu2 hu1
      omega
theorem up_ord (hT : Tree root l) : ∀ (s m : Nat) (id x : Int), Fits l m id → upP l s x = id → x ∈ orderF l m id
  | s, 0, id, x, hf, _ => hf.elim
  | 0, m + 1, id, x, _, h => by rw [orderF]; rw [show x = id from h]; simp
  | s + 1, m + 1, id, x, hf, h => by
    rw [up_succ] at h
    obtain ⟨n, hn, hfk⟩ := hf
    obtain ⟨hz, _⟩ := par_kid hT h (has_pos hT (by rw [hn]; rfl))
    rw [orderF, List.mem_cons]
    exact .inr (List.mem_flatMap.2 ⟨_, hz, up_ord hT s m _ x (hfk _ (by rw [kidsAt_some hn] at hz; exact hz)) rfl⟩)
theorem rch_up : ∀ (f : Nat) (x : Int), rch l root f x = true → ∃ s, s ≤ f ∧ upP l s x = root
  | 0, x, h => ⟨0, Nat.le_refl _, by simpa [rch, upP] using h⟩
  | f + 1, x, h => by
    by_cases e : x = root
    · exact ⟨0, Nat.zero_le _, e⟩
    · have h2 : rch l root f (parP l x) = true := by
        simp [rch, e] at h
        exact h.2
      obtain ⟨s, hs, hu⟩ := rch_up f (parP l x) h2
      exact ⟨s + 1, by omega, hu⟩
theorem par_nonneg (hT : Tree root l) (x : Int) : 0 ≤ parP l x := by
  unfold parP
  cases e : l.find? (fun y => decide (x ∈ y.kids)) with
  | none => simp
  | some y =>
    have := (hT.rise.1 y (List.mem_of_find?_eq_some e)).1
    simp; omega
theorem up_rch (hT : Tree root l) : ∀ (f : Nat) (x : Int) (s : Nat), 1 ≤ x → s ≤ f → upP l s x = root → rch l root f x = true
  | 0, x, s, _, hs, hu => by
    obtain rfl : s = 0 := by omega
    simp [rch, show x = root from hu]
  | f + 1, x, s, hx, hs, hu => by
    by_cases e : x = root
    · simp [rch, e]
    · cases s with
      | zero => exact absurd hu e
      | succ s =>
        have hu2 : upP l s (parP l x) = root := hu
        have hp : 1 ≤ parP l x := by
          have := par_nonneg hT x
          by_cases h0 : parP l x = 0
          · rw [h0, up_zero hT] at hu2
            have := has_pos hT hT.top
            omega
          · omega
        simp [rch, e, show x > 0 by omega, up_rch hT f (parP l x) s hp (by omega) hu2]
theorem ids_nodup (hs : Rise l) : (l.map (·.id)).Nodup := by
  rw [List.nodup_iff_pairwise_ne, List.pairwise_map]
  exact hs.2.imp fun h => by omega
theorem ord_short (hT : Tree root l) : ∀ (m : Nat) (id x : Int), (ndAt l id).isSome → x ∈ orderF l m id → ∃ s, s < (orderF l m id).length ∧ upP l s x = id
  | 0, id, x, _, h => by simp [orderF] at h
  | m + 1, id, x, hh, h => by
    rw [orderF, List.mem_cons] at h
    rcases h with rfl | h
    · exact ⟨0, by rw [orderF]; simp, rfl⟩
    · obtain ⟨k, hk, hx⟩ := List.mem_flatMap.1 h
      obtain ⟨h1, h2⟩ := kid_par hT hh hk
      obtain ⟨s, hs, hu⟩ := ord_short hT m k x h2 hx
      refine ⟨s + 1, ?_, by rw [up_succ, hu, h1]⟩
      rw [orderF, List.length_cons]
      have : (orderF l m k).length ≤ ((kidsAt l id).flatMap (orderF l m)).length := by
        obtain ⟨a, b, hab⟩ := List.append_of_mem hk
        rw [hab, List.flatMap_append, List.flatMap_cons]
        simp only [List.length_append]; omega
      omega
theorem reach_iff (hT : Tree root l) (hf : Fits l 6 root) : (l.all (fun x => rch l root (l.length + 1) x.id) = true) ↔ (orderF l 6 root).length = l.length := by
  have hnd := ord_nodup hT 6 root hT.top ⟨0, rfl⟩
  have hsub : ∀ x ∈ orderF l 6 root, x ∈ l.map (·.id) := fun x hx => by
    obtain ⟨_, _, hp⟩ := ord_up hT 6 root x hT.top hx
    obtain ⟨n, hn⟩ := Option.isSome_iff_exists.1 hp
    obtain ⟨h1, rfl⟩ := ndAt_mem hn
    exact List.mem_map.2 ⟨_, h1, rfl⟩
  have hle := len_le hnd hsub
  rw [List.length_map] at hle
  constructor
  · intro h
    have h2 : (l.map (·.id)).length ≤ (orderF l 6 root).length := len_le (ids_nodup hT.rise) (fun x hx => by
      obtain ⟨n, hn, rfl⟩ := List.mem_map.1 hx
      obtain ⟨s, _, hu⟩ := rch_up _ _ (List.all_eq_true.1 h n hn)
      exact up_ord hT s 6 root _ hf hu)
    rw [List.length_map] at h2
    omega
  · intro h
    refine List.all_eq_true.2 fun n hn => ?_
    have hin := sub_eq hnd hsub (by rw [List.length_map]; omega) n.id (List.mem_map.2 ⟨n, hn, rfl⟩)
    obtain ⟨s, hu, hp⟩ := ord_up hT 6 root n.id hT.top hin
    obtain ⟨s, hs, hu⟩ := ord_short hT 6 root n.id hT.top hin
    exact up_rch hT _ _ s (has_pos hT hp) (by omega) hu
theorem DOK.tree {d : Dc} (h : DOK d) : Tree d.root d.nodes := ⟨h.rise, h.2.2.2.1, h.2.2.2.2.1.1⟩
theorem DOK.fits {d : Dc} (h : DOK d) : Fits d.nodes 6 d.root := depthF_fits h.kids 6 d.root h.2.2.2.2.1.1 h.2.2.2.2.1.2.2
open Go.RowKit
set_option maxRecDepth 20000
set_option maxHeartbeats 2000000
theorem l02OK_ok (d : Dc) (h64 : Dc64 d) : FC Tryz.prog 134 [(true, dcL d)] [] [(false, [.f (bL (dokB d))])] := by
  by_cases c1 : 1 ≤ (d.nodes.length : Int) ∧ (d.nodes.length : Int) ≤ 40
  rotate_left
  · rw [dokB_no fun h => c1 (by have := h.1; omega)]
    refine en Tryz.func134 Tryz.ntmps134 trivial ?_
    refine nw ?_
    refine ⟨([], _), in_f (by simpa using c1), ?_⟩
    refine nw ?_
    refine ⟨[], [], ?_⟩
    exact tel
  by_cases c2 : 2 ≤ d.next ∧ d.next ≤ 999999
  rotate_left
  · rw [dokB_no fun h => c2 h.2.1]
    refine en Tryz.func134 Tryz.ntmps134 trivial ?_
    refine nw ?_
    refine ⟨([], _), in_t (by simpa using c1), ?_⟩
    refine nw ?_
    refine ⟨([], _), in_f c2, ?_⟩
    refine nw ?_
    refine ⟨[], [], ?_⟩
    exact tel
  have hn := l02Nodes_ok d h64 (by omega) c2
  by_cases c3 : NODES d
  rotate_left
  · rw [nodesB_no c3] at hn
    rw [dokB_no fun h => c3 ⟨h.2.2.1, h.2.2.2.1, h.2.2.2.2.1.2.1, h.2.2.2.2.1.1⟩]
    refine en Tryz.func134 Tryz.ntmps134 trivial ?_
    refine nw ?_
    refine ⟨([], _), in_t (by simpa using c1), ?_⟩
    refine nw ?_
    refine ⟨([], _), in_t c2, ?_⟩
    refine nw ?_
    refine ⟨([], _), hn, ?_⟩
    refine nw ?_
    refine ⟨[], [], ?_⟩
    exact tel
  rw [nodesB_yes c3] at hn
  obtain ⟨n1, n2, n3, n4⟩ := c3
  have hks : ∀ n ∈ d.nodes, n.kids.length < 2 ^ 61 := fun n hn => by
    obtain ⟨t, ht, rfl⟩ := List.mem_iff_getElem.1 hn
    have := (n1 t ht).1.2.2.2.2; omega
  have hT : Tree d.root d.nodes := ⟨rise_of c2.2 n1, n2, n4⟩
  have hr := l02Reach_ok d (by omega) (fun n hn => by have := hks n hn; omega)
  obtain ⟨n0, hn0⟩ := Option.isSome_iff_exists.1 n4
  have hd := l02Deep_ok d hT.kin (by omega) hks 6 (Nat.le_refl _) d.root n0 hn0
  cases c4 : (d.nodes.all fun x => rch d.nodes d.root (d.nodes.length + 1) x.id) with
  | false =>
    rw [c4] at hr
    have hno : ¬ DOK d := fun h => by
      have := (reach_iff hT h.fits).2 h.2.2.2.2.2
      rw [c4] at this; cases this
    rw [dokB_no hno]
    refine en Tryz.func134 Tryz.ntmps134 trivial ?_
    refine nw ?_
    refine ⟨([], _), in_t (by simpa using c1), ?_⟩
    refine nw ?_
    refine ⟨([], _), in_t c2, ?_⟩
    refine nw ?_
    refine ⟨([], _), hn, ?_⟩
    refine nw ?_
    refine ⟨([], _), hr, ?_⟩
    refine nw ?_
    refine ⟨[], [], ?_⟩
    exact tel
  | true =>
    rw [c4] at hr
    refine en Tryz.func134 Tryz.ntmps134 trivial ?_
    refine nw ?_
    refine ⟨([], _), in_t (by simpa using c1), ?_⟩
    refine nw ?_
    refine ⟨([], _), in_t c2, ?_⟩
    refine nw ?_
    refine ⟨([], _), hn, ?_⟩
    refine nw ?_
    refine ⟨([], _), hr, ?_⟩
    refine nw ?_
    refine ⟨([], _), hd, ?_⟩
    refine nw ?_
    refine ⟨fun k => ?_, fun k => ?_⟩
    · refine nw ?_
      refine ⟨[], [], ?_⟩
      refine tel1 ?_
      have k' : depthF d.nodes 7 d.root ≤ 6 := by
        have : ((depthF d.nodes (6 + 1) d.root : Nat) : Int) ≤ 6 := k
        show depthF d.nodes (6 + 1) d.root ≤ 6
        omega
      exact (dokB_yes ⟨by omega, c2, n1, n2, ⟨n4, n3, k'⟩, (reach_iff hT (depthF_fits hT.kin 6 d.root n4 k')).1 c4⟩).symm
    · refine nw ?_
      refine ⟨[], [], ?_⟩
      refine tel1 ?_
      refine (dokB_no fun h => k ?_).symm
      have := h.2.2.2.2.1.2.2
      show ((depthF d.nodes (6 + 1) d.root : Nat) : Int) ≤ 6
      have e : depthF d.nodes (6 + 1) d.root ≤ 6 := this
      omega
end Go.Proofs.YtecnmodeggnjoaaGreat.Ac
set_option linter.unusedVariables false
set_option linter.unusedSimpArgs false
set_option maxRecDepth 20000
set_option maxHeartbeats 2000000
namespace Go.Proofs.YtecnmodeggnjoaaGreat.Ac
open Go.RowKit
def ixFrom (v : Int) : Nat → List Int → Int
  | _, [] => -1
  | i, x :: l => if v = x then i else ixFrom v (i + 1) l
theorem ixFrom_mem (v : Int) : ∀ (l : List Int) (i : Nat), 0 ≤ ixFrom v i l ↔ v ∈ l
  | [], i => by simp [ixFrom]
  | x :: l, i => by
    simp only [ixFrom, List.mem_cons]
    by_cases h : v = x
    · simp [h]
    · simp [h, ixFrom_mem v l (i + 1)]
theorem index_ok (l : List Int) (v : Int) (hlen : l.length < 2 ^ 62) : FC Tryz.prog 262 [(false, [ints l]), (false, [iL v])] [] [(false, [.f (iL (ixFrom v 0 l))])] := by
  refine en Tryz.func262 Tryz.ntmps262 trivial ?_
  refine nw ?_
  refine ⟨fun (m : Nat) (es : Es) (hs : Hs) => ∃ i : Nat, m + i = l.length ∧ ixFrom v i (l.drop i) = ixFrom v 0 l ∧ es = [(8, .val false [.f (iL i)]), (7, .val false [.f (iL l.length)]), (1, .val false [.f (iL v)]), (0, .val false [.f (ints l)])] ∧ hs = [],
    ⟨l.length, [], [], _, _, ⟨?_, ?_, ?_⟩, 0, rfl, rfl, rfl, rfl⟩, ?_⟩
  · rfl
  · refine tel1 ?_
    simp
  · exact tel
  rintro m es hs ⟨i, hm, hp, rfl, rfl⟩
  refine nw ?_
  refine ⟨fun h => ?_, fun h => ?_⟩
  · have hi : i < l.length := by omega
    rw [List.drop_eq_getElem_cons hi] at hp
    refine nw ?_
    refine ⟨(i, intE l[i]), ⟨rfl, by simp [hi]⟩, ?_⟩
    refine nw ?_
    refine ⟨fun k => ?_, fun k => ?_⟩
    · refine nw ?_
      refine ⟨[], [], ?_⟩
      refine tel1 ?_
      rw [← hp, ixFrom, if_pos k]
    · refine nw ?_
      refine ⟨m - 1, [], [], [(8, .val false [.f (iL (i + 1 : Nat))]), (7, .val false [.f (iL l.length)]), (1, .val false [.f (iL v)]), (0, .val false [.f (ints l)])], [], by omega, ⟨?_, ?_, ?_⟩, i + 1, by omega, ?_, rfl, rfl⟩
      · rfl
      · refine tel1 ?_
        exact wrap_suc (by omega)
      · exact tel
      · rw [← hp, ixFrom, if_neg k]
  · have hi : l.length ≤ i := by omega
    refine nw ?_
    refine ⟨[], [], ?_⟩
    refine tel1 ?_
    rw [← hp, List.drop_eq_nil_of_le hi]; rfl
theorem contains_ok (l : List Int) (v : Int) (hlen : l.length < 2 ^ 62) : FC Tryz.prog 181 [(false, [ints l]), (false, [iL v])] [] [(false, [.f (bL (decide (v ∈ l)))])] := by
  refine en Tryz.func181 Tryz.ntmps181 trivial ?_
  refine nw ?_
  refine ⟨([], _), index_ok l v hlen, ?_⟩
  refine nw ?_
  refine ⟨fun k => ?_, fun k => ?_⟩
  · refine nw ?_
    refine ⟨[], [], ?_⟩
    refine tel1 ?_
    exact b_true ((ixFrom_mem v l 0).1 k)
  · refine nw ?_
    refine ⟨[], [], ?_⟩
    refine tel1 ?_
    exact b_false fun e => k ((ixFrom_mem v l 0).2 e)
theorem parent_ok (d : Dc) (id : Int) (hlen : d.nodes.length < 2 ^ 62) (hks : ∀ n ∈ d.nodes, n.kids.length < 2 ^ 62) : FC Tryz.prog 278 [(false, [.pv (dcL d)]), (false, [iL id])] [] [(false, [.f (iL (parP d.nodes id))])] := by
  refine en Tryz.func278 Tryz.ntmps278 trivial ?_
  refine nw ?_
  refine ⟨fun (m : Nat) (es : Es) (hs : Hs) => ∃ i : Nat, m + i = d.nodes.length ∧ parP (d.nodes.drop i) id = parP d.nodes id ∧ es = [(12, .val false [.f (iL i)]), (11, .val false [.f (iL d.nodes.length)]), (10, .val false [.f (nds d.nodes)]), (1, .val false [.f (iL id)])] ∧ hs = [],
    ⟨d.nodes.length, [], [], _, _, ⟨?_, ?_, ?_⟩, 0, rfl, rfl, rfl, rfl⟩, ?_⟩
  · rfl
  · refine tel1 ?_
    simp
  · exact tel
  rintro m es hs ⟨i, hm, hp, rfl, rfl⟩
  refine nw ?_
  refine ⟨fun h => ?_, fun h => ?_⟩
  · have hi : i < d.nodes.length := by omega
    have hh := contains_ok d.nodes[i].kids id (hks _ (List.getElem_mem _))
    rw [List.drop_eq_getElem_cons hi] at hp
    refine nw ?_
    refine ⟨(i, ndL d.nodes[i]), ⟨rfl, by simp [hi]⟩, ?_⟩
    refine nw ?_
    by_cases k : id ∈ d.nodes[i].kids
    · rw [decide_eq_true k] at hh
      refine ⟨([], _), hh, ?_⟩
      refine nw ?_
      refine ⟨[], [], ?_⟩
      refine tel1 ?_
      rw [← hp, parP_cons, if_pos k]
    · rw [decide_eq_false k] at hh
      refine ⟨([], _), hh, ?_⟩
      refine nw ?_
      refine ⟨m - 1, [], [], [(12, .val false [.f (iL (i + 1 : Nat))]), (11, .val false [.f (iL d.nodes.length)]), (10, .val false [.f (nds d.nodes)]), (1, .val false [.f (iL id)])], [], by omega, ⟨?_, ?_, ?_⟩, i + 1, by omega, ?_, rfl, rfl⟩
      · rfl
      · refine tel1 ?_
        exact wrap_suc (by omega)
      · exact tel
      · rw [← hp, parP_cons, if_neg k]
  · have hi : d.nodes.length ≤ i := by omega
    refine nw ?_
    refine ⟨[], [], ?_⟩
    refine tel1 ?_
    rw [← hp, List.drop_eq_nil_of_le hi]; rfl
def Rev (l : List Int) (i : Nat) (c : List Int) : Prop := c.length = l.length ∧ ∀ k, k < l.length → c[k]? = if k < i ∨ l.length < k + i + 1 then l[l.length - 1 - k]? else l[k]?
theorem Rev.step {l c : List Int} {i : Nat} (h : Rev l i c) (hi : 2 * i + 1 < l.length) {x y : Int} (hx : c[i]? = some x) (hy : c[l.length - 1 - i]? = some y) : Rev l (i + 1) ((c.set i y).set (l.length - 1 - i) x) := by
  obtain ⟨h1, h2⟩ := h
  refine ⟨by simp [h1], fun k hk => ?_⟩
  have ex : l[i]? = some x := by rw [← hx, h2 i (by omega), if_neg (by omega)]
  have ey : l[l.length - 1 - i]? = some y := by rw [← hy, h2 _ (by omega), if_neg (by omega)]
  by_cases k1 : l.length - 1 - i = k
  · subst k1
    rw [List.getElem?_set_self (by simp; omega), if_pos (by omega), show l.length - 1 - (l.length - 1 - i) = i by omega, ex]
  · rw [List.getElem?_set_ne k1]
    by_cases k2 : i = k
    · subst k2
      rw [List.getElem?_set_self (by omega), if_pos (by omega), ey]
    · rw [List.getElem?_set_ne k2, h2 k hk]
      by_cases k3 : k < i ∨ l.length < k + i + 1
      · rw [if_pos k3, if_pos (by omega)]
      · rw [if_neg k3, if_neg (by omega)]
theorem Rev.done {l c : List Int} {i : Nat} (h : Rev l i c) (hi : l.length ≤ 2 * i + 1) : c = l.reverse := by
  apply List.ext_getElem?
  intro k
  by_cases hk : k < l.length
  · rw [h.2 k hk, List.getElem?_reverse hk]
    by_cases k1 : k < i ∨ l.length < k + i + 1
    · rw [if_pos k1]
    · rw [if_neg k1, show l.length - 1 - k = k by omega]
  · rw [List.getElem?_eq_none (by rw [h.1]; omega), List.getElem?_eq_none (by simp; omega)]
end Go.Proofs.YtecnmodeggnjoaaGreat.Ac
