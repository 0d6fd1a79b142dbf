/- Several of our texts, one behind the other, without what this claim does not need: Ts, Wo, Si. -/
import Derived.Test.YtchfpgpboifbeaaGreatZ53d86429
import Derived.Test.YtchfpgpboifbeaaGreatZ3d61ff6b
set_option linter.unusedVariables false
set_option linter.unusedSimpArgs false
namespace Go.Proofs.YtchfpgpboifbeaaGreat.Ac
theorem len_le : ∀ {l1 l2 : List Int}, l1.Nodup → (∀ x ∈ l1, x ∈ l2) → l1.length ≤ l2.length
  | [], _, _, _ => Nat.zero_le _
  | a :: l1, l2, hn, hs => by
    have ha : a ∈ l2 := hs a (by simp)
    rw [List.nodup_cons] at hn
    have h1 := len_le (l1 := l1) (l2 := l2.erase a) hn.2 (fun x hx => (List.mem_erase_of_ne (fun (e : x = a) => hn.1 (by rw [← e]; exact hx))).2 (hs x (by simp [hx])))
    rw [List.length_erase_of_mem ha] at h1
    have : 0 < l2.length := List.length_pos_of_mem ha
    rw [List.length_cons]; omega
theorem sub_eq {l1 l2 : List Int} (hn : l1.Nodup) (hs : ∀ x ∈ l1, x ∈ l2) (hl : l2.length ≤ l1.length) : ∀ x ∈ l2, x ∈ l1 := by
  intro a ha
  by_cases h : a ∈ l1
  · exact h
  · have h1 := len_le (l1 := l1) (l2 := l2.erase a) hn (fun x hx => (List.mem_erase_of_ne (fun (e : x = a) => h (by rw [← e]; exact hx))).2 (hs x hx))
    rw [List.length_erase_of_mem ha] at h1
    have : 0 < l2.length := List.length_pos_of_mem ha
    omega
theorem nodup_flat {f : Int → List Int} : ∀ {L : List Int}, L.Nodup → (∀ k ∈ L, (f k).Nodup) → (∀ a ∈ L, ∀ b ∈ L, a ≠ b → ∀ x ∈ f a, x ∉ f b) → (L.flatMap f).Nodup
  | [], _, _, _ => List.nodup_nil
  | a :: L, hn, h1, h2 => by
    rw [List.nodup_cons] at hn
    rw [List.flatMap_cons, List.nodup_append]
    refine ⟨h1 a (by simp), nodup_flat hn.2 (fun k hk => h1 k (by simp [hk])) (fun x hx y hy => h2 x (by simp [hx]) y (by simp [hy])), fun x hx y hy e => ?_⟩
    subst e
    obtain ⟨k, hk, hx2⟩ := List.mem_flatMap.1 hy
    exact h2 a (by simp) k (by simp [hk]) (fun e => hn.1 (e ▸ hk)) x hx hx2
def upP (l : List Nd) : Nat → Int → Int
  | 0, x => x
  | s + 1, x => upP l s (parP l x)
theorem up_add (l : List Nd) : ∀ (a b : Nat) (x : Int), upP l (a + b) x = upP l b (upP l a x)
  | 0, b, x => by rw [Nat.zero_add]; rfl
  | a + 1, b, x => by rw [Nat.succ_add]; exact up_add l a b (parP l x)
theorem up_succ (l : List Nd) (s : Nat) (x : Int) : upP l (s + 1) x = parP l (upP l s x) := by rw [up_add]; rfl
structure Tree (root : Int) (l : List Nd) : Prop where
  rise : Rise l
  set : SetOK root l (kidsAll l)
  top : (ndAt l root).isSome
variable {root : Int} {l : List Nd}
theorem Tree.kin (hT : Tree root l) : Kids l := fun n hn c hc => Option.isSome_iff_exists.1 (hT.set.2 c (List.mem_flatMap.2 ⟨n, hn, hc⟩)).2
theorem has_pos (hT : Tree root l) {x : Int} (h : (ndAt l x).isSome) : 1 ≤ x := by
  obtain ⟨n, hn⟩ := Option.isSome_iff_exists.1 h
  obtain ⟨h1, rfl⟩ := ndAt_mem hn
  exact (hT.rise.1 n h1).1
theorem kidsAt_some {id : Int} {n : Nd} (hn : ndAt l id = some n) : kidsAt l id = n.kids := by simp only [kidsAt, hn, Option.map_some, Option.getD_some]
theorem one_parent (hT : Tree root l) {a b : Nat} (ha : a < l.length) (hb : b < l.length) {k : Int} (h1 : k ∈ l[a].kids) (h2 : k ∈ l[b].kids) : a = b := by
  have key : ∀ {a b : Nat} (ha : a < l.length) (hb : b < l.length), k ∈ l[a].kids → k ∈ l[b].kids → ¬ a < b := by
    intro a b ha hb h1 h2 hab
    have e1 : kidsAll l = kidsTo l (a + 1) ++ (l.drop (a + 1)).flatMap (·.kids) := by
      unfold kidsTo kidsAll
      rw [← List.flatMap_append, List.take_append_drop]
    have hn := hT.set.1
    rw [e1] at hn
    refine (List.nodup_append.1 hn).2.2 k ?_ k ?_ rfl
    · rw [kidsTo_step ha]; exact List.mem_append_right _ h1
    · refine List.mem_flatMap.2 ⟨l[b], ?_, h2⟩
      rw [List.mem_drop_iff_getElem]
      exact ⟨b - (a + 1), by omega, by congr 1; omega⟩
  have := key ha hb h1 h2
  have := key hb ha h2 h1
  omega
theorem par_of_mem (hT : Tree root l) {n : Nd} (hn : n ∈ l) {k : Int} (hk : k ∈ n.kids) : parP l k = n.id := by
  obtain ⟨t, ht, rfl⟩ := List.mem_iff_getElem.1 hn
  unfold parP
  cases e : l.find? (fun x => decide (k ∈ x.kids)) with
  | none =>
    have := List.find?_eq_none.1 e l[t] (List.getElem_mem ht)
    exact absurd hk (by simpa using this)
  | some y =>
    have hy := List.find?_some e
    obtain ⟨b, hb, rfl⟩ := List.getElem_of_mem (List.mem_of_find?_eq_some e)
    obtain rfl := one_parent hT ht hb hk (by simpa using hy)
    rfl
theorem par_none {x : Int} (h : ∀ n ∈ l, x ∉ n.kids) : parP l x = 0 := by
  unfold parP
  rw [List.find?_eq_none.2 (fun y hy => by simpa using h y hy)]
  rfl
theorem par_root (hT : Tree root l) : parP l root = 0 := par_none (fun n hn h => (hT.set.2 root (List.mem_flatMap.2 ⟨n, hn, h⟩)).1 rfl)
theorem par_zero (hT : Tree root l) : parP l 0 = 0 := par_none (fun n hn h => by have := has_pos hT (hT.set.2 0 (List.mem_flatMap.2 ⟨n, hn, h⟩)).2; omega)
theorem par_kid (hT : Tree root l) {z id : Int} (h : parP l z = id) (h1 : 1 ≤ id) : z ∈ kidsAt l id ∧ (ndAt l id).isSome := by
  unfold parP at h
  cases e : l.find? (fun x => decide (z ∈ x.kids)) with
  | none => rw [e] at h; simp at h; omega
  | some y =>
    rw [e] at h
    have hy := List.find?_some e
    obtain ⟨b, hb, rfl⟩ := List.getElem_of_mem (List.mem_of_find?_eq_some e)
    have h2 : l[b].id = id := by simpa using h
    have h3 := hT.rise.at hb
    rw [h2] at h3
    exact ⟨by rw [kidsAt_some h3]; simpa using hy, by rw [h3]; rfl⟩
theorem kid_par (hT : Tree root l) {k id : Int} (hh : (ndAt l id).isSome) (hk : k ∈ kidsAt l id) : parP l k = id ∧ (ndAt l k).isSome := by
  obtain ⟨n, hn⟩ := Option.isSome_iff_exists.1 hh
  rw [kidsAt_some hn] at hk
  obtain ⟨h1, rfl⟩ := ndAt_mem hn
  exact ⟨par_of_mem hT h1 hk, (hT.set.2 k (List.mem_flatMap.2 ⟨n, h1, hk⟩)).2⟩
theorem kids_nodup (hT : Tree root l) (id : Int) : (kidsAt l id).Nodup := by
  cases hn : ndAt l id with
  | none => simp [kidsAt, hn]
  | some n =>
    rw [kidsAt_some hn]
    obtain ⟨t, ht, rfl⟩ := List.mem_iff_getElem.1 (ndAt_mem hn).1
    have e1 : kidsAll l = kidsTo l (t + 1) ++ (l.drop (t + 1)).flatMap (·.kids) := by
      unfold kidsTo kidsAll
      rw [← List.flatMap_append, List.take_append_drop]
    have hn := hT.set.1
    rw [e1, kidsTo_step ht] at hn
    exact (List.nodup_append.1 (List.nodup_append.1 hn).1).2.1
theorem up_zero (hT : Tree root l) : ∀ s, upP l s 0 = 0
  | 0 => rfl
  | s + 1 => by show upP l s (parP l 0) = 0; rw [par_zero hT]; exact up_zero hT s
theorem no_cycle (hT : Tree root l) {id : Int} (h : ∃ t, upP l t id = root) (d : Nat) : upP l (d + 1) id ≠ id := by
  intro e
  obtain ⟨t, ht⟩ := h
  have h1 : upP l (t + (d + 1)) id = 0 := by
    rw [up_add, ht]
    show upP l d (parP l root) = 0
    rw [par_root hT]; exact up_zero hT d
  rw [Nat.add_comm, up_add, e, ht] at h1
  have := has_pos hT hT.top
  omega
theorem ord_up (hT : Tree root l) : ∀ (m : Nat) (id x : Int), (ndAt l id).isSome → x ∈ orderF l m id → ∃ s, upP l s x = id ∧ (ndAt l x).isSome
  | 0, id, x, _, h => by simp [orderF] at h
  | m + 1, id, x, hh, h => by
    rw [orderF, List.mem_cons] at h
    rcases h with rfl | h
    · exact ⟨0, rfl, hh⟩
    · obtain ⟨k, hk, hx⟩ := List.mem_flatMap.1 h
      obtain ⟨h1, h2⟩ := kid_par hT hh hk
      obtain ⟨s, hu, hp⟩ := ord_up hT m k x h2 hx
      exact ⟨s + 1, by rw [up_succ, hu, h1], hp⟩
theorem ord_nodup (hT : Tree root l) : ∀ (m : Nat) (id : Int), (ndAt l id).isSome → (∃ t, upP l t id = root) → (orderF l m id).Nodup
  | 0, _, _, _ => List.nodup_nil
  | m + 1, id, hh, hr => by
    have hkr : ∀ k ∈ kidsAt l id, ∃ t, upP l t k = root := fun k hk => by
      obtain ⟨t, ht⟩ := hr
      exact ⟨t + 1, by show upP l t (parP l k) = root; rw [(kid_par hT hh hk).1]; exact ht⟩
    rw [orderF, List.nodup_cons]
    refine ⟨fun h => ?_, nodup_flat (kids_nodup hT id) (fun k hk => ord_nodup hT m k (kid_par hT hh hk).2 (hkr k hk)) (fun a ha b hb hab x hxa hxb => ?_)⟩
    · obtain ⟨k, hk, hx⟩ := List.mem_flatMap.1 h
      obtain ⟨s, hu, _⟩ := ord_up hT m k id (kid_par hT hh hk).2 hx
      exact no_cycle hT hr s (by rw [up_succ, hu, (kid_par hT hh hk).1])
    · obtain ⟨s1, hu1, _⟩ := ord_up hT m a x (kid_par hT hh ha).2 hxa
      obtain ⟨s2, hu2, _⟩ := ord_up hT m b x (kid_par hT hh hb).2 hxb
      have key : ∀ {a b : Int} {s1 s2 : Nat}, a ∈ kidsAt l id → b ∈ kidsAt l id → a ≠ b → upP l s1 x = a → upP l s2 x = b → ¬ s1 ≤ s2 := by
        intro a b s1 s2 ha hb hab hu1 hu2 hle
        obtain ⟨d, rfl⟩ : ∃ d, s2 = s1 + d := ⟨s2 - s1, by omega⟩
        rw [up_add, hu1] at hu2
        cases d with
        | zero => exact hab hu2
        | succ d =>
          have h1 : upP l d id = b := by rw [← (kid_par hT hh ha).1]; exact hu2
          exact no_cycle hT hr d (by rw [up_succ, h1, (kid_par hT hh hb).1])
      have := key ha hb hab hu1 hu2
      have := key hb ha (fun e => hab e.symm) hu2 hu1
      omega
theorem up_ord (hT : Tree root l) : ∀ (s m : Nat) (id x : Int), Fits l m id → upP l s x = id → x ∈ orderF l m id
  | s, 0, id, x, hf, _ => hf.elim
  | 0, m + 1, id, x, _, h => by rw [orderF]; rw [show x = id from h]; simp
  | s + 1, m + 1, id, x, hf, h => by
    rw [up_succ] at h
    obtain ⟨n, hn, hfk⟩ := hf
    obtain ⟨hz, _⟩ := par_kid hT h (has_pos hT (by rw [hn]; rfl))
    rw [orderF, List.mem_cons]
    exact .inr (List.mem_flatMap.2 ⟨_, hz, up_ord hT s m _ x (hfk _ (by rw [kidsAt_some hn] at hz; exact hz)) rfl⟩)
theorem rch_up : ∀ (f : Nat) (x : Int), rch l root f x = true → ∃ s, s ≤ f ∧ upP l s x = root
  | 0, x, h => ⟨0, Nat.le_refl _, by simpa [rch, upP] using h⟩
  | f + 1, x, h => by
    by_cases e : x = root
    · exact ⟨0, Nat.zero_le _, e⟩
    · have h2 : rch l root f (parP l x) = true := by
        simp [rch, e] at h
        exact h.2
      obtain ⟨s, hs, hu⟩ := rch_up f (parP l x) h2
      exact ⟨s + 1, by omega, hu⟩
theorem par_nonneg (hT : Tree root l) (x : Int) : 0 ≤ parP l x := by
  unfold parP
  cases e : l.find? (fun y => decide (x ∈ y.kids)) with
  | none => simp
  | some y =>
    have := (hT.rise.1 y (List.mem_of_find?_eq_some e)).1
    simp; omega
theorem up_rch (hT : Tree root l) : ∀ (f : Nat) (x : Int) (s : Nat), 1 ≤ x → s ≤ f → upP l s x = root → rch l root f x = true
  | 0, x, s, _, hs, hu => by
    obtain rfl : s = 0 := by omega
    simp [rch, show x = root from hu]
  | f + 1, x, s, hx, hs, hu => by
    by_cases e : x = root
    · simp [rch, e]
    · cases s with
      | zero => exact absurd hu e
      | succ s =>
        have hu2 : upP l s (parP l x) = root := hu
        have hp : 1 ≤ parP l x := by
          have := par_nonneg hT x
          by_cases h0 : parP l x = 0
          · rw [h0, up_zero hT] at hu2
            have := has_pos hT hT.top
            omega
          · omega
        simp [rch, e, show x > 0 by omega, up_rch hT f (parP l x) s hp (by omega) hu2]
theorem ids_nodup (hs : Rise l) : (l.map (·.id)).Nodup := by
  rw [List.nodup_iff_pairwise_ne, List.pairwise_map]
  exact hs.2.imp fun h => by omega
theorem ord_short (hT : Tree root l) : ∀ (m : Nat) (id x : Int), (ndAt l id).isSome → x ∈ orderF l m id → ∃ s, s < (orderF l m id).length ∧ upP l s x = id
  | 0, id, x, _, h => by simp [orderF] at h
  | m + 1, id, x, hh, h => by
    rw [orderF, List.mem_cons] at h
    rcases h with rfl | h
    · exact ⟨0, by rw [orderF]; simp, rfl⟩
    · obtain ⟨k, hk, hx⟩ := List.mem_flatMap.1 h
      obtain ⟨h1, h2⟩ := kid_par hT hh hk
      obtain ⟨s, hs, hu⟩ := ord_short hT m k x h2 hx
      refine ⟨s + 1, ?_, by rw [up_succ, hu, h1]⟩
      rw [orderF, List.length_cons]
      have : (orderF l m k).length ≤ ((kidsAt l id).flatMap (orderF l m)).length := by
        obtain ⟨a, b, hab⟩ := List.append_of_mem hk
        rw [hab, List.flatMap_append, List.flatMap_cons]
        simp only [List.length_append]; omega
      omega
theorem reach_iff (hT : Tree root l) (hf : Fits l 6 root) : (l.all (fun x => rch l root (l.length + 1) x.id) = true) ↔ (orderF l 6 root).length = l.length := by
  have hnd := ord_nodup hT 6 root hT.top ⟨0, rfl⟩
  have hsub : ∀ x ∈ orderF l 6 root, x ∈ l.map (·.id) := fun x hx => by
    obtain ⟨_, _, hp⟩ := ord_up hT 6 root x hT.top hx
    obtain ⟨n, hn⟩ := Option.isSome_iff_exists.1 hp
    obtain ⟨h1, rfl⟩ := ndAt_mem hn
    exact List.mem_map.2 ⟨_, h1, rfl⟩
  have hle := len_le hnd hsub
  rw [List.length_map] at hle
  constructor
  · intro h
    have h2 : (l.map (·.id)).length ≤ (orderF l 6 root).length := len_le (ids_nodup hT.rise) (fun x hx => by
      obtain ⟨n, hn, rfl⟩ := List.mem_map.1 hx
      obtain ⟨s, _, hu⟩ := rch_up _ _ (List.all_eq_true.1 h n hn)
      exact up_ord hT s 6 root _ hf hu)
    rw [List.length_map] at h2
    omega
  · intro h
    refine List.all_eq_true.2 fun n hn => ?_
    have hin := sub_eq hnd hsub (by rw [List.length_map]; omega) n.id (List.mem_map.2 ⟨n, hn, rfl⟩)
    obtain ⟨s, hu, hp⟩ := ord_up hT 6 root n.id hT.top hin
    obtain ⟨s, hs, hu⟩ := ord_short hT 6 root n.id hT.top hin
    exact up_rch hT _ _ s (has_pos hT hp) (by omega) hu
theorem DOK.tree {d : Dc} (h : DOK d) : Tree d.root d.nodes := ⟨h.rise, h.2.2.2.1, h.2.2.2.2.1.1⟩
theorem DOK.fits {d : Dc} (h : DOK d) : Fits d.nodes 6 d.root := depthF_fits h.kids 6 d.root h.2.2.2.2.1.1 h.2.2.2.2.1.2.2
open Go.RowKit
set_option maxRecDepth 20000
set_option maxHeartbeats 2000000
theorem l02OK_ok (d : Dc) (h64 : Dc64 d) : FC Tryz.prog 67 [(true, dcL d)] [] [(false, [.f (bL (dokB d))])] := by
  by_cases c1 : 1 ≤ (d.nodes.length : Int) ∧ (d.nodes.length : Int) ≤ 40
  rotate_left
  · rw [dokB_no fun h => c1 (by have := h.1; omega)]
    refine gcalls_of tbl_ok mixed Tryz.func67 rfl Tryz.ntmps67 (by kernel_rfl) (Nat.le_of_ble_eq_true rfl) rfl rfl trivial ?_
    (conv => whnf)
    refine ⟨([], _), in_f (by simpa using c1), ?_⟩
    (conv => whnf)
    refine ⟨[], [], ?_⟩
    (repeat' first | exact trivial | exact rfl | exact tl_pv rfl rfl rfl (List.cons_ne_nil _ _) | exact ⟨_, rfl, frzC_map _⟩ | exact tl_ints rfl rfl rfl (by simp) | exact tl_txts rfl rfl rfl (by simp) | exact tl_nds rfl rfl rfl (by simp) | ((conv => whnf); first | exact trivial | exact rfl | exact .inr rfl | exact .inl ⟨rfl, rfl⟩ | apply And.intro) | refine tl_int ?_ | refine tl_bool ?_ | refine tl_str ?_ | refine tl_row rfl ?_ | exact cl_ints _ | exact cl_txts _ | exact cl_nds _ | exact cl_mp _ | exact Nat.succ_pos _ | exact pl_ints _ | exact pl_txts _ | exact pl_nds _ | with_reducible refine tl_f ?_)
  by_cases c2 : 2 ≤ d.next ∧ d.next ≤ 999999
  rotate_left
  · rw [dokB_no fun h => c2 h.2.1]
    refine gcalls_of tbl_ok mixed Tryz.func67 rfl Tryz.ntmps67 (by kernel_rfl) (Nat.le_of_ble_eq_true rfl) rfl rfl trivial ?_
    (conv => whnf)
    refine ⟨([], _), in_t (by simpa using c1), ?_⟩
    (conv => whnf)
    refine ⟨([], _), in_f c2, ?_⟩
    (conv => whnf)
    refine ⟨[], [], ?_⟩
    (repeat' first | exact trivial | exact rfl | exact tl_pv rfl rfl rfl (List.cons_ne_nil _ _) | exact ⟨_, rfl, frzC_map _⟩ | exact tl_ints rfl rfl rfl (by simp) | exact tl_txts rfl rfl rfl (by simp) | exact tl_nds rfl rfl rfl (by simp) | ((conv => whnf); first | exact trivial | exact rfl | exact .inr rfl | exact .inl ⟨rfl, rfl⟩ | apply And.intro) | refine tl_int ?_ | refine tl_bool ?_ | refine tl_str ?_ | refine tl_row rfl ?_ | exact cl_ints _ | exact cl_txts _ | exact cl_nds _ | exact cl_mp _ | exact Nat.succ_pos _ | exact pl_ints _ | exact pl_txts _ | exact pl_nds _ | with_reducible refine tl_f ?_)
  have hn := l02Nodes_ok d h64 (by omega) c2
  by_cases c3 : NODES d
  rotate_left
  · rw [nodesB_no c3] at hn
    rw [dokB_no fun h => c3 ⟨h.2.2.1, h.2.2.2.1, h.2.2.2.2.1.2.1, h.2.2.2.2.1.1⟩]
    refine gcalls_of tbl_ok mixed Tryz.func67 rfl Tryz.ntmps67 (by kernel_rfl) (Nat.le_of_ble_eq_true rfl) rfl rfl trivial ?_
    (conv => whnf)
    refine ⟨([], _), in_t (by simpa using c1), ?_⟩
    (conv => whnf)
    refine ⟨([], _), in_t c2, ?_⟩
    (conv => whnf)
    refine ⟨([], _), hn, ?_⟩
    (conv => whnf)
    refine ⟨[], [], ?_⟩
    (repeat' first | exact trivial | exact rfl | exact tl_pv rfl rfl rfl (List.cons_ne_nil _ _) | exact ⟨_, rfl, frzC_map _⟩ | exact tl_ints rfl rfl rfl (by simp) | exact tl_txts rfl rfl rfl (by simp) | exact tl_nds rfl rfl rfl (by simp) | ((conv => whnf); first | exact trivial | exact rfl | exact .inr rfl | exact .inl ⟨rfl, rfl⟩ | apply And.intro) | refine tl_int ?_ | refine tl_bool ?_ | refine tl_str ?_ | refine tl_row rfl ?_ | exact cl_ints _ | exact cl_txts _ | exact cl_nds _ | exact cl_mp _ | exact Nat.succ_pos _ | exact pl_ints _ | exact pl_txts _ | exact pl_nds _ | with_reducible refine tl_f ?_)
  rw [nodesB_yes c3] at hn
  obtain ⟨n1, n2, n3, n4⟩ := c3
  have hks : ∀ n ∈ d.nodes, n.kids.length < 2 ^ 61 := fun n hn => by
    obtain ⟨t, ht, rfl⟩ := List.mem_iff_getElem.1 hn
    have := (n1 t ht).1.2.2.2.2; omega
  have hT : Tree d.root d.nodes := ⟨rise_of c2.2 n1, n2, n4⟩
  have hr := l02Reach_ok d (by omega) (fun n hn => by have := hks n hn; omega)
  obtain ⟨n0, hn0⟩ := Option.isSome_iff_exists.1 n4
  have hd := l02Deep_ok d hT.kin (by omega) hks 6 (Nat.le_refl _) d.root n0 hn0
  cases c4 : (d.nodes.all fun x => rch d.nodes d.root (d.nodes.length + 1) x.id) with
  | false =>
    rw [c4] at hr
    have hno : ¬ DOK d := fun h => by
      have := (reach_iff hT h.fits).2 h.2.2.2.2.2
      rw [c4] at this; cases this
    rw [dokB_no hno]
    refine gcalls_of tbl_ok mixed Tryz.func67 rfl Tryz.ntmps67 (by kernel_rfl) (Nat.le_of_ble_eq_true rfl) rfl rfl trivial ?_
    (conv => whnf)
    refine ⟨([], _), in_t (by simpa using c1), ?_⟩
    (conv => whnf)
    refine ⟨([], _), in_t c2, ?_⟩
    (conv => whnf)
    refine ⟨([], _), hn, ?_⟩
    (conv => whnf)
    refine ⟨([], _), hr, ?_⟩
    (conv => whnf)
    refine ⟨[], [], ?_⟩
    (repeat' first | exact trivial | exact rfl | exact tl_pv rfl rfl rfl (List.cons_ne_nil _ _) | exact ⟨_, rfl, frzC_map _⟩ | exact tl_ints rfl rfl rfl (by simp) | exact tl_txts rfl rfl rfl (by simp) | exact tl_nds rfl rfl rfl (by simp) | ((conv => whnf); first | exact trivial | exact rfl | exact .inr rfl | exact .inl ⟨rfl, rfl⟩ | apply And.intro) | refine tl_int ?_ | refine tl_bool ?_ | refine tl_str ?_ | refine tl_row rfl ?_ | exact cl_ints _ | exact cl_txts _ | exact cl_nds _ | exact cl_mp _ | exact Nat.succ_pos _ | exact pl_ints _ | exact pl_txts _ | exact pl_nds _ | with_reducible refine tl_f ?_)
  | true =>
    rw [c4] at hr
    refine gcalls_of tbl_ok mixed Tryz.func67 rfl Tryz.ntmps67 (by kernel_rfl) (Nat.le_of_ble_eq_true rfl) rfl rfl trivial ?_
    (conv => whnf)
    refine ⟨([], _), in_t (by simpa using c1), ?_⟩
    (conv => whnf)
    refine ⟨([], _), in_t c2, ?_⟩
    (conv => whnf)
    refine ⟨([], _), hn, ?_⟩
    (conv => whnf)
    refine ⟨([], _), hr, ?_⟩
    (conv => whnf)
    refine ⟨([], _), hd, ?_⟩
    (conv => whnf)
    refine ⟨fun k => ?_, fun k => ?_⟩
    · (conv => whnf)
      refine ⟨[], [], ?_⟩
      (repeat' first | exact trivial | exact rfl | exact tl_pv rfl rfl rfl (List.cons_ne_nil _ _) | exact ⟨_, rfl, frzC_map _⟩ | exact tl_ints rfl rfl rfl (by simp) | exact tl_txts rfl rfl rfl (by simp) | exact tl_nds rfl rfl rfl (by simp) | ((conv => whnf); first | exact trivial | exact rfl | exact .inr rfl | exact .inl ⟨rfl, rfl⟩ | apply And.intro) | refine tl_int ?_ | refine tl_bool ?_ | refine tl_str ?_ | refine tl_row rfl ?_ | exact cl_ints _ | exact cl_txts _ | exact cl_nds _ | exact cl_mp _ | exact Nat.succ_pos _ | exact pl_ints _ | exact pl_txts _ | exact pl_nds _ | with_reducible refine tl_f ?_)
      have k' : depthF d.nodes 7 d.root ≤ 6 := by
        have : ((depthF d.nodes (6 + 1) d.root : Nat) : Int) ≤ 6 := k
        show depthF d.nodes (6 + 1) d.root ≤ 6
        omega
      exact (dokB_yes ⟨by omega, c2, n1, n2, ⟨n4, n3, k'⟩, (reach_iff hT (depthF_fits hT.kin 6 d.root n4 k')).1 c4⟩).symm
    · (conv => whnf)
      refine ⟨[], [], ?_⟩
      (repeat' first | exact trivial | exact rfl | exact tl_pv rfl rfl rfl (List.cons_ne_nil _ _) | exact ⟨_, rfl, frzC_map _⟩ | exact tl_ints rfl rfl rfl (by simp) | exact tl_txts rfl rfl rfl (by simp) | exact tl_nds rfl rfl rfl (by simp) | ((conv => whnf); first | exact trivial | exact rfl | exact .inr rfl | exact .inl ⟨rfl, rfl⟩ | apply And.intro) | refine tl_int ?_ | refine tl_bool ?_ | refine tl_str ?_ | refine tl_row rfl ?_ | exact cl_ints _ | exact cl_txts _ | exact cl_nds _ | exact cl_mp _ | exact Nat.succ_pos _ | exact pl_ints _ | exact pl_txts _ | exact pl_nds _ | with_reducible refine tl_f ?_)
      refine (dokB_no fun h => k ?_).symm
      have := h.2.2.2.2.1.2.2
      show ((depthF d.nodes (6 + 1) d.root : Nat) : Int) ≤ 6
      have e : depthF d.nodes (6 + 1) d.root ≤ 6 := this
      omega
end Go.Proofs.YtchfpgpboifbeaaGreat.Ac
set_option linter.unusedVariables false
set_option linter.unusedSimpArgs false
set_option maxRecDepth 20000
set_option maxHeartbeats 2000000
namespace Go.Proofs.YtchfpgpboifbeaaGreat.Ac
open Go.RowKit
theorem cp_ints (l : List Int) : cpE (((l.map intW).take l.length).drop 0) = l.map intW := by
  rw [List.take_of_length_le (by simp), List.drop_zero]
  unfold cpE
  rw [List.map_map]
  rfl
theorem l02Order_ok (d : Dc) (hlen : d.nodes.length < 2 ^ 62) (hks : ∀ n ∈ d.nodes, n.kids.length < 2 ^ 62) : ∀ (k : Nat) (id : Int), Fits d.nodes k id → (orderF d.nodes k id).length < 2 ^ 30 →
    FC Tryz.prog 150 [(true, dcL d), (false, [iL id])] [(1000, some ⟨0, 1, (orderF d.nodes k id).map intW⟩)] [(false, [.row 1000 0 (orderF d.nodes k id).length])]
  | 0, id, hf, _ => hf.elim
  | k + 1, id, hf, hb => by
    obtain ⟨n, hn, hfk⟩ := hf
    have ih := l02Order_ok d hlen hks k
    have hat := l02At_ok d id hlen
    obtain ⟨x, hx, ex, exn⟩ := at_some hn
    rw [ex] at hat
    have ho : orderF d.nodes (k + 1) id = id :: n.kids.flatMap (orderF d.nodes k) := by simp only [orderF, kidsAt, hn, Option.map_some, Option.getD_some]
    rw [ho] at hb ⊢
    have hnk := hks n (ndAt_mem hn).1
    refine gcalls_of tbl_ok mixed Tryz.func150 rfl Tryz.ntmps150 (by kernel_rfl) (Nat.le_of_ble_eq_true rfl) rfl rfl (⟨cl_ints _, trivial⟩) ?_
    (conv => whnf)
    refine ⟨by kernel_rfl, ?_⟩
    (conv => whnf)
    refine ⟨([], _), hat, ?_⟩
    (conv => whnf)
    refine ⟨(x, ndL n), ⟨rfl, by simp [hx, exn]⟩, ?_⟩
    (conv => whnf)
    refine ⟨by kernel_rfl, ?_⟩
    (conv => whnf)
    refine ⟨fun (m : Nat) (es : Es) (hs : Hs) => ∃ i : Nat, m + i = n.kids.length ∧ es = [(7, .val false [.f (iL i)]), (6, .val false [.f (ints n.kids)]), (5, .val false [.row 3 0 (id :: (n.kids.take i).flatMap (orderF d.nodes k)).length]), (2, .val false [.pt 48 0 0])] ∧ hs = [(3, some ⟨0, 1, (id :: (n.kids.take i).flatMap (orderF d.nodes k)).map intW⟩), (48, some ⟨3, 3, [(dcL d).map .f]⟩)],
      ⟨n.kids.length, [], [(3, 160)], _, _, ⟨?_, ?_, ?_⟩, 0, rfl, rfl, rfl⟩, ?_⟩
    · rfl
    · (repeat' first | exact trivial | exact rfl | exact tl_pv rfl rfl rfl (List.cons_ne_nil _ _) | exact ⟨_, rfl, frzC_map _⟩ | exact tl_ints rfl rfl rfl (by simp) | exact tl_txts rfl rfl rfl (by simp) | exact tl_nds rfl rfl rfl (by simp) | ((conv => whnf); first | exact trivial | exact rfl | exact .inr rfl | exact .inl ⟨rfl, rfl⟩ | apply And.intro) | refine tl_int ?_ | refine tl_bool ?_ | refine tl_str ?_ | refine tl_row rfl ?_ | exact cl_ints _ | exact cl_txts _ | exact cl_nds _ | exact cl_mp _ | exact Nat.succ_pos _ | exact pl_ints _ | exact pl_txts _ | exact pl_nds _ | with_reducible refine tl_f ?_)
    · (repeat' first | exact trivial | exact rfl | exact tl_pv rfl rfl rfl (List.cons_ne_nil _ _) | exact ⟨_, rfl, frzC_map _⟩ | exact tl_ints rfl rfl rfl (by simp) | exact tl_txts rfl rfl rfl (by simp) | exact tl_nds rfl rfl rfl (by simp) | ((conv => whnf); first | exact trivial | exact rfl | exact .inr rfl | exact .inl ⟨rfl, rfl⟩ | apply And.intro) | refine tl_int ?_ | refine tl_bool ?_ | refine tl_str ?_ | refine tl_row rfl ?_ | exact cl_ints _ | exact cl_txts _ | exact cl_nds _ | exact cl_mp _ | exact Nat.succ_pos _ | exact pl_ints _ | exact pl_txts _ | exact pl_nds _ | with_reducible refine tl_f ?_)
    rintro m es hs ⟨i, hm, rfl, rfl⟩
    (conv => whnf)
    refine ⟨fun h => ?_, fun h => ?_⟩
    · have hi : i < n.kids.length := by simpa using h
      have hsp : n.kids.flatMap (orderF d.nodes k) = (n.kids.take i).flatMap (orderF d.nodes k) ++ (orderF d.nodes k n.kids[i] ++ (n.kids.drop (i + 1)).flatMap (orderF d.nodes k)) := by
        conv => lhs; rw [← List.take_append_drop i n.kids, List.drop_eq_getElem_cons hi]
        rw [List.flatMap_append, List.flatMap_cons]
      have hst : id :: (n.kids.take (i + 1)).flatMap (orderF d.nodes k) = (id :: (n.kids.take i).flatMap (orderF d.nodes k)) ++ orderF d.nodes k n.kids[i] := by
        rw [List.take_succ_eq_append_getElem hi, List.flatMap_append]; simp
      rw [hsp] at hb
      simp only [List.length_append, List.length_cons] at hb
      have hc := ih n.kids[i] (hfk _ (List.getElem_mem _)) (by omega)
      (conv => whnf)
      refine ⟨by kernel_rfl, ?_⟩
      (conv => whnf)
      refine ⟨(i, intE n.kids[i]), ⟨rfl, by simp [hi]⟩, ?_⟩
      (conv => whnf)
      refine ⟨(_, _), hc, ?_⟩
      (conv => whnf)
      refine ⟨(orderF d.nodes k n.kids[i]).map intW, cp_ints _, ?_⟩
      (conv => whnf)
      refine ⟨((id :: (n.kids.take i).flatMap (orderF d.nodes k)) ++ orderF d.nodes k n.kids[i]).map intW, ⟨app_row intW _ _, by simp only [List.length_map, List.length_append, List.length_cons]; omega⟩, ?_⟩
      (conv => whnf)
      refine ⟨by kernel_rfl, ?_⟩
      (conv => whnf)
      refine ⟨m - 1, [], [(3, 512)], [(7, .val false [.f (iL (i + 1 : Nat))]), (6, .val false [.f (ints n.kids)]), (5, .val false [.row 3 0 (id :: (n.kids.take (i + 1)).flatMap (orderF d.nodes k)).length]), (2, .val false [.pt 48 0 0])], [(3, some ⟨0, 1, (id :: (n.kids.take (i + 1)).flatMap (orderF d.nodes k)).map intW⟩), (48, some ⟨3, 3, [(dcL d).map .f]⟩)], by omega, ⟨?_, ?_, ?_⟩, i + 1, by omega, rfl, rfl⟩
      · rfl
      · (repeat' first | exact trivial | exact rfl | exact tl_pv rfl rfl rfl (List.cons_ne_nil _ _) | exact ⟨_, rfl, frzC_map _⟩ | exact tl_ints rfl rfl rfl (by simp) | exact tl_txts rfl rfl rfl (by simp) | exact tl_nds rfl rfl rfl (by simp) | ((conv => whnf); first | exact trivial | exact rfl | exact .inr rfl | exact .inl ⟨rfl, rfl⟩ | apply And.intro) | refine tl_int ?_ | refine tl_bool ?_ | refine tl_str ?_ | refine tl_row rfl ?_ | exact cl_ints _ | exact cl_txts _ | exact cl_nds _ | exact cl_mp _ | exact Nat.succ_pos _ | exact pl_ints _ | exact pl_txts _ | exact pl_nds _ | with_reducible refine tl_f ?_)
        · exact wrap_suc (by omega)
        · rw [hst]; simp
      · (repeat' first | exact trivial | exact rfl | exact tl_pv rfl rfl rfl (List.cons_ne_nil _ _) | exact ⟨_, rfl, frzC_map _⟩ | exact tl_ints rfl rfl rfl (by simp) | exact tl_txts rfl rfl rfl (by simp) | exact tl_nds rfl rfl rfl (by simp) | ((conv => whnf); first | exact trivial | exact rfl | exact .inr rfl | exact .inl ⟨rfl, rfl⟩ | apply And.intro) | refine tl_int ?_ | refine tl_bool ?_ | refine tl_str ?_ | refine tl_row rfl ?_ | exact cl_ints _ | exact cl_txts _ | exact cl_nds _ | exact cl_mp _ | exact Nat.succ_pos _ | exact pl_ints _ | exact pl_txts _ | exact pl_nds _ | with_reducible refine tl_f ?_)
        dsimp only
        rw [hst]
    · have hi : n.kids.length ≤ i := by simpa using h
      rw [List.take_of_length_le hi]
      (conv => whnf)
      refine ⟨[], [(1000, 3)], ?_⟩
      (repeat' first | exact trivial | exact rfl | exact tl_pv rfl rfl rfl (List.cons_ne_nil _ _) | exact ⟨_, rfl, frzC_map _⟩ | exact tl_ints rfl rfl rfl (by simp) | exact tl_txts rfl rfl rfl (by simp) | exact tl_nds rfl rfl rfl (by simp) | ((conv => whnf); first | exact trivial | exact rfl | exact .inr rfl | exact .inl ⟨rfl, rfl⟩ | apply And.intro) | refine tl_int ?_ | refine tl_bool ?_ | refine tl_str ?_ | refine tl_row rfl ?_ | exact cl_ints _ | exact cl_txts _ | exact cl_nds _ | exact cl_mp _ | exact Nat.succ_pos _ | exact pl_ints _ | exact pl_txts _ | exact pl_nds _ | with_reducible refine tl_f ?_)
end Go.Proofs.YtchfpgpboifbeaaGreat.Ac
set_option linter.unusedVariables false
set_option linter.unusedSimpArgs false
set_option maxRecDepth 20000
set_option maxHeartbeats 20000000
namespace Go.Proofs.YtchfpgpboifbeaaGreat.Ac
open Go.RowKit
theorem fmap_map {α : Type} {f : α → List L} {g : α → List A} (h : ∀ x, (f x).map A.f = g x) (l : List α) : (l.map f).map (·.map A.f) = l.map g := by
  rw [List.map_map]
  exact List.map_congr_left fun x _ => h x
theorem clone_ok (l : List Int) (hl : l.length < 2 ^ 28) : FC Tryz.prog 160 [(false, [ints l])] [(1000, some ⟨0, 1, l.map intW⟩)] [(false, [.row 1000 0 l.length])] := by
  refine gcalls_run tbl_ok mixed Tryz.func160 rfl Tryz.ntmps160 (by kernel_rfl) (Nat.le_of_ble_eq_true rfl) rfl rfl (⟨cl_ints _, trivial⟩) ?_; (conv => whnf); (repeat (refine ⟨by kernel_rfl, ?_⟩; (conv => whnf)))
  intro b hb
  cases b with
  | true =>
    have e : l = [] := by simpa using hb rfl
    subst e
    (conv => whnf); (repeat (refine ⟨by kernel_rfl, ?_⟩; (conv => whnf)))
    (refine ⟨[], [(1000, 3)], ?_⟩; rotate_left)
    all_goals (try (repeat' first | exact trivial | exact rfl | exact tl_pv rfl rfl rfl (List.cons_ne_nil _ _) | exact ⟨_, rfl, frzC_map _⟩ | exact tl_ints rfl rfl rfl (by simp) | exact tl_txts rfl rfl rfl (by simp) | exact tl_nds rfl rfl rfl (by simp) | exact tl_tms rfl rfl rfl (by simp) | exact tl_rus rfl rfl rfl (by simp) | exact tl_hos rfl rfl rfl (by simp) | exact tl_ses rfl rfl rfl (by simp) | exact tl_evs rfl rfl rfl (by simp) | ((conv => whnf); first | exact trivial | exact rfl | exact .inr rfl | exact .inl ⟨rfl, rfl⟩ | apply And.intro) | refine tl_int ?_ | refine tl_bool ?_ | refine tl_str ?_ | refine tl_row rfl ?_ | exact cl_ints _ | exact cl_txts _ | exact cl_nds _ | exact cl_tms _ | exact cl_rus _ | exact cl_hos _ | exact cl_ses _ | exact cl_evs _ | exact cl_mp _ | exact Nat.succ_pos _ | exact pl_ints _ | exact pl_txts _ | exact pl_nds _ | exact pl_tms _ | exact pl_rus _ | exact pl_hos _ | exact pl_ses _ | exact pl_evs _ | with_reducible refine tl_f ?_)); all_goals (try first | rfl | assumption | exact q.symm | omega | (rw [IntKind.wrap_i64]; omega) | (simp; done) | (simp; omega))
  | false =>
    (conv => whnf); (repeat (refine ⟨by kernel_rfl, ?_⟩; (conv => whnf)))
    (refine ⟨l.map intW, fmap_map (fun _ => rfl) l, ?_⟩; (conv => whnf); (repeat (refine ⟨by kernel_rfl, ?_⟩; (conv => whnf))))
    (refine ⟨l.map intW, ⟨rfl, by simp; omega⟩, ?_⟩; (conv => whnf); (repeat (refine ⟨by kernel_rfl, ?_⟩; (conv => whnf))))
    (refine ⟨[], [(1000, 128)], ?_⟩; rotate_left)
    all_goals (try (repeat' first | exact trivial | exact rfl | exact tl_pv rfl rfl rfl (List.cons_ne_nil _ _) | exact ⟨_, rfl, frzC_map _⟩ | exact tl_ints rfl rfl rfl (by simp) | exact tl_txts rfl rfl rfl (by simp) | exact tl_nds rfl rfl rfl (by simp) | exact tl_tms rfl rfl rfl (by simp) | exact tl_rus rfl rfl rfl (by simp) | exact tl_hos rfl rfl rfl (by simp) | exact tl_ses rfl rfl rfl (by simp) | exact tl_evs rfl rfl rfl (by simp) | ((conv => whnf); first | exact trivial | exact rfl | exact .inr rfl | exact .inl ⟨rfl, rfl⟩ | apply And.intro) | refine tl_int ?_ | refine tl_bool ?_ | refine tl_str ?_ | refine tl_row rfl ?_ | exact cl_ints _ | exact cl_txts _ | exact cl_nds _ | exact cl_tms _ | exact cl_rus _ | exact cl_hos _ | exact cl_ses _ | exact cl_evs _ | exact cl_mp _ | exact Nat.succ_pos _ | exact pl_ints _ | exact pl_txts _ | exact pl_nds _ | exact pl_tms _ | exact pl_rus _ | exact pl_hos _ | exact pl_ses _ | exact pl_evs _ | with_reducible refine tl_f ?_)); all_goals (try first | rfl | assumption | exact q.symm | omega | (rw [IntKind.wrap_i64]; omega) | (simp; done) | (simp; omega))
theorem app_get {α : Type} {f : α → List A} {x : List α} {i : Nat} (e : List A) (hi : i < x.length) : ((x.take i).map f ++ [e])[i]? = some e := by
  have h1 : ((x.take i).map f).length = i := by simp; omega
  rw [List.getElem?_append_right (by omega), h1, Nat.sub_self]; rfl
theorem app_set {α : Type} {f : α → List A} {x : List α} {i : Nat} {e e' : List A} (hi : i < x.length) (h : e' = f x[i]) : ((x.take i).map f ++ [e]).set i e' = (x.take (i + 1)).map f := by
  have h1 : ((x.take i).map f).length = i := by simp; omega
  rw [List.set_append_right _ _ (by omega), h1, Nat.sub_self, List.set_cons_zero, List.take_succ_eq_append_getElem hi, List.map_append, h]; rfl
theorem app_ex {α : Type} {f : α → List A} {x : List α} {i k : Nat} {e : List A} (hk : k = (x.take i).length) (hl : x.length < 2 ^ 28) : ((x.take i).map f).take k ++ [e] = (x.take i).map f ++ [e] ∧ ((x.take i).map f ++ [e]).length < 2 ^ 30 := by
  refine ⟨by rw [List.take_of_length_le (by simp [hk])], ?_⟩
  have : (x.take i).length ≤ x.length := by simp; omega
  simp only [List.length_append, List.length_map, List.length_singleton]; omega
theorem nodeCopied_ok (n : Nd) (hk : n.kids.length < 2 ^ 28) : FC Tryz.prog 161 [(true, ndL n)] [(1000, some ⟨0, 1, n.kids.map intW⟩)] [(true, [.f (iL n.id), .f (iL n.kind), .f (iL n.attr), .f (sL n.text), .row 1000 0 n.kids.length])] := by
  refine gcalls_run tbl_ok mixed Tryz.func161 rfl Tryz.ntmps161 (by kernel_rfl) (Nat.le_of_ble_eq_true rfl) rfl rfl (⟨cl_ints _, trivial⟩) ?_; (conv => whnf); (repeat (refine ⟨by kernel_rfl, ?_⟩; (conv => whnf)))
  (refine ⟨(_, _), clone_ok n.kids hk, ?_⟩; (conv => whnf); (repeat (refine ⟨by kernel_rfl, ?_⟩; (conv => whnf))))
  (refine ⟨[], [(1000, 96)], ?_⟩; rotate_left)
  all_goals (try (repeat' first | exact trivial | exact rfl | exact tl_pv rfl rfl rfl (List.cons_ne_nil _ _) | exact ⟨_, rfl, frzC_map _⟩ | exact tl_ints rfl rfl rfl (by simp) | exact tl_txts rfl rfl rfl (by simp) | exact tl_nds rfl rfl rfl (by simp) | exact tl_tms rfl rfl rfl (by simp) | exact tl_rus rfl rfl rfl (by simp) | exact tl_hos rfl rfl rfl (by simp) | exact tl_ses rfl rfl rfl (by simp) | exact tl_evs rfl rfl rfl (by simp) | ((conv => whnf); first | exact trivial | exact rfl | exact .inr rfl | exact .inl ⟨rfl, rfl⟩ | apply And.intro) | refine tl_int ?_ | refine tl_bool ?_ | refine tl_str ?_ | refine tl_row rfl ?_ | exact cl_ints _ | exact cl_txts _ | exact cl_nds _ | exact cl_tms _ | exact cl_rus _ | exact cl_hos _ | exact cl_ses _ | exact cl_evs _ | exact cl_mp _ | exact Nat.succ_pos _ | exact pl_ints _ | exact pl_txts _ | exact pl_nds _ | exact pl_tms _ | exact pl_rus _ | exact pl_hos _ | exact pl_ses _ | exact pl_evs _ | with_reducible refine tl_f ?_)); all_goals (try first | rfl | assumption | exact q.symm | omega | (rw [IntKind.wrap_i64]; omega) | (simp; done) | (simp; omega))
theorem l02OwnNode_ok (n : Nd) (hk : n.kids.length < 2 ^ 28) : FC Tryz.prog 216 [(true, ndL n)] [(1000, some ⟨0, 1, n.kids.map intW⟩)] [(true, [.f (iL n.id), .f (iL n.kind), .f (iL n.attr), .f (sL n.text), .row 1000 0 n.kids.length])] := by
  refine gcalls_run tbl_ok mixed Tryz.func216 rfl Tryz.ntmps216 (by kernel_rfl) (Nat.le_of_ble_eq_true rfl) rfl rfl (⟨cl_ints _, trivial⟩) ?_; (conv => whnf); (repeat (refine ⟨by kernel_rfl, ?_⟩; (conv => whnf)))
  (refine ⟨n.kids.map intW, fmap_map (fun _ => rfl) n.kids, ?_⟩; (conv => whnf); (repeat (refine ⟨by kernel_rfl, ?_⟩; (conv => whnf))))
  (refine ⟨n.kids.map intW, ⟨rfl, by simp; omega⟩, ?_⟩; (conv => whnf); (repeat (refine ⟨by kernel_rfl, ?_⟩; (conv => whnf))))
  (refine ⟨[], [(1000, 112)], ?_⟩; rotate_left)
  all_goals (try (repeat' first | exact trivial | exact rfl | exact tl_pv rfl rfl rfl (List.cons_ne_nil _ _) | exact ⟨_, rfl, frzC_map _⟩ | exact tl_ints rfl rfl rfl (by simp) | exact tl_txts rfl rfl rfl (by simp) | exact tl_nds rfl rfl rfl (by simp) | exact tl_tms rfl rfl rfl (by simp) | exact tl_rus rfl rfl rfl (by simp) | exact tl_hos rfl rfl rfl (by simp) | exact tl_ses rfl rfl rfl (by simp) | exact tl_evs rfl rfl rfl (by simp) | ((conv => whnf); first | exact trivial | exact rfl | exact .inr rfl | exact .inl ⟨rfl, rfl⟩ | apply And.intro) | refine tl_int ?_ | refine tl_bool ?_ | refine tl_str ?_ | refine tl_row rfl ?_ | exact cl_ints _ | exact cl_txts _ | exact cl_nds _ | exact cl_tms _ | exact cl_rus _ | exact cl_hos _ | exact cl_ses _ | exact cl_evs _ | exact cl_mp _ | exact Nat.succ_pos _ | exact pl_ints _ | exact pl_txts _ | exact pl_nds _ | exact pl_tms _ | exact pl_rus _ | exact pl_hos _ | exact pl_ses _ | exact pl_evs _ | with_reducible refine tl_f ?_)); all_goals (try first | rfl | assumption | exact q.symm | omega | (rw [IntKind.wrap_i64]; omega) | (simp; done) | (simp; omega))
theorem docCopied_ok (d : Dc) (hl : d.nodes.length < 2 ^ 28) (hk : ∀ n ∈ d.nodes, n.kids.length < 2 ^ 28) : FC Tryz.prog 80 [(true, dcL d)] [(1000, some ⟨0, 5, d.nodes.map ndW⟩)] [(true, [.f (iL d.root), .f (iL d.next), .row 1000 0 d.nodes.length])] := by
  refine gcalls_run tbl_ok mixed Tryz.func80 rfl Tryz.ntmps80 (by kernel_rfl) (Nat.le_of_ble_eq_true rfl) rfl rfl (⟨cl_nds _, trivial⟩) ?_; (conv => whnf); (repeat (refine ⟨by kernel_rfl, ?_⟩; (conv => whnf)))
  (refine ⟨fun (m : Nat) (es : Es) (hs : Hs) => ∃ (i : Nat), (m + i = d.nodes.length) ∧ es = [(14, .val false [.f (iL i)]), (13, .val false [.f (iL d.nodes.length)]), (12, .val false [.f (nds d.nodes)]), (3, .val false [.pt 64 0 0]), (2, .val false [.pt 48 0 0])] ∧ hs = [(48, some ⟨3, 3, [[.f (iL 0), .f (iL 0), .nl]]⟩), (64, some ⟨3, 3, [[.f (iL d.root), .f (iL d.next), .row 3 0 (d.nodes.take i).length]]⟩), (3, some ⟨0, 5, (d.nodes.take i).map ndW⟩)], ⟨d.nodes.length, [], [], _, _, ⟨rfl, ?_, ?_⟩, 0, ?_, rfl, rfl⟩, ?_⟩; rotate_left 3; rintro m es hs ⟨i, hCDa0, rfl, rfl⟩; (conv => whnf); (repeat (refine ⟨by kernel_rfl, ?_⟩; (conv => whnf))))
  (refine ⟨fun h => ?_, fun h => ?_⟩ <;> ((conv => whnf); (repeat (refine ⟨by kernel_rfl, ?_⟩; (conv => whnf)))))
  have hi : i < d.nodes.length := by omega
  have hc := nodeCopied_ok d.nodes[i] (hk _ (List.getElem_mem _))
  have hti : (d.nodes.take i).length = i := by simp; omega
  have hti2 : (d.nodes.take (i + 1)).length = i + 1 := by simp; omega
  (refine ⟨(i, ndL d.nodes[i]), ⟨rfl, by simp [hi]⟩, ?_⟩; (conv => whnf); (repeat (refine ⟨by kernel_rfl, ?_⟩; (conv => whnf))))
  (refine ⟨(_, _), hc, ?_⟩; (conv => whnf); (repeat (refine ⟨by kernel_rfl, ?_⟩; (conv => whnf))))
  (refine ⟨_, app_ex rfl hl, ?_⟩; (conv => whnf); (repeat (refine ⟨by kernel_rfl, ?_⟩; (conv => whnf))))
  (refine ⟨m - 1, [(352, 384, i, 4)], [(3, 384)], [(14, .val false [.f (iL (i + 1))]), (13, .val false [.f (iL d.nodes.length)]), (12, .val false [.f (nds d.nodes)]), (3, .val false [.pt 64 0 0]), (2, .val false [.pt 48 0 0])], [(48, some ⟨3, 3, [[.f (iL 0), .f (iL 0), .nl]]⟩), (64, some ⟨3, 3, [[.f (iL d.root), .f (iL d.next), .row 3 0 (d.nodes.take (i + 1)).length]]⟩), (3, some ⟨0, 5, (d.nodes.take (i + 1)).map ndW⟩)], by omega, ?_, (i + 1), ?_, rfl, rfl⟩; (conv => whnf); (repeat (refine ⟨by kernel_rfl, ?_⟩; (conv => whnf))))
  (refine ⟨_, app_get _ hi, ?_⟩; (conv => whnf); (repeat (refine ⟨by kernel_rfl, ?_⟩; (conv => whnf))))
  (refine ⟨d.nodes[i].kids.map intW, by rw [List.take_of_length_le (by simp)], ?_⟩; (conv => whnf); (repeat (refine ⟨by kernel_rfl, ?_⟩; (conv => whnf))))
  (refine ⟨?_, ?_⟩; rotate_left 3)
  have hi : d.nodes.length ≤ i := by omega
  rw [List.take_of_length_le hi]
  (refine ⟨[], [(1000, 3)], ?_⟩; rotate_left)
  all_goals (try (repeat' first | exact trivial | exact rfl | exact tl_pv rfl rfl rfl (List.cons_ne_nil _ _) | exact ⟨_, rfl, frzC_map _⟩ | exact tl_ints rfl rfl rfl (by simp) | exact tl_txts rfl rfl rfl (by simp) | exact tl_nds rfl rfl rfl (by simp) | exact tl_tms rfl rfl rfl (by simp) | exact tl_rus rfl rfl rfl (by simp) | exact tl_hos rfl rfl rfl (by simp) | exact tl_ses rfl rfl rfl (by simp) | exact tl_evs rfl rfl rfl (by simp) | ((conv => whnf); first | exact trivial | exact rfl | exact .inr rfl | exact .inl ⟨rfl, rfl⟩ | apply And.intro) | refine tl_int ?_ | refine tl_bool ?_ | refine tl_str ?_ | refine tl_row rfl ?_ | exact cl_ints _ | exact cl_txts _ | exact cl_nds _ | exact cl_tms _ | exact cl_rus _ | exact cl_hos _ | exact cl_ses _ | exact cl_evs _ | exact cl_mp _ | exact Nat.succ_pos _ | exact pl_ints _ | exact pl_txts _ | exact pl_nds _ | exact pl_tms _ | exact pl_rus _ | exact pl_hos _ | exact pl_ses _ | exact pl_evs _ | with_reducible refine tl_f ?_)); all_goals (try first | rfl | assumption | exact q.symm | omega | (rw [IntKind.wrap_i64]; omega) | (simp; done) | (simp; omega))
  all_goals first | exact app_set hi rfl | (dsimp only; exact app_set hi rfl) | (simp; omega)
end Go.Proofs.YtchfpgpboifbeaaGreat.Ac
