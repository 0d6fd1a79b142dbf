/- Several of our texts, one behind the other, without what this claim does not need: Ws, Wt, Wu, Wv, Tu, Tv, Wx, Wd, Op, OpD, Wz, Xa. -/
import Derived.Test.YtfafehhallbjiaaZd11b1bc5
import Derived.Test.YtfafehhallbjiaaZe99f8ed5
import Derived.ChangeArms
import Derived.Deep.Slices
set_option linter.unusedVariables false
set_option linter.unusedSimpArgs false
namespace Go.Proofs.Ytfafehhallbjiaa.Ac
open Go.RowKit
theorem grow_ok {h : Array Obj} {H : Hp} {φ : Phi} (k : HeapOK h H φ) (os : Array Obj) : HeapOK (h ++ os) H φ ∧ Turn h H φ (h ++ os) H φ := by
  have e : ∀ b, b < h.size → (h ++ os)[b]? = h[b]? := fun b hb => by rw [Array.getElem?_append_left hb]
  have t : Turn h H φ (h ++ os) H φ := ⟨rfl, fun b hb hO => ⟨hO, e b hb⟩, fun n h => h, fun n ob hn => .inr ⟨ob, hn, rfl, rfl, Nat.le_refl _⟩⟩
  exact ⟨all_ob (fun n ob hn => (k.ob n ob hn).keep (fun _ _ r => r.turn t) (fun q => rfl) fun q hd hq => e _ (k.lt _ hd hq)) (fun X hd hX => by have := k.lt X hd hX; simp; omega) k.apart (fun b hb => by have := k.old b hb; simp; omega) k.inj, t⟩
def sortI (l : List Int) : List Int := l.mergeSort fun x y => decide (x ≤ y)
theorem sortI_len (l : List Int) : (sortI l).length = l.length := by simp [sortI]
theorem sort_ok (l : List Int) (hlen : l.length < 2 ^ 30) : GCalls Try.prog 91 [(1, some ⟨0, 1, l.map intW⟩)] [(false, [.row 1 0 l.length])] [(1, some ⟨0, 1, (sortI l).map intW⟩)] [] := by
  refine ⟨⟨_, Try.func91, by kernel_rfl, by kernel_rfl⟩, clHs_of (show clHs [(1, some ⟨0, 1, (sortI l).map intW⟩)] from ⟨cl_ints _, trivial⟩), (fun n h => by simp only [hasN, get] at h ⊢; cases hb : Nat.beq 1 n <;> simp_all), ⟨rfl, rfl⟩, fun φ w us hok hr => ?_⟩
  cases us with
  | nil => exact hr.elim
  | cons u us =>
    cases us with
    | cons _ _ => exact hr.2.elim
    | nil =>
      obtain ⟨x, hx, rx⟩ := hr.1
      cases hx
      cases rx with
      | row _ _ _ _ r =>
        have r2 := r.2
        simp only [get, Nat.beq, cond_true] at r2
        obtain ⟨_, _, r3⟩ := r2
        rcases (hok.ob 1 _ rfl).row (fun h => by cases h) with ⟨h0, hp⟩ | ⟨hd, c, ty, g1, g2, g3, _, g5⟩
        · have hl : l = [] := by simpa using h0
          subst hl
          rw [hp] at r3
          obtain ⟨a, rfl⟩ := r3
          refine (Try.slices_Sort_int_none a 0 w).mono ?_
          rintro e w' ⟨rfl, rfl⟩
          have e0 : sortI [] = [] := by simp [sortI]
          rw [e0]
          exact ⟨_, φ, rfl, ⟨#[], rfl, trivial⟩, hok, Turn.refl _ _ _, rfl, rfl, rfl, Nat.le_refl _⟩
        · rw [g1] at r3
          obtain ⟨a, rfl, ha⟩ := r3
          rw [ha (by simp)]
          have hsz : l.length ≤ hd.cap := by have := g3.le; simpa using this
          have hcs : c.size = hd.off + hd.cap := by have := g3.size; simpa using this
          have hcell : ∀ j (hj : j < l.length), c[hd.off + j]? = some (.int .i64 l[j]) := by
            intro j hj
            have := g5 j (intW l[j]) 0 _ (by simp [hj]) rfl
            cases this with
            | e _ _ _ r =>
              have hv : ∀ {u : Value}, RepE w.heap (get [(1, some ⟨0, 1, l.map intW⟩)]) φ (.f (iL l[j])) u → u = .int .i64 l[j] := by
                intro u r
                cases r with
                | f _ _ r => cases r; rfl
              have h1 := hv r
              have hlt : hd.off + j < c.size := by omega
              simp only [Nat.mul_one, Nat.add_zero] at h1
              rw [Array.getElem?_eq_getElem hlt]
              simpa [hlt] using h1
          have hH : Go.Sort.Holds (Value.int .i64) w hd.b hd.off l.toArray := by
            intro j hj
            have hj' : j < l.length := by simpa using hj
            refine ⟨?_, ?_⟩
            · simp only [World.cell?, g2]
              rw [if_neg (by simp), hcell j hj']
              simp [hj']
            · simp [World.frozen?, g2]
          have hlt := lt_of_get g2
          refine (Try.slices_Sort_int hd.b hd.off _ l w hH hlt (by omega)).mono ?_
          rintro e w' ⟨rfl, n, os, rfl⟩
          have hpb : (Go.Sort.putRow (Value.int .i64) (Go.Sort.ahead w n) hd.b hd.off (sortI l).toArray).heap[hd.b]? = some (.cells (Go.Sort.putCells (Value.int .i64) hd.off (sortI l).toArray c) ty (0, 0)) := by
            simp [Go.Sort.putRow, Go.Sort.mapBlock, Go.Sort.ahead, Array.getElem?_modify, g2, Go.Sort.onCells]
          have hpo : ∀ m, m ≠ hd.b → (Go.Sort.putRow (Value.int .i64) (Go.Sort.ahead w n) hd.b hd.off (sortI l).toArray).heap[m]? = w.heap[m]? := by
            intro m hm
            simp [Go.Sort.putRow, Go.Sort.mapBlock, Go.Sort.ahead, Array.getElem?_modify, Ne.symm hm]
          have hps : (Go.Sort.putCells (Value.int .i64) hd.off (sortI l).toArray c).size = c.size := by simp [Go.Sort.putCells]
          have hpc : ∀ k, (Go.Sort.putCells (Value.int .i64) hd.off (sortI l).toArray c)[k]? = (c[k]?).map fun x => if hd.off ≤ k ∧ k < hd.off + (sortI l).length then .int .i64 ((sortI l).toArray[k - hd.off]!) else x := by
            intro k
            simp [Go.Sort.putCells]
          have hrow : RowOK 1 ((sortI l).map intW) hd (Go.Sort.putCells (Value.int .i64) hd.off (sortI l).toArray c) := by
            refine ⟨Nat.succ_pos _, fun e he => by obtain ⟨x, _, rfl⟩ := List.mem_map.1 he; rfl, by simpa [sortI_len] using hsz, g3.cap, by rw [hps]; exact g3.size, fun k hk => ?_⟩
            have hk' : k < c.size := by rw [← hps]; exact hk
            have h1 := hpc k
            rw [Array.getElem?_eq_getElem hk'] at h1
            have h2 := g3.one k hk'
            simp only [Array.getD_eq_getD_getElem?, h1, Array.getElem?_eq_getElem hk', Option.map_some, Option.getD_some] at h2 ⊢
            split
            · rfl
            · exact h2
          have hcl : ∀ i e j x, ((sortI l).map intW)[i]? = some e → e[j]? = some x → RepA w.heap (get [(1, some ⟨0, 1, l.map intW⟩)]) φ (1, [(i, j)]) x ((Go.Sort.putCells (Value.int .i64) hd.off (sortI l).toArray c).getD (hd.off + i * 1 + j) undef) := by
            intro i e j x hi hj
            have hil : i < (sortI l).length := by
              have := (List.getElem?_eq_some_iff.1 hi).1
              simpa using this
            have hi2 : e = intW (sortI l)[i] := by
              rw [List.getElem?_map, List.getElem?_eq_getElem hil] at hi
              exact (Option.some.inj hi).symm
            subst hi2
            cases j with
            | succ j => simp at hj
            | zero =>
              cases hj
              have hk' : hd.off + i < c.size := by rw [sortI_len] at hil; omega
              have h1 := hpc (hd.off + i)
              rw [Array.getElem?_eq_getElem hk'] at h1
              refine .e _ _ _ (.f _ _ ?_)
              simp only [Nat.mul_one, Nat.add_zero, Array.getD_eq_getD_getElem?, h1, Option.map_some, Option.getD_some]
              rw [if_pos (by omega)]
              simp only [Nat.add_sub_cancel_left]
              have e3 : (sortI l).toArray[i]! = (sortI l)[i] := by simp [hil]
              rw [e3]
              exact .v _ rfl
          obtain ⟨ok1, t1⟩ := upd_ok (h' := (Go.Sort.putRow (Value.int .i64) (Go.Sort.ahead w n) hd.b hd.off (sortI l).toArray).heap) (ob' := ⟨0, 1, (sortI l).map intW⟩) hok (fun h => by cases h) (show get [(1, (some ⟨0, 1, l.map intW⟩ : Option Ob))] 1 = some (some ⟨0, 1, l.map intW⟩) from rfl) g1 hpo hpb rfl (by simp [sortI_len]) hrow (fun h => absurd rfl h) hcl
          obtain ⟨ok2, t2⟩ := grow_ok ok1 os
          refine ⟨_, φ, rfl, ⟨#[], rfl, trivial⟩, ?_, ?_, rfl, rfl, rfl, ?_⟩
          · have e1 : put1 (get [(1, some ⟨0, 1, l.map intW⟩)]) 1 (some ⟨0, 1, (sortI l).map intW⟩) = get [(1, some ⟨0, 1, (sortI l).map intW⟩)] := by
              funext q
              by_cases hq : q = 1
              · subst hq; rw [put1_self]; rfl
              · rw [put1_ne _ hq, get_cons_ne _ _ (Ne.symm hq), get_cons_ne _ _ (Ne.symm hq)]
            rw [e1] at ok2 
            exact ok2
          · have e1 : put1 (get [(1, some ⟨0, 1, l.map intW⟩)]) 1 (some ⟨0, 1, (sortI l).map intW⟩) = get [(1, some ⟨0, 1, (sortI l).map intW⟩)] := by
              funext q
              by_cases hq : q = 1
              · subst hq; rw [put1_self]; rfl
              · rw [put1_ne _ hq, get_cons_ne _ _ (Ne.symm hq), get_cons_ne _ _ (Ne.symm hq)]
            have := t1.trans t2
            rw [e1] at this
            exact this
          · simp [Go.Sort.grow, Go.Sort.putRow, Go.Sort.mapBlock, Go.Sort.ahead]
end Go.Proofs.Ytfafehhallbjiaa.Ac
set_option linter.unusedVariables false
set_option linter.unusedSimpArgs false
set_option maxRecDepth 20000
set_option maxHeartbeats 2000000
namespace Go.Proofs.Ytfafehhallbjiaa.Ac
open Go.RowKit
noncomputable def unA (b : List Nd) (l : List Nd) : List Int := l.flatMap fun n => if eqB (ndAt b n.id) (some n) then [] else [n.id]
def nwB (a : List Nd) (l : List Nd) : List Int := l.flatMap fun n => if (ndAt a n.id).isSome then [] else [n.id]
theorem unA_len (b : List Nd) : ∀ l : List Nd, (unA b l).length ≤ l.length
  | [] => Nat.le_refl _
  | n :: l => by
    have := unA_len b l
    unfold unA at this ⊢
    rw [List.flatMap_cons, List.length_append, List.length_cons]
    split <;> simp only [List.length_nil, List.length_singleton] <;> omega
theorem nwB_len (b : List Nd) : ∀ l : List Nd, (nwB b l).length ≤ l.length
  | [] => Nat.le_refl _
  | n :: l => by
    have := nwB_len b l
    unfold nwB at this ⊢
    rw [List.flatMap_cons, List.length_append, List.length_cons]
    split <;> simp only [List.length_nil, List.length_singleton] <;> omega
theorem flat_step {α : Type} {f : α → List Int} {l : List α} {i : Nat} (hi : i < l.length) : (l.take (i + 1)).flatMap f = (l.take i).flatMap f ++ f l[i] := by
  rw [List.take_succ_eq_append_getElem hi, List.flatMap_append]; simp
theorem turnedIn_ok (a b : Dc) (ha : Rise a.nodes) (hb : Rise b.nodes) (hla : a.nodes.length < 2 ^ 28) (hlb : b.nodes.length < 2 ^ 28) (hks : ∀ n ∈ a.nodes, n.kids.length < 2 ^ 62) :
    FC Try.prog 48 [(false, [.pv (dcL a)]), (false, [.pv (dcL b)])] [(1000, some ⟨0, 1, (sortI (unA b.nodes a.nodes ++ nwB a.nodes b.nodes)).map intW⟩)] [(false, [.row 1000 0 (unA b.nodes a.nodes ++ nwB a.nodes b.nodes).length])] := by
  have lA := unA_len b.nodes
  have lB := nwB_len a.nodes
  refine gcalls_of tbl_ok mixed Try.func48 rfl Try.ntmps48 (by kernel_rfl) (Nat.le_of_ble_eq_true rfl) rfl rfl (⟨cl_ints _, trivial⟩) ?_
  conv => whnf
  refine ⟨fun (m : Nat) (es : Es) (hs : Hs) => ∃ i : Nat, m + i = a.nodes.length ∧ es = [(16, .val false [.f (iL i)]), (15, .val false [.f (iL a.nodes.length)]), (14, .val false [.f (nds a.nodes)]), (5, .val false [.row 3 0 (unA b.nodes (a.nodes.take i)).length]), (1, .val false [.f (.pv (dcL b))]), (0, .val false [.f (.pv (dcL a))])] ∧ hs = [(3, some ⟨0, 1, (unA b.nodes (a.nodes.take i)).map intW⟩)],
    ⟨a.nodes.length, [], [], _, _, ⟨?_, ?_, ?_⟩, 0, rfl, rfl, rfl⟩, ?_⟩
  · rfl
  · (repeat' first | exact trivial | exact rfl | exact tl_pv rfl rfl rfl (List.cons_ne_nil _ _) | exact tl_ints rfl rfl rfl (by simp) | exact tl_txts rfl rfl rfl (by simp) | exact tl_nds rfl rfl rfl (by simp) | ((conv => whnf); first | exact trivial | exact rfl | exact .inr rfl | exact .inl ⟨rfl, rfl⟩ | apply And.intro) | refine tl_int ?_ | refine tl_bool ?_ | refine tl_str ?_ | refine tl_row rfl ?_ | exact cl_ints _ | exact cl_txts _ | exact cl_nds _ | exact cl_mp _ | exact Nat.succ_pos _ | exact pl_ints _ | exact pl_txts _ | exact pl_nds _ | with_reducible refine tl_f ?_)
    all_goals simp
  · (repeat' first | exact trivial | exact rfl | exact tl_pv rfl rfl rfl (List.cons_ne_nil _ _) | exact tl_ints rfl rfl rfl (by simp) | exact tl_txts rfl rfl rfl (by simp) | exact tl_nds rfl rfl rfl (by simp) | ((conv => whnf); first | exact trivial | exact rfl | exact .inr rfl | exact .inl ⟨rfl, rfl⟩ | apply And.intro) | refine tl_int ?_ | refine tl_bool ?_ | refine tl_str ?_ | refine tl_row rfl ?_ | exact cl_ints _ | exact cl_txts _ | exact cl_nds _ | exact cl_mp _ | exact Nat.succ_pos _ | exact pl_ints _ | exact pl_txts _ | exact pl_nds _ | with_reducible refine tl_f ?_)
  rintro m es hs ⟨i, hm, rfl, rfl⟩
  conv => whnf
  refine ⟨fun h => ?_, fun h => ?_⟩
  · have hi : i < a.nodes.length := by omega
    have hid := ha.1 a.nodes[i] (List.getElem_mem _)
    have hI : I64 a.nodes[i].id := by unfold I64; omega
    have hf := find_ok b a.nodes[i].id hb hI (by omega)
    have hh := has_ok b a.nodes[i].id hb hI (by omega)
    have hst := flat_step (f := fun n => if eqB (ndAt b.nodes n.id) (some n) then [] else [n.id]) hi
    have hst : unA b.nodes (a.nodes.take (i + 1)) = unA b.nodes (a.nodes.take i) ++ if eqB (ndAt b.nodes a.nodes[i].id) (some a.nodes[i]) then [] else [a.nodes[i].id] := hst
    have hlen1 := lA (a.nodes.take i)
    rw [List.length_take] at hlen1
    conv => whnf
    refine ⟨(i, ndL a.nodes[i]), ⟨rfl, by simp [hi]⟩, ?_⟩
    conv => whnf
    cases hq : ndAt b.nodes a.nodes[i].id with
    | none =>
      rw [hq] at hh hst
      rw [← eqB_no (fun e => by cases e)] at hst
      simp only [findL, hq] at hf
      refine ⟨([], _), hf, ?_⟩
      conv => whnf
      refine ⟨by kernel_rfl, ?_⟩
      conv => whnf
      refine ⟨([], _), hh, ?_⟩
      conv => whnf
      refine ⟨by kernel_rfl, ?_⟩
      conv => whnf
      refine ⟨(unA b.nodes (a.nodes.take i) ++ [a.nodes[i].id]).map intW, ⟨app_one intW _ _, by simp; omega⟩, ?_⟩
      conv => whnf
      refine ⟨m - 1, [], [(3, 672)], [(16, .val false [.f (iL (i + 1 : Nat))]), (15, .val false [.f (iL a.nodes.length)]), (14, .val false [.f (nds a.nodes)]), (5, .val false [.row 3 0 (unA b.nodes (a.nodes.take (i + 1))).length]), (1, .val false [.f (.pv (dcL b))]), (0, .val false [.f (.pv (dcL a))])], [(3, some ⟨0, 1, (unA b.nodes (a.nodes.take (i + 1))).map intW⟩)], by omega, ⟨?_, ?_, ?_⟩, i + 1, by omega, rfl, rfl⟩
      · rfl
      · (repeat' first | exact trivial | exact rfl | exact tl_pv rfl rfl rfl (List.cons_ne_nil _ _) | exact tl_ints rfl rfl rfl (by simp) | exact tl_txts rfl rfl rfl (by simp) | exact tl_nds rfl rfl rfl (by simp) | ((conv => whnf); first | exact trivial | exact rfl | exact .inr rfl | exact .inl ⟨rfl, rfl⟩ | apply And.intro) | refine tl_int ?_ | refine tl_bool ?_ | refine tl_str ?_ | refine tl_row rfl ?_ | exact cl_ints _ | exact cl_txts _ | exact cl_nds _ | exact cl_mp _ | exact Nat.succ_pos _ | exact pl_ints _ | exact pl_txts _ | exact pl_nds _ | with_reducible refine tl_f ?_)
        · exact wrap_suc (by omega)
        · rw [hst]; simp
      · (repeat' first | exact trivial | exact rfl | exact tl_pv rfl rfl rfl (List.cons_ne_nil _ _) | exact tl_ints rfl rfl rfl (by simp) | exact tl_txts rfl rfl rfl (by simp) | exact tl_nds rfl rfl rfl (by simp) | ((conv => whnf); first | exact trivial | exact rfl | exact .inr rfl | exact .inl ⟨rfl, rfl⟩ | apply And.intro) | refine tl_int ?_ | refine tl_bool ?_ | refine tl_str ?_ | refine tl_row rfl ?_ | exact cl_ints _ | exact cl_txts _ | exact cl_nds _ | exact cl_mp _ | exact Nat.succ_pos _ | exact pl_ints _ | exact pl_txts _ | exact pl_nds _ | with_reducible refine tl_f ?_)
        dsimp only
        rw [hst]; simp
    | some n =>
      rw [hq] at hh hst
      rw [findL_some hq] at hf
      have hs := isSame_ok a.nodes[i] n (hks _ (List.getElem_mem _))
      refine ⟨([], _), hf, ?_⟩
      conv => whnf
      refine ⟨by kernel_rfl, ?_⟩
      conv => whnf
      refine ⟨([], _), hh, ?_⟩
      conv => whnf
      by_cases k : a.nodes[i] = n
      · rw [eqB_iff.2 k] at hs
        rw [eqB_iff.2 (by rw [k])] at hst
        refine ⟨([], _), hs, ?_⟩
        conv => whnf
        refine ⟨by kernel_rfl, ?_⟩
        conv => whnf
        refine ⟨m - 1, [], [], [(16, .val false [.f (iL (i + 1 : Nat))]), (15, .val false [.f (iL a.nodes.length)]), (14, .val false [.f (nds a.nodes)]), (5, .val false [.row 3 0 (unA b.nodes (a.nodes.take (i + 1))).length]), (1, .val false [.f (.pv (dcL b))]), (0, .val false [.f (.pv (dcL a))])], [(3, some ⟨0, 1, (unA b.nodes (a.nodes.take (i + 1))).map intW⟩)], by omega, ⟨?_, ?_, ?_⟩, i + 1, by omega, rfl, rfl⟩
        · rfl
        · (repeat' first | exact trivial | exact rfl | exact tl_pv rfl rfl rfl (List.cons_ne_nil _ _) | exact tl_ints rfl rfl rfl (by simp) | exact tl_txts rfl rfl rfl (by simp) | exact tl_nds rfl rfl rfl (by simp) | ((conv => whnf); first | exact trivial | exact rfl | exact .inr rfl | exact .inl ⟨rfl, rfl⟩ | apply And.intro) | refine tl_int ?_ | refine tl_bool ?_ | refine tl_str ?_ | refine tl_row rfl ?_ | exact cl_ints _ | exact cl_txts _ | exact cl_nds _ | exact cl_mp _ | exact Nat.succ_pos _ | exact pl_ints _ | exact pl_txts _ | exact pl_nds _ | with_reducible refine tl_f ?_)
          · exact wrap_suc (by omega)
          · rw [hst]; simp
        · (repeat' first | exact trivial | exact rfl | exact tl_pv rfl rfl rfl (List.cons_ne_nil _ _) | exact tl_ints rfl rfl rfl (by simp) | exact tl_txts rfl rfl rfl (by simp) | exact tl_nds rfl rfl rfl (by simp) | ((conv => whnf); first | exact trivial | exact rfl | exact .inr rfl | exact .inl ⟨rfl, rfl⟩ | apply And.intro) | refine tl_int ?_ | refine tl_bool ?_ | refine tl_str ?_ | refine tl_row rfl ?_ | exact cl_ints _ | exact cl_txts _ | exact cl_nds _ | exact cl_mp _ | exact Nat.succ_pos _ | exact pl_ints _ | exact pl_txts _ | exact pl_nds _ | with_reducible refine tl_f ?_)
          dsimp only
          rw [hst]; simp
      · rw [← eqB_no k] at hs
        rw [← eqB_no (fun e => k (Option.some.inj e).symm)] at hst
        refine ⟨([], _), hs, ?_⟩
        conv => whnf
        refine ⟨by kernel_rfl, ?_⟩
        conv => whnf
        refine ⟨(unA b.nodes (a.nodes.take i) ++ [a.nodes[i].id]).map intW, ⟨app_one intW _ _, by simp; omega⟩, ?_⟩
        conv => whnf
        refine ⟨m - 1, [], [(3, 672)], [(16, .val false [.f (iL (i + 1 : Nat))]), (15, .val false [.f (iL a.nodes.length)]), (14, .val false [.f (nds a.nodes)]), (5, .val false [.row 3 0 (unA b.nodes (a.nodes.take (i + 1))).length]), (1, .val false [.f (.pv (dcL b))]), (0, .val false [.f (.pv (dcL a))])], [(3, some ⟨0, 1, (unA b.nodes (a.nodes.take (i + 1))).map intW⟩)], by omega, ⟨?_, ?_, ?_⟩, i + 1, by omega, rfl, rfl⟩
        · rfl
        · (repeat' first | exact trivial | exact rfl | exact tl_pv rfl rfl rfl (List.cons_ne_nil _ _) | exact tl_ints rfl rfl rfl (by simp) | exact tl_txts rfl rfl rfl (by simp) | exact tl_nds rfl rfl rfl (by simp) | ((conv => whnf); first | exact trivial | exact rfl | exact .inr rfl | exact .inl ⟨rfl, rfl⟩ | apply And.intro) | refine tl_int ?_ | refine tl_bool ?_ | refine tl_str ?_ | refine tl_row rfl ?_ | exact cl_ints _ | exact cl_txts _ | exact cl_nds _ | exact cl_mp _ | exact Nat.succ_pos _ | exact pl_ints _ | exact pl_txts _ | exact pl_nds _ | with_reducible refine tl_f ?_)
          · exact wrap_suc (by omega)
          · rw [hst]; simp
        · (repeat' first | exact trivial | exact rfl | exact tl_pv rfl rfl rfl (List.cons_ne_nil _ _) | exact tl_ints rfl rfl rfl (by simp) | exact tl_txts rfl rfl rfl (by simp) | exact tl_nds rfl rfl rfl (by simp) | ((conv => whnf); first | exact trivial | exact rfl | exact .inr rfl | exact .inl ⟨rfl, rfl⟩ | apply And.intro) | refine tl_int ?_ | refine tl_bool ?_ | refine tl_str ?_ | refine tl_row rfl ?_ | exact cl_ints _ | exact cl_txts _ | exact cl_nds _ | exact cl_mp _ | exact Nat.succ_pos _ | exact pl_ints _ | exact pl_txts _ | exact pl_nds _ | with_reducible refine tl_f ?_)
          dsimp only
          rw [hst]; simp
  · have hi : a.nodes.length ≤ i := by omega
    rw [List.take_of_length_le hi]
    conv => whnf
    refine ⟨fun (m : Nat) (es : Es) (hs : Hs) => ∃ i : Nat, m + i = b.nodes.length ∧ es = [(48, .val false [.f (iL i)]), (47, .val false [.f (iL b.nodes.length)]), (46, .val false [.f (nds b.nodes)]), (5, .val false [.row 3 0 (unA b.nodes a.nodes ++ nwB a.nodes (b.nodes.take i)).length]), (0, .val false [.f (.pv (dcL a))])] ∧ hs = [(3, some ⟨0, 1, (unA b.nodes a.nodes ++ nwB a.nodes (b.nodes.take i)).map intW⟩)],
      ⟨b.nodes.length, [], [], _, _, ⟨?_, ?_, ?_⟩, 0, rfl, rfl, rfl⟩, ?_⟩
    · rfl
    · (repeat' first | exact trivial | exact rfl | exact tl_pv rfl rfl rfl (List.cons_ne_nil _ _) | exact tl_ints rfl rfl rfl (by simp) | exact tl_txts rfl rfl rfl (by simp) | exact tl_nds rfl rfl rfl (by simp) | ((conv => whnf); first | exact trivial | exact rfl | exact .inr rfl | exact .inl ⟨rfl, rfl⟩ | apply And.intro) | refine tl_int ?_ | refine tl_bool ?_ | refine tl_str ?_ | refine tl_row rfl ?_ | exact cl_ints _ | exact cl_txts _ | exact cl_nds _ | exact cl_mp _ | exact Nat.succ_pos _ | exact pl_ints _ | exact pl_txts _ | exact pl_nds _ | with_reducible refine tl_f ?_)
      all_goals simp [nwB]
    · (repeat' first | exact trivial | exact rfl | exact tl_pv rfl rfl rfl (List.cons_ne_nil _ _) | exact tl_ints rfl rfl rfl (by simp) | exact tl_txts rfl rfl rfl (by simp) | exact tl_nds rfl rfl rfl (by simp) | ((conv => whnf); first | exact trivial | exact rfl | exact .inr rfl | exact .inl ⟨rfl, rfl⟩ | apply And.intro) | refine tl_int ?_ | refine tl_bool ?_ | refine tl_str ?_ | refine tl_row rfl ?_ | exact cl_ints _ | exact cl_txts _ | exact cl_nds _ | exact cl_mp _ | exact Nat.succ_pos _ | exact pl_ints _ | exact pl_txts _ | exact pl_nds _ | with_reducible refine tl_f ?_)
      all_goals simp [nwB]
    clear hm h hi
    rintro m es hs ⟨i, hm, rfl, rfl⟩
    conv => whnf
    refine ⟨fun h => ?_, fun h => ?_⟩
    · have hi : i < b.nodes.length := by omega
      have hid := hb.1 b.nodes[i] (List.getElem_mem _)
      have hI : I64 b.nodes[i].id := by unfold I64; omega
      have hh := has_ok a b.nodes[i].id ha hI (by omega)
      have hst := flat_step (f := fun n => if (ndAt a.nodes n.id).isSome then [] else [n.id]) hi
      have hst : nwB a.nodes (b.nodes.take (i + 1)) = nwB a.nodes (b.nodes.take i) ++ if (ndAt a.nodes b.nodes[i].id).isSome then [] else [b.nodes[i].id] := hst
      have hlen1 := lA a.nodes
      have hlen2 := lB (b.nodes.take i)
      rw [List.length_take] at hlen2
      conv => whnf
      refine ⟨(i, ndL b.nodes[i]), ⟨rfl, by simp [hi]⟩, ?_⟩
      conv => whnf
      cases hq : (ndAt a.nodes b.nodes[i].id).isSome with
      | true =>
        rw [hq] at hh hst
        refine ⟨([], _), hh, ?_⟩
        conv => whnf
        refine ⟨m - 1, [], [], [(48, .val false [.f (iL (i + 1 : Nat))]), (47, .val false [.f (iL b.nodes.length)]), (46, .val false [.f (nds b.nodes)]), (5, .val false [.row 3 0 (unA b.nodes a.nodes ++ nwB a.nodes (b.nodes.take (i + 1))).length]), (0, .val false [.f (.pv (dcL a))])], [(3, some ⟨0, 1, (unA b.nodes a.nodes ++ nwB a.nodes (b.nodes.take (i + 1))).map intW⟩)], by omega, ⟨?_, ?_, ?_⟩, i + 1, by omega, rfl, rfl⟩
        · rfl
        · (repeat' first | exact trivial | exact rfl | exact tl_pv rfl rfl rfl (List.cons_ne_nil _ _) | exact tl_ints rfl rfl rfl (by simp) | exact tl_txts rfl rfl rfl (by simp) | exact tl_nds rfl rfl rfl (by simp) | ((conv => whnf); first | exact trivial | exact rfl | exact .inr rfl | exact .inl ⟨rfl, rfl⟩ | apply And.intro) | refine tl_int ?_ | refine tl_bool ?_ | refine tl_str ?_ | refine tl_row rfl ?_ | exact cl_ints _ | exact cl_txts _ | exact cl_nds _ | exact cl_mp _ | exact Nat.succ_pos _ | exact pl_ints _ | exact pl_txts _ | exact pl_nds _ | with_reducible refine tl_f ?_)
          · exact wrap_suc (by omega)
          · rw [hst]; simp
        · (repeat' first | exact trivial | exact rfl | exact tl_pv rfl rfl rfl (List.cons_ne_nil _ _) | exact tl_ints rfl rfl rfl (by simp) | exact tl_txts rfl rfl rfl (by simp) | exact tl_nds rfl rfl rfl (by simp) | ((conv => whnf); first | exact trivial | exact rfl | exact .inr rfl | exact .inl ⟨rfl, rfl⟩ | apply And.intro) | refine tl_int ?_ | refine tl_bool ?_ | refine tl_str ?_ | refine tl_row rfl ?_ | exact cl_ints _ | exact cl_txts _ | exact cl_nds _ | exact cl_mp _ | exact Nat.succ_pos _ | exact pl_ints _ | exact pl_txts _ | exact pl_nds _ | with_reducible refine tl_f ?_)
          dsimp only
          rw [hst]; simp
      | false =>
        rw [hq] at hh hst
        refine ⟨([], _), hh, ?_⟩
        conv => whnf
        refine ⟨(unA b.nodes a.nodes ++ nwB a.nodes (b.nodes.take i) ++ [b.nodes[i].id]).map intW, ⟨app_one intW _ _, by simp; omega⟩, ?_⟩
        conv => whnf
        refine ⟨m - 1, [], [(3, 992)], [(48, .val false [.f (iL (i + 1 : Nat))]), (47, .val false [.f (iL b.nodes.length)]), (46, .val false [.f (nds b.nodes)]), (5, .val false [.row 3 0 (unA b.nodes a.nodes ++ nwB a.nodes (b.nodes.take (i + 1))).length]), (0, .val false [.f (.pv (dcL a))])], [(3, some ⟨0, 1, (unA b.nodes a.nodes ++ nwB a.nodes (b.nodes.take (i + 1))).map intW⟩)], by omega, ⟨?_, ?_, ?_⟩, i + 1, by omega, rfl, rfl⟩
        · rfl
        · (repeat' first | exact trivial | exact rfl | exact tl_pv rfl rfl rfl (List.cons_ne_nil _ _) | exact tl_ints rfl rfl rfl (by simp) | exact tl_txts rfl rfl rfl (by simp) | exact tl_nds rfl rfl rfl (by simp) | ((conv => whnf); first | exact trivial | exact rfl | exact .inr rfl | exact .inl ⟨rfl, rfl⟩ | apply And.intro) | refine tl_int ?_ | refine tl_bool ?_ | refine tl_str ?_ | refine tl_row rfl ?_ | exact cl_ints _ | exact cl_txts _ | exact cl_nds _ | exact cl_mp _ | exact Nat.succ_pos _ | exact pl_ints _ | exact pl_txts _ | exact pl_nds _ | with_reducible refine tl_f ?_)
          · exact wrap_suc (by omega)
          · rw [hst]; simp
        · (repeat' first | exact trivial | exact rfl | exact tl_pv rfl rfl rfl (List.cons_ne_nil _ _) | exact tl_ints rfl rfl rfl (by simp) | exact tl_txts rfl rfl rfl (by simp) | exact tl_nds rfl rfl rfl (by simp) | ((conv => whnf); first | exact trivial | exact rfl | exact .inr rfl | exact .inl ⟨rfl, rfl⟩ | apply And.intro) | refine tl_int ?_ | refine tl_bool ?_ | refine tl_str ?_ | refine tl_row rfl ?_ | exact cl_ints _ | exact cl_txts _ | exact cl_nds _ | exact cl_mp _ | exact Nat.succ_pos _ | exact pl_ints _ | exact pl_txts _ | exact pl_nds _ | with_reducible refine tl_f ?_)
          dsimp only
          rw [hst]; simp
    · have hi : b.nodes.length ≤ i := by omega
      rw [List.take_of_length_le hi]
      have hlen1 := lA a.nodes
      have hlen2 := lB b.nodes
      conv => whnf
      refine ⟨⟨false, [(1, 3)], _, _, _, _⟩, sort_ok (unA b.nodes a.nodes ++ nwB a.nodes b.nodes) (by simp; omega), ?_⟩
      conv => whnf
      refine ⟨⟨?_, ?_, trivial⟩, ?_⟩
      · (repeat' first | exact trivial | exact rfl | exact tl_pv rfl rfl rfl (List.cons_ne_nil _ _) | exact tl_ints rfl rfl rfl (by simp) | exact tl_txts rfl rfl rfl (by simp) | exact tl_nds rfl rfl rfl (by simp) | ((conv => whnf); first | exact trivial | exact rfl | exact .inr rfl | exact .inl ⟨rfl, rfl⟩ | apply And.intro) | refine tl_int ?_ | refine tl_bool ?_ | refine tl_str ?_ | refine tl_row rfl ?_ | exact cl_ints _ | exact cl_txts _ | exact cl_nds _ | exact cl_mp _ | exact Nat.succ_pos _ | exact pl_ints _ | exact pl_txts _ | exact pl_nds _ | with_reducible refine tl_f ?_)
      · (repeat' first | exact trivial | exact rfl | exact tl_pv rfl rfl rfl (List.cons_ne_nil _ _) | exact tl_ints rfl rfl rfl (by simp) | exact tl_txts rfl rfl rfl (by simp) | exact tl_nds rfl rfl rfl (by simp) | ((conv => whnf); first | exact trivial | exact rfl | exact .inr rfl | exact .inl ⟨rfl, rfl⟩ | apply And.intro) | refine tl_int ?_ | refine tl_bool ?_ | refine tl_str ?_ | refine tl_row rfl ?_ | exact cl_ints _ | exact cl_txts _ | exact cl_nds _ | exact cl_mp _ | exact Nat.succ_pos _ | exact pl_ints _ | exact pl_txts _ | exact pl_nds _ | with_reducible refine tl_f ?_)
      conv => whnf
      refine ⟨[], [(1000, 3)], ?_⟩
      (repeat' first | exact trivial | exact rfl | exact tl_pv rfl rfl rfl (List.cons_ne_nil _ _) | exact tl_ints rfl rfl rfl (by simp) | exact tl_txts rfl rfl rfl (by simp) | exact tl_nds rfl rfl rfl (by simp) | ((conv => whnf); first | exact trivial | exact rfl | exact .inr rfl | exact .inl ⟨rfl, rfl⟩ | apply And.intro) | refine tl_int ?_ | refine tl_bool ?_ | refine tl_str ?_ | refine tl_row rfl ?_ | exact cl_ints _ | exact cl_txts _ | exact cl_nds _ | exact cl_mp _ | exact Nat.succ_pos _ | exact pl_ints _ | exact pl_txts _ | exact pl_nds _ | with_reducible refine tl_f ?_)
end Go.Proofs.Ytfafehhallbjiaa.Ac
set_option linter.unusedVariables false
set_option linter.unusedSimpArgs false
set_option maxRecDepth 20000
set_option maxHeartbeats 2000000
namespace Go.Proofs.Ytfafehhallbjiaa.Ac
open Go.RowKit
def riseF : List Int → Int → List Int
  | [], n => [n]
  | x :: l, n => if x > n then n :: x :: l else x :: riseF l n
theorem riseF_len (n : Int) : ∀ l : List Int, (riseF l n).length = l.length + 1
  | [] => rfl
  | x :: l => by
    simp only [riseF]
    split
    · rfl
    · simp [riseF_len n l]
theorem rise_ok (l : List Int) (n : Int) (hlen : l.length < 2 ^ 29) : FC Try.prog 87 [(false, [ints l]), (false, [iL n])] [(1000, some ⟨0, 1, (riseF l n).map intW⟩)] [(false, [.row 1000 0 (riseF l n).length])] := by
  have hrl := riseF_len n l
  refine gcalls_of tbl_ok mixed Try.func87 rfl Try.ntmps87 (by kernel_rfl) (Nat.le_of_ble_eq_true rfl) rfl rfl (⟨cl_ints _, trivial⟩) ?_
  conv => whnf
  refine ⟨fun (m : Nat) (es : Es) (hs : Hs) => ∃ (i : Nat) (out : List Int) (done : Bool), m + i = l.length ∧ (done = false → out ++ riseF (l.drop i) n = riseF l n) ∧ (done = true → out ++ l.drop i = riseF l n) ∧ es = [(7, .val false [.f (iL i)]), (6, .val false [.f (bL done)]), (5, .val false [.row 3 0 out.length]), (1, .val false [.f (iL n)]), (0, .val false [.f (ints l)])] ∧ hs = [(3, some ⟨0, 1, out.map intW⟩)],
    ⟨l.length, [], [(3, 144)], _, _, ⟨?_, ?_, ?_⟩, 0, [], false, rfl, fun _ => rfl, (fun h => by cases h), rfl, rfl⟩, ?_⟩
  · rfl
  · (repeat' first | exact trivial | exact rfl | exact tl_pv rfl rfl rfl (List.cons_ne_nil _ _) | exact tl_ints rfl rfl rfl (by simp) | exact tl_txts rfl rfl rfl (by simp) | exact tl_nds rfl rfl rfl (by simp) | ((conv => whnf); first | exact trivial | exact rfl | exact .inr rfl | exact .inl ⟨rfl, rfl⟩ | apply And.intro) | refine tl_int ?_ | refine tl_bool ?_ | refine tl_str ?_ | refine tl_row rfl ?_ | exact cl_ints _ | exact cl_txts _ | exact cl_nds _ | exact cl_mp _ | exact Nat.succ_pos _ | exact pl_ints _ | exact pl_txts _ | exact pl_nds _ | with_reducible refine tl_f ?_)
  · (repeat' first | exact trivial | exact rfl | exact tl_pv rfl rfl rfl (List.cons_ne_nil _ _) | exact tl_ints rfl rfl rfl (by simp) | exact tl_txts rfl rfl rfl (by simp) | exact tl_nds rfl rfl rfl (by simp) | ((conv => whnf); first | exact trivial | exact rfl | exact .inr rfl | exact .inl ⟨rfl, rfl⟩ | apply And.intro) | refine tl_int ?_ | refine tl_bool ?_ | refine tl_str ?_ | refine tl_row rfl ?_ | exact cl_ints _ | exact cl_txts _ | exact cl_nds _ | exact cl_mp _ | exact Nat.succ_pos _ | exact pl_ints _ | exact pl_txts _ | exact pl_nds _ | with_reducible refine tl_f ?_)
  rintro m es hs ⟨i, out, done, hm, h1, h2, rfl, rfl⟩
  have hol : out.length ≤ l.length + 1 := by
    cases done with
    | false => have := congrArg List.length (h1 rfl); rw [List.length_append] at this; omega
    | true => have := congrArg List.length (h2 rfl); rw [List.length_append] at this; omega
  conv => whnf
  refine ⟨fun h => ?_, fun h => ?_⟩
  · have hi : i < l.length := by simpa using h
    have hd := List.drop_eq_getElem_cons hi
    cases done with
    | true =>
      have h2 := h2 rfl
      rw [hd] at h2
      conv => whnf
      refine ⟨(i, intE l[i]), ⟨rfl, by simp [hi]⟩, ?_⟩
      conv => whnf
      refine ⟨(out ++ [l[i]]).map intW, ⟨app_one intW out _, by simp; omega⟩, ?_⟩
      conv => whnf
      refine ⟨m - 1, [], [(3, 576)], [(7, .val false [.f (iL (i + 1 : Nat))]), (6, .val false [.f (bL true)]), (5, .val false [.row 3 0 (out ++ [l[i]]).length]), (1, .val false [.f (iL n)]), (0, .val false [.f (ints l)])], [(3, some ⟨0, 1, (out ++ [l[i]]).map intW⟩)], by omega, ⟨?_, ?_, ?_⟩, i + 1, out ++ [l[i]], true, by omega, (fun h => by cases h), (fun _ => by rw [List.append_assoc]; exact h2), rfl, rfl⟩
      · rfl
      · (repeat' first | exact trivial | exact rfl | exact tl_pv rfl rfl rfl (List.cons_ne_nil _ _) | exact tl_ints rfl rfl rfl (by simp) | exact tl_txts rfl rfl rfl (by simp) | exact tl_nds rfl rfl rfl (by simp) | ((conv => whnf); first | exact trivial | exact rfl | exact .inr rfl | exact .inl ⟨rfl, rfl⟩ | apply And.intro) | refine tl_int ?_ | refine tl_bool ?_ | refine tl_str ?_ | refine tl_row rfl ?_ | exact cl_ints _ | exact cl_txts _ | exact cl_nds _ | exact cl_mp _ | exact Nat.succ_pos _ | exact pl_ints _ | exact pl_txts _ | exact pl_nds _ | with_reducible refine tl_f ?_)
        · exact wrap_suc (by omega)
        · simp
      · (repeat' first | exact trivial | exact rfl | exact tl_pv rfl rfl rfl (List.cons_ne_nil _ _) | exact tl_ints rfl rfl rfl (by simp) | exact tl_txts rfl rfl rfl (by simp) | exact tl_nds rfl rfl rfl (by simp) | ((conv => whnf); first | exact trivial | exact rfl | exact .inr rfl | exact .inl ⟨rfl, rfl⟩ | apply And.intro) | refine tl_int ?_ | refine tl_bool ?_ | refine tl_str ?_ | refine tl_row rfl ?_ | exact cl_ints _ | exact cl_txts _ | exact cl_nds _ | exact cl_mp _ | exact Nat.succ_pos _ | exact pl_ints _ | exact pl_txts _ | exact pl_nds _ | with_reducible refine tl_f ?_)
    | false =>
      have h1 := h1 rfl
      rw [hd] at h1
      conv => whnf
      refine ⟨(i, intE l[i]), ⟨rfl, by simp [hi]⟩, ?_⟩
      conv => whnf
      refine ⟨fun k => ?_, fun k => ?_⟩
      · have h1' : out ++ n :: l[i] :: l.drop (i + 1) = riseF l n := by rw [← h1, riseF, if_pos k]
        have hol2 : out.length + 2 ≤ l.length + 1 := by
          have := congrArg List.length h1'
          rw [List.length_append, List.length_cons, List.length_cons] at this; omega
        conv => whnf
        refine ⟨(out ++ [n]).map intW, ⟨app_one intW out _, by simp; omega⟩, ?_⟩
        conv => whnf
        refine ⟨(i, intE l[i]), ⟨rfl, by simp [hi]⟩, ?_⟩
        conv => whnf
        refine ⟨(out ++ [n] ++ [l[i]]).map intW, ⟨?_, by simp; omega⟩, ?_⟩
        · rw [List.take_of_length_le (Nat.le_refl _)]; simp
        conv => whnf
        refine ⟨m - 1, [], [(3, 576)], [(7, .val false [.f (iL (i + 1 : Nat))]), (6, .val false [.f (bL true)]), (5, .val false [.row 3 0 (out ++ [n] ++ [l[i]]).length]), (1, .val false [.f (iL n)]), (0, .val false [.f (ints l)])], [(3, some ⟨0, 1, (out ++ [n] ++ [l[i]]).map intW⟩)], by omega, ⟨?_, ?_, ?_⟩, i + 1, out ++ [n] ++ [l[i]], true, by omega, (fun h => by cases h), (fun _ => by rw [← h1']; simp), rfl, rfl⟩
        · rfl
        · (repeat' first | exact trivial | exact rfl | exact tl_pv rfl rfl rfl (List.cons_ne_nil _ _) | exact tl_ints rfl rfl rfl (by simp) | exact tl_txts rfl rfl rfl (by simp) | exact tl_nds rfl rfl rfl (by simp) | ((conv => whnf); first | exact trivial | exact rfl | exact .inr rfl | exact .inl ⟨rfl, rfl⟩ | apply And.intro) | refine tl_int ?_ | refine tl_bool ?_ | refine tl_str ?_ | refine tl_row rfl ?_ | exact cl_ints _ | exact cl_txts _ | exact cl_nds _ | exact cl_mp _ | exact Nat.succ_pos _ | exact pl_ints _ | exact pl_txts _ | exact pl_nds _ | with_reducible refine tl_f ?_)
          · exact wrap_suc (by omega)
          · simp
        · (repeat' first | exact trivial | exact rfl | exact tl_pv rfl rfl rfl (List.cons_ne_nil _ _) | exact tl_ints rfl rfl rfl (by simp) | exact tl_txts rfl rfl rfl (by simp) | exact tl_nds rfl rfl rfl (by simp) | ((conv => whnf); first | exact trivial | exact rfl | exact .inr rfl | exact .inl ⟨rfl, rfl⟩ | apply And.intro) | refine tl_int ?_ | refine tl_bool ?_ | refine tl_str ?_ | refine tl_row rfl ?_ | exact cl_ints _ | exact cl_txts _ | exact cl_nds _ | exact cl_mp _ | exact Nat.succ_pos _ | exact pl_ints _ | exact pl_txts _ | exact pl_nds _ | with_reducible refine tl_f ?_)
      · have h1' : out ++ [l[i]] ++ riseF (l.drop (i + 1)) n = riseF l n := by rw [← h1, riseF, if_neg k]; simp
        have hol2 : out.length + 1 ≤ l.length + 1 := by
          have := congrArg List.length h1'
          rw [List.length_append, List.length_append, List.length_singleton] at this; omega
        conv => whnf
        refine ⟨(i, intE l[i]), ⟨rfl, by simp [hi]⟩, ?_⟩
        conv => whnf
        refine ⟨(out ++ [l[i]]).map intW, ⟨app_one intW out _, by simp; omega⟩, ?_⟩
        conv => whnf
        refine ⟨m - 1, [], [(3, 576)], [(7, .val false [.f (iL (i + 1 : Nat))]), (6, .val false [.f (bL false)]), (5, .val false [.row 3 0 (out ++ [l[i]]).length]), (1, .val false [.f (iL n)]), (0, .val false [.f (ints l)])], [(3, some ⟨0, 1, (out ++ [l[i]]).map intW⟩)], by omega, ⟨?_, ?_, ?_⟩, i + 1, out ++ [l[i]], false, by omega, (fun _ => h1'), (fun h => by cases h), rfl, rfl⟩
        · rfl
        · (repeat' first | exact trivial | exact rfl | exact tl_pv rfl rfl rfl (List.cons_ne_nil _ _) | exact tl_ints rfl rfl rfl (by simp) | exact tl_txts rfl rfl rfl (by simp) | exact tl_nds rfl rfl rfl (by simp) | ((conv => whnf); first | exact trivial | exact rfl | exact .inr rfl | exact .inl ⟨rfl, rfl⟩ | apply And.intro) | refine tl_int ?_ | refine tl_bool ?_ | refine tl_str ?_ | refine tl_row rfl ?_ | exact cl_ints _ | exact cl_txts _ | exact cl_nds _ | exact cl_mp _ | exact Nat.succ_pos _ | exact pl_ints _ | exact pl_txts _ | exact pl_nds _ | with_reducible refine tl_f ?_)
          · exact wrap_suc (by omega)
          · simp
        · (repeat' first | exact trivial | exact rfl | exact tl_pv rfl rfl rfl (List.cons_ne_nil _ _) | exact tl_ints rfl rfl rfl (by simp) | exact tl_txts rfl rfl rfl (by simp) | exact tl_nds rfl rfl rfl (by simp) | ((conv => whnf); first | exact trivial | exact rfl | exact .inr rfl | exact .inl ⟨rfl, rfl⟩ | apply And.intro) | refine tl_int ?_ | refine tl_bool ?_ | refine tl_str ?_ | refine tl_row rfl ?_ | exact cl_ints _ | exact cl_txts _ | exact cl_nds _ | exact cl_mp _ | exact Nat.succ_pos _ | exact pl_ints _ | exact pl_txts _ | exact pl_nds _ | with_reducible refine tl_f ?_)
  · have hi : l.length ≤ i := by simpa using h
    have hd := List.drop_eq_nil_of_le hi
    cases done with
    | true =>
      have h2 := h2 rfl
      rw [hd, List.append_nil] at h2
      subst h2
      conv => whnf
      refine ⟨[], [(1000, 3)], ?_⟩
      (repeat' first | exact trivial | exact rfl | exact tl_pv rfl rfl rfl (List.cons_ne_nil _ _) | exact tl_ints rfl rfl rfl (by simp) | exact tl_txts rfl rfl rfl (by simp) | exact tl_nds rfl rfl rfl (by simp) | ((conv => whnf); first | exact trivial | exact rfl | exact .inr rfl | exact .inl ⟨rfl, rfl⟩ | apply And.intro) | refine tl_int ?_ | refine tl_bool ?_ | refine tl_str ?_ | refine tl_row rfl ?_ | exact cl_ints _ | exact cl_txts _ | exact cl_nds _ | exact cl_mp _ | exact Nat.succ_pos _ | exact pl_ints _ | exact pl_txts _ | exact pl_nds _ | with_reducible refine tl_f ?_)
    | false =>
      have h1 := h1 rfl
      rw [hd, riseF] at h1
      rw [← h1]
      conv => whnf
      refine ⟨(out ++ [n]).map intW, ⟨app_one intW out _, by simp; omega⟩, ?_⟩
      conv => whnf
      refine ⟨[], [(1000, 672)], ?_⟩
      (repeat' first | exact trivial | exact rfl | exact tl_pv rfl rfl rfl (List.cons_ne_nil _ _) | exact tl_ints rfl rfl rfl (by simp) | exact tl_txts rfl rfl rfl (by simp) | exact tl_nds rfl rfl rfl (by simp) | ((conv => whnf); first | exact trivial | exact rfl | exact .inr rfl | exact .inl ⟨rfl, rfl⟩ | apply And.intro) | refine tl_int ?_ | refine tl_bool ?_ | refine tl_str ?_ | refine tl_row rfl ?_ | exact cl_ints _ | exact cl_txts _ | exact cl_nds _ | exact cl_mp _ | exact Nat.succ_pos _ | exact pl_ints _ | exact pl_txts _ | exact pl_nds _ | with_reducible refine tl_f ?_)
      all_goals simp
end Go.Proofs.Ytfafehhallbjiaa.Ac
set_option linter.unusedVariables false
set_option linter.unusedSimpArgs false
set_option maxRecDepth 20000
set_option maxHeartbeats 2000000
namespace Go.Proofs.Ytfafehhallbjiaa.Ac
open Go.RowKit
theorem rises_len : ∀ (ks acc : List Int), (ks.foldl riseF acc).length = acc.length + ks.length
  | [], _ => rfl
  | k :: ks, acc => by rw [List.foldl_cons, rises_len ks, riseF_len, List.length_cons]; omega
theorem l11Turned_ok (a b : Dc) (ha : Rise a.nodes) (hb : Rise b.nodes) (hla : a.nodes.length < 2 ^ 27) (hlb : b.nodes.length < 2 ^ 27) (hks : ∀ n ∈ a.nodes, n.kids.length < 2 ^ 62) :
    FC Try.prog 46 [(true, dcL a), (true, dcL b)] [(1000, some ⟨0, 1, ((unA b.nodes a.nodes ++ nwB a.nodes b.nodes).foldl riseF []).map intW⟩)] [(false, [.row 1000 0 ((unA b.nodes a.nodes ++ nwB a.nodes b.nodes).foldl riseF []).length])] := by
  have lA := unA_len b.nodes
  have lB := nwB_len a.nodes
  refine gcalls_of tbl_ok mixed Try.func46 rfl Try.ntmps46 (by kernel_rfl) (Nat.le_of_ble_eq_true rfl) rfl rfl (⟨cl_ints _, trivial⟩) ?_
  conv => whnf
  refine ⟨fun (m : Nat) (es : Es) (hs : Hs) => ∃ i : Nat, m + i = a.nodes.length ∧ es = [(6, .val false [.f (iL i)]), (5, .val false [.row 3 0 ((unA b.nodes (a.nodes.take i)).foldl riseF []).length]), (3, .val false [.pt 64 0 0]), (2, .val false [.pt 48 0 0])] ∧ hs = [(3, some ⟨0, 1, ((unA b.nodes (a.nodes.take i)).foldl riseF []).map intW⟩), (64, some ⟨3, 3, [(dcL b).map .f]⟩), (48, some ⟨3, 3, [(dcL a).map .f]⟩)],
    ⟨a.nodes.length, [], [(3, 160)], _, _, ⟨?_, ?_, ?_⟩, 0, rfl, rfl, rfl⟩, ?_⟩
  · rfl
  · (repeat' first | exact trivial | exact rfl | exact tl_pv rfl rfl rfl (List.cons_ne_nil _ _) | exact tl_ints rfl rfl rfl (by simp) | exact tl_txts rfl rfl rfl (by simp) | exact tl_nds rfl rfl rfl (by simp) | ((conv => whnf); first | exact trivial | exact rfl | exact .inr rfl | exact .inl ⟨rfl, rfl⟩ | apply And.intro) | refine tl_int ?_ | refine tl_bool ?_ | refine tl_str ?_ | refine tl_row rfl ?_ | exact cl_ints _ | exact cl_txts _ | exact cl_nds _ | exact cl_mp _ | exact Nat.succ_pos _ | exact pl_ints _ | exact pl_txts _ | exact pl_nds _ | with_reducible refine tl_f ?_)
  · (repeat' first | exact trivial | exact rfl | exact tl_pv rfl rfl rfl (List.cons_ne_nil _ _) | exact tl_ints rfl rfl rfl (by simp) | exact tl_txts rfl rfl rfl (by simp) | exact tl_nds rfl rfl rfl (by simp) | ((conv => whnf); first | exact trivial | exact rfl | exact .inr rfl | exact .inl ⟨rfl, rfl⟩ | apply And.intro) | refine tl_int ?_ | refine tl_bool ?_ | refine tl_str ?_ | refine tl_row rfl ?_ | exact cl_ints _ | exact cl_txts _ | exact cl_nds _ | exact cl_mp _ | exact Nat.succ_pos _ | exact pl_ints _ | exact pl_txts _ | exact pl_nds _ | with_reducible refine tl_f ?_)
  rintro m es hs ⟨i, hm, rfl, rfl⟩
  conv => whnf
  refine ⟨fun h => ?_, fun h => ?_⟩
  · have hi : i < a.nodes.length := by simpa using h
    have hat := l02At_ok b a.nodes[i].id (by omega)
    have hst := flat_step (f := fun n => if eqB (ndAt b.nodes n.id) (some n) then [] else [n.id]) hi
    have hst : unA b.nodes (a.nodes.take (i + 1)) = unA b.nodes (a.nodes.take i) ++ if eqB (ndAt b.nodes a.nodes[i].id) (some a.nodes[i]) then [] else [a.nodes[i].id] := hst
    have hlen1 := lA (a.nodes.take i)
    rw [List.length_take] at hlen1
    have hrl := rises_len (unA b.nodes (a.nodes.take i)) []
    have hri := rise_ok ((unA b.nodes (a.nodes.take i)).foldl riseF []) a.nodes[i].id (by rw [hrl]; simp; omega)
    conv => whnf
    refine ⟨by kernel_rfl, ?_⟩
    conv => whnf
    refine ⟨(i, ndL a.nodes[i]), ⟨rfl, by simp [hi]⟩, ?_⟩
    conv => whnf
    refine ⟨([], _), hat, ?_⟩
    conv => whnf
    refine ⟨by kernel_rfl, ?_⟩
    conv => whnf
    refine ⟨by kernel_rfl, ?_⟩
    conv => whnf
    refine ⟨fun k => ?_, fun k => ?_⟩
    · have hq : ndAt b.nodes a.nodes[i].id = none := by
        cases e : ndAt b.nodes a.nodes[i].id with
        | none => rfl
        | some n => obtain ⟨x, hx, e1, _⟩ := at_some e; rw [e1] at k; omega
      rw [hq, ← eqB_no (fun e => by cases e)] at hst
      have hst2 : (unA b.nodes (a.nodes.take (i + 1))).foldl riseF [] = riseF ((unA b.nodes (a.nodes.take i)).foldl riseF []) a.nodes[i].id := by rw [hst]; simp [List.foldl_append]
      conv => whnf
      refine ⟨by kernel_rfl, ?_⟩
      conv => whnf
      refine ⟨(i, ndL a.nodes[i]), ⟨rfl, by simp [hi]⟩, ?_⟩
      conv => whnf
      refine ⟨⟨true, [], _, _, _, _⟩, hri, ?_⟩
      conv => whnf
      refine ⟨⟨?_, ?_, ?_⟩, ?_⟩
      · (repeat' first | exact trivial | exact rfl | exact tl_pv rfl rfl rfl (List.cons_ne_nil _ _) | exact tl_ints rfl rfl rfl (by simp) | exact tl_txts rfl rfl rfl (by simp) | exact tl_nds rfl rfl rfl (by simp) | ((conv => whnf); first | exact trivial | exact rfl | exact .inr rfl | exact .inl ⟨rfl, rfl⟩ | apply And.intro) | refine tl_int ?_ | refine tl_bool ?_ | refine tl_str ?_ | refine tl_row rfl ?_ | exact cl_ints _ | exact cl_txts _ | exact cl_nds _ | exact cl_mp _ | exact Nat.succ_pos _ | exact pl_ints _ | exact pl_txts _ | exact pl_nds _ | with_reducible refine tl_f ?_)
      · (repeat' first | exact trivial | exact rfl | exact tl_pv rfl rfl rfl (List.cons_ne_nil _ _) | exact tl_ints rfl rfl rfl (by simp) | exact tl_txts rfl rfl rfl (by simp) | exact tl_nds rfl rfl rfl (by simp) | ((conv => whnf); first | exact trivial | exact rfl | exact .inr rfl | exact .inl ⟨rfl, rfl⟩ | apply And.intro) | refine tl_int ?_ | refine tl_bool ?_ | refine tl_str ?_ | refine tl_row rfl ?_ | exact cl_ints _ | exact cl_txts _ | exact cl_nds _ | exact cl_mp _ | exact Nat.succ_pos _ | exact pl_ints _ | exact pl_txts _ | exact pl_nds _ | with_reducible refine tl_f ?_)
      · (repeat' first | exact trivial | exact rfl | exact tl_pv rfl rfl rfl (List.cons_ne_nil _ _) | exact tl_ints rfl rfl rfl (by simp) | exact tl_txts rfl rfl rfl (by simp) | exact tl_nds rfl rfl rfl (by simp) | ((conv => whnf); first | exact trivial | exact rfl | exact .inr rfl | exact .inl ⟨rfl, rfl⟩ | apply And.intro) | refine tl_int ?_ | refine tl_bool ?_ | refine tl_str ?_ | refine tl_row rfl ?_ | exact cl_ints _ | exact cl_txts _ | exact cl_nds _ | exact cl_mp _ | exact Nat.succ_pos _ | exact pl_ints _ | exact pl_txts _ | exact pl_nds _ | with_reducible refine tl_f ?_)
      conv => whnf
      refine ⟨m - 1, [], [(3, 784)], [(6, .val false [.f (iL (i + 1 : Nat))]), (5, .val false [.row 3 0 ((unA b.nodes (a.nodes.take (i + 1))).foldl riseF []).length]), (3, .val false [.pt 64 0 0]), (2, .val false [.pt 48 0 0])], [(3, some ⟨0, 1, ((unA b.nodes (a.nodes.take (i + 1))).foldl riseF []).map intW⟩), (64, some ⟨3, 3, [(dcL b).map .f]⟩), (48, some ⟨3, 3, [(dcL a).map .f]⟩)], by omega, ⟨?_, ?_, ?_⟩, i + 1, by omega, rfl, rfl⟩
      · rfl
      · (repeat' first | exact trivial | exact rfl | exact tl_pv rfl rfl rfl (List.cons_ne_nil _ _) | exact tl_ints rfl rfl rfl (by simp) | exact tl_txts rfl rfl rfl (by simp) | exact tl_nds rfl rfl rfl (by simp) | ((conv => whnf); first | exact trivial | exact rfl | exact .inr rfl | exact .inl ⟨rfl, rfl⟩ | apply And.intro) | refine tl_int ?_ | refine tl_bool ?_ | refine tl_str ?_ | refine tl_row rfl ?_ | exact cl_ints _ | exact cl_txts _ | exact cl_nds _ | exact cl_mp _ | exact Nat.succ_pos _ | exact pl_ints _ | exact pl_txts _ | exact pl_nds _ | with_reducible refine tl_f ?_)
        · exact wrap_suc (by omega)
        · rw [hst2]
      · (repeat' first | exact trivial | exact rfl | exact tl_pv rfl rfl rfl (List.cons_ne_nil _ _) | exact tl_ints rfl rfl rfl (by simp) | exact tl_txts rfl rfl rfl (by simp) | exact tl_nds rfl rfl rfl (by simp) | ((conv => whnf); first | exact trivial | exact rfl | exact .inr rfl | exact .inl ⟨rfl, rfl⟩ | apply And.intro) | refine tl_int ?_ | refine tl_bool ?_ | refine tl_str ?_ | refine tl_row rfl ?_ | exact cl_ints _ | exact cl_txts _ | exact cl_nds _ | exact cl_mp _ | exact Nat.succ_pos _ | exact pl_ints _ | exact pl_txts _ | exact pl_nds _ | with_reducible refine tl_f ?_)
        dsimp only
        rw [hst2]
    · obtain ⟨n, hq⟩ : ∃ n, ndAt b.nodes a.nodes[i].id = some n := by
        cases e : ndAt b.nodes a.nodes[i].id with
        | none => rw [at_none e] at k; omega
        | some n => exact ⟨n, rfl⟩
      obtain ⟨x, hx, e1, e2⟩ := at_some hq
      rw [hq] at hst
      have hs := l02SameNode_ok a.nodes[i] n (hks _ (List.getElem_mem _))
      conv => whnf
      refine ⟨(i, ndL a.nodes[i]), ⟨rfl, by simp [hi]⟩, ?_⟩
      conv => whnf
      refine ⟨(x, ndL n), ⟨e1, by simp [hx, e2]⟩, ?_⟩
      conv => whnf
      by_cases k2 : a.nodes[i] = n
      · rw [eqB_iff.2 k2] at hs
        rw [eqB_iff.2 (by rw [k2])] at hst
        refine ⟨([], _), hs, ?_⟩
        conv => whnf
        refine ⟨by kernel_rfl, ?_⟩
        conv => whnf
        refine ⟨m - 1, [], [], [(6, .val false [.f (iL (i + 1 : Nat))]), (5, .val false [.row 3 0 ((unA b.nodes (a.nodes.take (i + 1))).foldl riseF []).length]), (3, .val false [.pt 64 0 0]), (2, .val false [.pt 48 0 0])], [(3, some ⟨0, 1, ((unA b.nodes (a.nodes.take (i + 1))).foldl riseF []).map intW⟩), (64, some ⟨3, 3, [(dcL b).map .f]⟩), (48, some ⟨3, 3, [(dcL a).map .f]⟩)], by omega, ⟨?_, ?_, ?_⟩, i + 1, by omega, rfl, rfl⟩
        · rfl
        · (repeat' first | exact trivial | exact rfl | exact tl_pv rfl rfl rfl (List.cons_ne_nil _ _) | exact tl_ints rfl rfl rfl (by simp) | exact tl_txts rfl rfl rfl (by simp) | exact tl_nds rfl rfl rfl (by simp) | ((conv => whnf); first | exact trivial | exact rfl | exact .inr rfl | exact .inl ⟨rfl, rfl⟩ | apply And.intro) | refine tl_int ?_ | refine tl_bool ?_ | refine tl_str ?_ | refine tl_row rfl ?_ | exact cl_ints _ | exact cl_txts _ | exact cl_nds _ | exact cl_mp _ | exact Nat.succ_pos _ | exact pl_ints _ | exact pl_txts _ | exact pl_nds _ | with_reducible refine tl_f ?_)
          · exact wrap_suc (by omega)
          · rw [hst]; simp
        · (repeat' first | exact trivial | exact rfl | exact tl_pv rfl rfl rfl (List.cons_ne_nil _ _) | exact tl_ints rfl rfl rfl (by simp) | exact tl_txts rfl rfl rfl (by simp) | exact tl_nds rfl rfl rfl (by simp) | ((conv => whnf); first | exact trivial | exact rfl | exact .inr rfl | exact .inl ⟨rfl, rfl⟩ | apply And.intro) | refine tl_int ?_ | refine tl_bool ?_ | refine tl_str ?_ | refine tl_row rfl ?_ | exact cl_ints _ | exact cl_txts _ | exact cl_nds _ | exact cl_mp _ | exact Nat.succ_pos _ | exact pl_ints _ | exact pl_txts _ | exact pl_nds _ | with_reducible refine tl_f ?_)
          dsimp only
          rw [hst]; simp
      · rw [← eqB_no k2] at hs
        rw [← eqB_no (fun e => k2 (Option.some.inj e).symm)] at hst
        have hst2 : (unA b.nodes (a.nodes.take (i + 1))).foldl riseF [] = riseF ((unA b.nodes (a.nodes.take i)).foldl riseF []) a.nodes[i].id := by rw [hst]; simp [List.foldl_append]
        refine ⟨([], _), hs, ?_⟩
        conv => whnf
        refine ⟨by kernel_rfl, ?_⟩
        conv => whnf
        refine ⟨(i, ndL a.nodes[i]), ⟨rfl, by simp [hi]⟩, ?_⟩
        conv => whnf
        refine ⟨⟨true, [], _, _, _, _⟩, hri, ?_⟩
        conv => whnf
        refine ⟨⟨?_, ?_, ?_⟩, ?_⟩
        · (repeat' first | exact trivial | exact rfl | exact tl_pv rfl rfl rfl (List.cons_ne_nil _ _) | exact tl_ints rfl rfl rfl (by simp) | exact tl_txts rfl rfl rfl (by simp) | exact tl_nds rfl rfl rfl (by simp) | ((conv => whnf); first | exact trivial | exact rfl | exact .inr rfl | exact .inl ⟨rfl, rfl⟩ | apply And.intro) | refine tl_int ?_ | refine tl_bool ?_ | refine tl_str ?_ | refine tl_row rfl ?_ | exact cl_ints _ | exact cl_txts _ | exact cl_nds _ | exact cl_mp _ | exact Nat.succ_pos _ | exact pl_ints _ | exact pl_txts _ | exact pl_nds _ | with_reducible refine tl_f ?_)
        · (repeat' first | exact trivial | exact rfl | exact tl_pv rfl rfl rfl (List.cons_ne_nil _ _) | exact tl_ints rfl rfl rfl (by simp) | exact tl_txts rfl rfl rfl (by simp) | exact tl_nds rfl rfl rfl (by simp) | ((conv => whnf); first | exact trivial | exact rfl | exact .inr rfl | exact .inl ⟨rfl, rfl⟩ | apply And.intro) | refine tl_int ?_ | refine tl_bool ?_ | refine tl_str ?_ | refine tl_row rfl ?_ | exact cl_ints _ | exact cl_txts _ | exact cl_nds _ | exact cl_mp _ | exact Nat.succ_pos _ | exact pl_ints _ | exact pl_txts _ | exact pl_nds _ | with_reducible refine tl_f ?_)
        · (repeat' first | exact trivial | exact rfl | exact tl_pv rfl rfl rfl (List.cons_ne_nil _ _) | exact tl_ints rfl rfl rfl (by simp) | exact tl_txts rfl rfl rfl (by simp) | exact tl_nds rfl rfl rfl (by simp) | ((conv => whnf); first | exact trivial | exact rfl | exact .inr rfl | exact .inl ⟨rfl, rfl⟩ | apply And.intro) | refine tl_int ?_ | refine tl_bool ?_ | refine tl_str ?_ | refine tl_row rfl ?_ | exact cl_ints _ | exact cl_txts _ | exact cl_nds _ | exact cl_mp _ | exact Nat.succ_pos _ | exact pl_ints _ | exact pl_txts _ | exact pl_nds _ | with_reducible refine tl_f ?_)
        conv => whnf
        refine ⟨m - 1, [], [(3, 784)], [(6, .val false [.f (iL (i + 1 : Nat))]), (5, .val false [.row 3 0 ((unA b.nodes (a.nodes.take (i + 1))).foldl riseF []).length]), (3, .val false [.pt 64 0 0]), (2, .val false [.pt 48 0 0])], [(3, some ⟨0, 1, ((unA b.nodes (a.nodes.take (i + 1))).foldl riseF []).map intW⟩), (64, some ⟨3, 3, [(dcL b).map .f]⟩), (48, some ⟨3, 3, [(dcL a).map .f]⟩)], by omega, ⟨?_, ?_, ?_⟩, i + 1, by omega, rfl, rfl⟩
        · rfl
        · (repeat' first | exact trivial | exact rfl | exact tl_pv rfl rfl rfl (List.cons_ne_nil _ _) | exact tl_ints rfl rfl rfl (by simp) | exact tl_txts rfl rfl rfl (by simp) | exact tl_nds rfl rfl rfl (by simp) | ((conv => whnf); first | exact trivial | exact rfl | exact .inr rfl | exact .inl ⟨rfl, rfl⟩ | apply And.intro) | refine tl_int ?_ | refine tl_bool ?_ | refine tl_str ?_ | refine tl_row rfl ?_ | exact cl_ints _ | exact cl_txts _ | exact cl_nds _ | exact cl_mp _ | exact Nat.succ_pos _ | exact pl_ints _ | exact pl_txts _ | exact pl_nds _ | with_reducible refine tl_f ?_)
          · exact wrap_suc (by omega)
          · rw [hst2]
        · (repeat' first | exact trivial | exact rfl | exact tl_pv rfl rfl rfl (List.cons_ne_nil _ _) | exact tl_ints rfl rfl rfl (by simp) | exact tl_txts rfl rfl rfl (by simp) | exact tl_nds rfl rfl rfl (by simp) | ((conv => whnf); first | exact trivial | exact rfl | exact .inr rfl | exact .inl ⟨rfl, rfl⟩ | apply And.intro) | refine tl_int ?_ | refine tl_bool ?_ | refine tl_str ?_ | refine tl_row rfl ?_ | exact cl_ints _ | exact cl_txts _ | exact cl_nds _ | exact cl_mp _ | exact Nat.succ_pos _ | exact pl_ints _ | exact pl_txts _ | exact pl_nds _ | with_reducible refine tl_f ?_)
          dsimp only
          rw [hst2]
  · have hi : a.nodes.length ≤ i := by simpa using h
    rw [List.take_of_length_le hi]
    conv => whnf
    refine ⟨fun (m : Nat) (es : Es) (hs : Hs) => ∃ i : Nat, m + i = b.nodes.length ∧ es = [(8, .val false [.f (iL i)]), (5, .val false [.row 3 0 ((unA b.nodes a.nodes ++ nwB a.nodes (b.nodes.take i)).foldl riseF []).length]), (3, .val false [.pt 64 0 0]), (2, .val false [.pt 48 0 0])] ∧ hs = [(3, some ⟨0, 1, ((unA b.nodes a.nodes ++ nwB a.nodes (b.nodes.take i)).foldl riseF []).map intW⟩), (64, some ⟨3, 3, [(dcL b).map .f]⟩), (48, some ⟨3, 3, [(dcL a).map .f]⟩)],
      ⟨b.nodes.length, [], [], _, _, ⟨?_, ?_, ?_⟩, 0, rfl, rfl, rfl⟩, ?_⟩
    · rfl
    · (repeat' first | exact trivial | exact rfl | exact tl_pv rfl rfl rfl (List.cons_ne_nil _ _) | exact tl_ints rfl rfl rfl (by simp) | exact tl_txts rfl rfl rfl (by simp) | exact tl_nds rfl rfl rfl (by simp) | ((conv => whnf); first | exact trivial | exact rfl | exact .inr rfl | exact .inl ⟨rfl, rfl⟩ | apply And.intro) | refine tl_int ?_ | refine tl_bool ?_ | refine tl_str ?_ | refine tl_row rfl ?_ | exact cl_ints _ | exact cl_txts _ | exact cl_nds _ | exact cl_mp _ | exact Nat.succ_pos _ | exact pl_ints _ | exact pl_txts _ | exact pl_nds _ | with_reducible refine tl_f ?_)
      all_goals simp [nwB]
    · (repeat' first | exact trivial | exact rfl | exact tl_pv rfl rfl rfl (List.cons_ne_nil _ _) | exact tl_ints rfl rfl rfl (by simp) | exact tl_txts rfl rfl rfl (by simp) | exact tl_nds rfl rfl rfl (by simp) | ((conv => whnf); first | exact trivial | exact rfl | exact .inr rfl | exact .inl ⟨rfl, rfl⟩ | apply And.intro) | refine tl_int ?_ | refine tl_bool ?_ | refine tl_str ?_ | refine tl_row rfl ?_ | exact cl_ints _ | exact cl_txts _ | exact cl_nds _ | exact cl_mp _ | exact Nat.succ_pos _ | exact pl_ints _ | exact pl_txts _ | exact pl_nds _ | with_reducible refine tl_f ?_)
      all_goals simp [nwB]
    clear hm h hi
    rintro m es hs ⟨i, hm, rfl, rfl⟩
    conv => whnf
    refine ⟨fun h => ?_, fun h => ?_⟩
    · have hi : i < b.nodes.length := by simpa using h
      have hat := l02At_ok a b.nodes[i].id (by omega)
      have hst := flat_step (f := fun n => if (ndAt a.nodes n.id).isSome then [] else [n.id]) hi
      have hst : nwB a.nodes (b.nodes.take (i + 1)) = nwB a.nodes (b.nodes.take i) ++ if (ndAt a.nodes b.nodes[i].id).isSome then [] else [b.nodes[i].id] := hst
      have hlen1 := lA a.nodes
      have hlen2 := lB (b.nodes.take i)
      rw [List.length_take] at hlen2
      have hrl := rises_len (unA b.nodes a.nodes ++ nwB a.nodes (b.nodes.take i)) []
      have hri := rise_ok ((unA b.nodes a.nodes ++ nwB a.nodes (b.nodes.take i)).foldl riseF []) b.nodes[i].id (by rw [hrl]; simp; omega)
      conv => whnf
      refine ⟨by kernel_rfl, ?_⟩
      conv => whnf
      refine ⟨(i, ndL b.nodes[i]), ⟨rfl, by simp [hi]⟩, ?_⟩
      conv => whnf
      refine ⟨([], _), hat, ?_⟩
      conv => whnf
      refine ⟨fun k => ?_, fun k => ?_⟩
      · have hq : ndAt a.nodes b.nodes[i].id = none := by
          cases e : ndAt a.nodes b.nodes[i].id with
          | none => rfl
          | some n => obtain ⟨x, hx, e1, _⟩ := at_some e; rw [e1] at k; omega
        rw [hq] at hst
        have hst2 : (unA b.nodes a.nodes ++ nwB a.nodes (b.nodes.take (i + 1))).foldl riseF [] = riseF ((unA b.nodes a.nodes ++ nwB a.nodes (b.nodes.take i)).foldl riseF []) b.nodes[i].id := by rw [hst]; simp [List.foldl_append]
        conv => whnf
        refine ⟨by kernel_rfl, ?_⟩
        conv => whnf
        refine ⟨(i, ndL b.nodes[i]), ⟨rfl, by simp [hi]⟩, ?_⟩
        conv => whnf
        refine ⟨⟨true, [], _, _, _, _⟩, hri, ?_⟩
        conv => whnf
        refine ⟨⟨?_, ?_, ?_⟩, ?_⟩
        · (repeat' first | exact trivial | exact rfl | exact tl_pv rfl rfl rfl (List.cons_ne_nil _ _) | exact tl_ints rfl rfl rfl (by simp) | exact tl_txts rfl rfl rfl (by simp) | exact tl_nds rfl rfl rfl (by simp) | ((conv => whnf); first | exact trivial | exact rfl | exact .inr rfl | exact .inl ⟨rfl, rfl⟩ | apply And.intro) | refine tl_int ?_ | refine tl_bool ?_ | refine tl_str ?_ | refine tl_row rfl ?_ | exact cl_ints _ | exact cl_txts _ | exact cl_nds _ | exact cl_mp _ | exact Nat.succ_pos _ | exact pl_ints _ | exact pl_txts _ | exact pl_nds _ | with_reducible refine tl_f ?_)
        · (repeat' first | exact trivial | exact rfl | exact tl_pv rfl rfl rfl (List.cons_ne_nil _ _) | exact tl_ints rfl rfl rfl (by simp) | exact tl_txts rfl rfl rfl (by simp) | exact tl_nds rfl rfl rfl (by simp) | ((conv => whnf); first | exact trivial | exact rfl | exact .inr rfl | exact .inl ⟨rfl, rfl⟩ | apply And.intro) | refine tl_int ?_ | refine tl_bool ?_ | refine tl_str ?_ | refine tl_row rfl ?_ | exact cl_ints _ | exact cl_txts _ | exact cl_nds _ | exact cl_mp _ | exact Nat.succ_pos _ | exact pl_ints _ | exact pl_txts _ | exact pl_nds _ | with_reducible refine tl_f ?_)
        · (repeat' first | exact trivial | exact rfl | exact tl_pv rfl rfl rfl (List.cons_ne_nil _ _) | exact tl_ints rfl rfl rfl (by simp) | exact tl_txts rfl rfl rfl (by simp) | exact tl_nds rfl rfl rfl (by simp) | ((conv => whnf); first | exact trivial | exact rfl | exact .inr rfl | exact .inl ⟨rfl, rfl⟩ | apply And.intro) | refine tl_int ?_ | refine tl_bool ?_ | refine tl_str ?_ | refine tl_row rfl ?_ | exact cl_ints _ | exact cl_txts _ | exact cl_nds _ | exact cl_mp _ | exact Nat.succ_pos _ | exact pl_ints _ | exact pl_txts _ | exact pl_nds _ | with_reducible refine tl_f ?_)
        conv => whnf
        refine ⟨m - 1, [], [(3, 1168)], [(8, .val false [.f (iL (i + 1 : Nat))]), (5, .val false [.row 3 0 ((unA b.nodes a.nodes ++ nwB a.nodes (b.nodes.take (i + 1))).foldl riseF []).length]), (3, .val false [.pt 64 0 0]), (2, .val false [.pt 48 0 0])], [(3, some ⟨0, 1, ((unA b.nodes a.nodes ++ nwB a.nodes (b.nodes.take (i + 1))).foldl riseF []).map intW⟩), (64, some ⟨3, 3, [(dcL b).map .f]⟩), (48, some ⟨3, 3, [(dcL a).map .f]⟩)], by omega, ⟨?_, ?_, ?_⟩, i + 1, by omega, rfl, rfl⟩
        · rfl
        · (repeat' first | exact trivial | exact rfl | exact tl_pv rfl rfl rfl (List.cons_ne_nil _ _) | exact tl_ints rfl rfl rfl (by simp) | exact tl_txts rfl rfl rfl (by simp) | exact tl_nds rfl rfl rfl (by simp) | ((conv => whnf); first | exact trivial | exact rfl | exact .inr rfl | exact .inl ⟨rfl, rfl⟩ | apply And.intro) | refine tl_int ?_ | refine tl_bool ?_ | refine tl_str ?_ | refine tl_row rfl ?_ | exact cl_ints _ | exact cl_txts _ | exact cl_nds _ | exact cl_mp _ | exact Nat.succ_pos _ | exact pl_ints _ | exact pl_txts _ | exact pl_nds _ | with_reducible refine tl_f ?_)
          · exact wrap_suc (by omega)
          · rw [hst2]
        · (repeat' first | exact trivial | exact rfl | exact tl_pv rfl rfl rfl (List.cons_ne_nil _ _) | exact tl_ints rfl rfl rfl (by simp) | exact tl_txts rfl rfl rfl (by simp) | exact tl_nds rfl rfl rfl (by simp) | ((conv => whnf); first | exact trivial | exact rfl | exact .inr rfl | exact .inl ⟨rfl, rfl⟩ | apply And.intro) | refine tl_int ?_ | refine tl_bool ?_ | refine tl_str ?_ | refine tl_row rfl ?_ | exact cl_ints _ | exact cl_txts _ | exact cl_nds _ | exact cl_mp _ | exact Nat.succ_pos _ | exact pl_ints _ | exact pl_txts _ | exact pl_nds _ | with_reducible refine tl_f ?_)
          dsimp only
          rw [hst2]
      · have hq : (ndAt a.nodes b.nodes[i].id).isSome := by
          cases e : ndAt a.nodes b.nodes[i].id with
          | none => rw [at_none e] at k; omega
          | some n => rfl
        rw [hq] at hst
        conv => whnf
        refine ⟨by kernel_rfl, ?_⟩
        conv => whnf
        refine ⟨m - 1, [], [], [(8, .val false [.f (iL (i + 1 : Nat))]), (5, .val false [.row 3 0 ((unA b.nodes a.nodes ++ nwB a.nodes (b.nodes.take (i + 1))).foldl riseF []).length]), (3, .val false [.pt 64 0 0]), (2, .val false [.pt 48 0 0])], [(3, some ⟨0, 1, ((unA b.nodes a.nodes ++ nwB a.nodes (b.nodes.take (i + 1))).foldl riseF []).map intW⟩), (64, some ⟨3, 3, [(dcL b).map .f]⟩), (48, some ⟨3, 3, [(dcL a).map .f]⟩)], by omega, ⟨?_, ?_, ?_⟩, i + 1, by omega, rfl, rfl⟩
        · rfl
        · (repeat' first | exact trivial | exact rfl | exact tl_pv rfl rfl rfl (List.cons_ne_nil _ _) | exact tl_ints rfl rfl rfl (by simp) | exact tl_txts rfl rfl rfl (by simp) | exact tl_nds rfl rfl rfl (by simp) | ((conv => whnf); first | exact trivial | exact rfl | exact .inr rfl | exact .inl ⟨rfl, rfl⟩ | apply And.intro) | refine tl_int ?_ | refine tl_bool ?_ | refine tl_str ?_ | refine tl_row rfl ?_ | exact cl_ints _ | exact cl_txts _ | exact cl_nds _ | exact cl_mp _ | exact Nat.succ_pos _ | exact pl_ints _ | exact pl_txts _ | exact pl_nds _ | with_reducible refine tl_f ?_)
          · exact wrap_suc (by omega)
          · rw [hst]; simp
        · (repeat' first | exact trivial | exact rfl | exact tl_pv rfl rfl rfl (List.cons_ne_nil _ _) | exact tl_ints rfl rfl rfl (by simp) | exact tl_txts rfl rfl rfl (by simp) | exact tl_nds rfl rfl rfl (by simp) | ((conv => whnf); first | exact trivial | exact rfl | exact .inr rfl | exact .inl ⟨rfl, rfl⟩ | apply And.intro) | refine tl_int ?_ | refine tl_bool ?_ | refine tl_str ?_ | refine tl_row rfl ?_ | exact cl_ints _ | exact cl_txts _ | exact cl_nds _ | exact cl_mp _ | exact Nat.succ_pos _ | exact pl_ints _ | exact pl_txts _ | exact pl_nds _ | with_reducible refine tl_f ?_)
          dsimp only
          rw [hst]; simp
    · have hi : b.nodes.length ≤ i := by simpa using h
      rw [List.take_of_length_le hi]
      conv => whnf
      refine ⟨[], [(1000, 3)], ?_⟩
      (repeat' first | exact trivial | exact rfl | exact tl_pv rfl rfl rfl (List.cons_ne_nil _ _) | exact tl_ints rfl rfl rfl (by simp) | exact tl_txts rfl rfl rfl (by simp) | exact tl_nds rfl rfl rfl (by simp) | ((conv => whnf); first | exact trivial | exact rfl | exact .inr rfl | exact .inl ⟨rfl, rfl⟩ | apply And.intro) | refine tl_int ?_ | refine tl_bool ?_ | refine tl_str ?_ | refine tl_row rfl ?_ | exact cl_ints _ | exact cl_txts _ | exact cl_nds _ | exact cl_mp _ | exact Nat.succ_pos _ | exact pl_ints _ | exact pl_txts _ | exact pl_nds _ | with_reducible refine tl_f ?_)
end Go.Proofs.Ytfafehhallbjiaa.Ac
set_option linter.unusedVariables false
set_option linter.unusedSimpArgs false
namespace Go.Proofs.Ytfafehhallbjiaa.Ac
theorem riseF_perm (n : Int) : ∀ l : List Int, (riseF l n).Perm (n :: l)
  | [] => .refl _
  | x :: l => by
    simp only [riseF]
    split
    · exact .refl _
    · exact (List.Perm.cons x (riseF_perm n l)).trans (List.Perm.swap n x l)
theorem riseF_sorted (n : Int) : ∀ l : List Int, l.Pairwise (· ≤ ·) → (riseF l n).Pairwise (· ≤ ·)
  | [], _ => by simp [riseF]
  | x :: l, h => by
    obtain ⟨h1, h2⟩ := List.pairwise_cons.1 h
    simp only [riseF]
    split
    · rename_i hx
      refine List.pairwise_cons.2 ⟨fun y hy => ?_, h⟩
      rcases List.mem_cons.1 hy with rfl | hy
      · omega
      · have := h1 y hy; omega
    · rename_i hx
      refine List.pairwise_cons.2 ⟨fun y hy => ?_, riseF_sorted n l h2⟩
      rcases List.mem_cons.1 ((riseF_perm n l).mem_iff.1 hy) with rfl | hy
      · omega
      · exact h1 y hy
theorem sorted_eq : ∀ {l m : List Int}, l.Perm m → l.Pairwise (· ≤ ·) → m.Pairwise (· ≤ ·) → l = m
  | [], m, h, _, _ => (List.Perm.nil_eq h)
  | x :: l, [], h, _, _ => (List.Perm.eq_nil h)
  | x :: l, y :: m, h, hl, hm => by
    obtain ⟨a1, a2⟩ := List.pairwise_cons.1 hl
    obtain ⟨b1, b2⟩ := List.pairwise_cons.1 hm
    have hxy : x = y := by
      have h1 : x ∈ y :: m := h.mem_iff.1 (by simp)
      have h2 : y ∈ x :: l := h.mem_iff.2 (by simp)
      rcases List.mem_cons.1 h1 with e | h1
      · exact e
      · rcases List.mem_cons.1 h2 with e | h2
        · exact e.symm
        · have := b1 x h1; have := a1 y h2; omega
    subst hxy
    rw [sorted_eq (List.Perm.cons_inv h) a2 b2]
theorem rises_perm : ∀ (ks acc : List Int), (ks.foldl riseF acc).Perm (ks ++ acc)
  | [], acc => .refl _
  | k :: ks, acc => by
    rw [List.foldl_cons]
    refine (rises_perm ks _).trans ?_
    refine (List.Perm.append_left ks (riseF_perm k acc)).trans ?_
    exact List.perm_middle
theorem rises_sorted : ∀ (ks acc : List Int), acc.Pairwise (· ≤ ·) → (ks.foldl riseF acc).Pairwise (· ≤ ·)
  | [], acc, h => h
  | k :: ks, acc, h => by rw [List.foldl_cons]; exact rises_sorted ks _ (riseF_sorted k acc h)
theorem rises_sort (ks : List Int) : ks.foldl riseF [] = sortI ks := by
  refine sorted_eq ?_ (rises_sorted ks [] List.Pairwise.nil) ?_
  · have h1 := rises_perm ks []
    rw [List.append_nil] at h1
    exact h1.trans (List.mergeSort_perm ks _).symm
  · have := List.pairwise_mergeSort (le := fun x y : Int => decide (x ≤ y)) (fun a b c h1 h2 => by simp at *; omega) (fun a b => by simp; omega) ks
    unfold sortI
    exact this.imp fun h => by simpa using h
end Go.Proofs.Ytfafehhallbjiaa.Ac
set_option linter.unusedVariables false
set_option linter.unusedSimpArgs false
namespace Go.Proofs.Ytfafehhallbjiaa.Ac
theorem Fits.mono {l : List Nd} : ∀ {k : Nat} {id : Int}, Fits l k id → Fits l (k + 1) id
  | 0, _, h => h.elim
  | k + 1, id, ⟨n, hn, h⟩ => ⟨n, hn, fun c hc => (h c hc).mono⟩
theorem Fits.sub {l : List Nd} : ∀ {k : Nat} {id x : Int}, Fits l k id → x ∈ orderF l k id → Fits l k x
  | 0, _, _, h, _ => h.elim
  | k + 1, id, x, ⟨n, hn, h⟩, hx => by
    rw [orderF, kidsAt_some hn, List.mem_cons] at hx
    rcases hx with rfl | hx
    · exact ⟨n, hn, h⟩
    · obtain ⟨c, hc, hx⟩ := List.mem_flatMap.1 hx
      exact ((h c hc).sub hx).mono
theorem DOK.all {d : Dc} (h : DOK d) {x : Int} (hx : (ndAt d.nodes x).isSome) : x ∈ orderF d.nodes 6 d.root := by
  have hT := h.tree
  have hnd := ord_nodup hT 6 d.root hT.top ⟨0, rfl⟩
  have hsub : ∀ x ∈ orderF d.nodes 6 d.root, x ∈ d.nodes.map (·.id) := fun x hx => by
    obtain ⟨_, _, hp⟩ := ord_up hT 6 d.root x hT.top hx
    obtain ⟨n, hn⟩ := Option.isSome_iff_exists.1 hp
    obtain ⟨h1, rfl⟩ := ndAt_mem hn
    exact List.mem_map.2 ⟨_, h1, rfl⟩
  obtain ⟨n, hn⟩ := Option.isSome_iff_exists.1 hx
  obtain ⟨h1, rfl⟩ := ndAt_mem hn
  exact sub_eq hnd hsub (by rw [List.length_map, h.2.2.2.2.2]; exact Nat.le_refl _) n.id (List.mem_map.2 ⟨_, h1, rfl⟩)
end Go.Proofs.Ytfafehhallbjiaa.Ac
set_option linter.unusedVariables false
set_option linter.unusedSimpArgs false
set_option maxRecDepth 20000
set_option maxHeartbeats 2000000
namespace Go.Proofs.Ytfafehhallbjiaa.Ac
open Go.RowKit
noncomputable def trn (a b : Dc) : List Int := sortI (unA b.nodes a.nodes ++ nwB a.nodes b.nodes)
theorem trn_len (a b : Dc) : (trn a b).length ≤ a.nodes.length + b.nodes.length := by
  unfold trn
  have := unA_len b.nodes a.nodes
  have := nwB_len a.nodes b.nodes
  rw [sortI_len, List.length_append]; omega
theorem DOK.kl {d : Dc} (h : DOK d) : ∀ n ∈ d.nodes, n.kids.length ≤ 12 := fun n hn => by
  obtain ⟨t, ht, rfl⟩ := List.mem_iff_getElem.1 hn
  exact (h.2.2.1 t ht).1.2.2.2.2
end Go.Proofs.Ytfafehhallbjiaa.Ac
set_option linter.unusedVariables false
set_option linter.unusedSimpArgs false
set_option maxRecDepth 20000
set_option maxHeartbeats 8000000
namespace Go.Proofs.Ytfafehhallbjiaa.Ac
open Go.RowKit
theorem docOK_ok (d : Dc) (h64 : Dc64 d) : FC Try.prog 36 [(true, dcL d)] [] [(false, [.f (bL (dokB d))])] := by
  by_cases c1 : 1 ≤ (d.nodes.length : Int) ∧ (d.nodes.length : Int) ≤ 40
  rotate_left
  · rw [dokB_no fun h => c1 (by have := h.1; omega)]
    refine gcalls_of tbl_ok mixed Try.func36 rfl Try.ntmps36 (by kernel_rfl) (Nat.le_of_ble_eq_true rfl) rfl rfl trivial ?_
    conv => whnf
    refine ⟨([], _), within_f (by simpa using c1), ?_⟩
    conv => whnf
    refine ⟨[], [], ?_⟩
    (repeat' first | exact trivial | exact rfl | exact tl_pv rfl rfl rfl (List.cons_ne_nil _ _) | exact tl_ints rfl rfl rfl (by simp) | exact tl_txts rfl rfl rfl (by simp) | exact tl_nds rfl rfl rfl (by simp) | ((conv => whnf); first | exact trivial | exact rfl | exact .inr rfl | exact .inl ⟨rfl, rfl⟩ | apply And.intro) | refine tl_int ?_ | refine tl_bool ?_ | refine tl_str ?_ | refine tl_row rfl ?_ | exact cl_ints _ | exact cl_txts _ | exact cl_nds _ | exact cl_mp _ | exact Nat.succ_pos _ | exact pl_ints _ | exact pl_txts _ | exact pl_nds _ | with_reducible refine tl_f ?_)
  by_cases c2 : 2 ≤ d.next ∧ d.next ≤ 999999
  rotate_left
  · rw [dokB_no fun h => c2 h.2.1]
    refine gcalls_of tbl_ok mixed Try.func36 rfl Try.ntmps36 (by kernel_rfl) (Nat.le_of_ble_eq_true rfl) rfl rfl trivial ?_
    conv => whnf
    refine ⟨([], _), within_t (by simpa using c1), ?_⟩
    conv => whnf
    refine ⟨([], _), within_f c2, ?_⟩
    conv => whnf
    refine ⟨[], [], ?_⟩
    (repeat' first | exact trivial | exact rfl | exact tl_pv rfl rfl rfl (List.cons_ne_nil _ _) | exact tl_ints rfl rfl rfl (by simp) | exact tl_txts rfl rfl rfl (by simp) | exact tl_nds rfl rfl rfl (by simp) | ((conv => whnf); first | exact trivial | exact rfl | exact .inr rfl | exact .inl ⟨rfl, rfl⟩ | apply And.intro) | refine tl_int ?_ | refine tl_bool ?_ | refine tl_str ?_ | refine tl_row rfl ?_ | exact cl_ints _ | exact cl_txts _ | exact cl_nds _ | exact cl_mp _ | exact Nat.succ_pos _ | exact pl_ints _ | exact pl_txts _ | exact pl_nds _ | with_reducible refine tl_f ?_)
  refine gcalls_of tbl_ok mixed Try.func36 rfl Try.ntmps36 (by kernel_rfl) (Nat.le_of_ble_eq_true rfl) rfl rfl trivial ?_
  conv => whnf
  refine ⟨([], _), within_t (by simpa using c1), ?_⟩
  conv => whnf
  refine ⟨([], _), within_t c2, ?_⟩
  conv => whnf
  refine ⟨fun (m : Nat) (es : Es) (hs : Hs) => ∃ i : Nat, m + i = d.nodes.length ∧ (∀ t (h : t < d.nodes.length), t < i → StepOK d.next d.nodes t h) ∧ es = [(24, .val false [.f (iL i)]), (23, .val false [.f (iL d.nodes.length)]), (22, .val false [.f (nds d.nodes)]), (1, .val false [.pt 32 0 0])] ∧ hs = [(32, some ⟨3, 3, [(dcL d).map .f]⟩)],
    ⟨d.nodes.length, [], [], _, _, ⟨?_, ?_, ?_⟩, 0, rfl, fun t h h' => by omega, rfl, rfl⟩, ?_⟩
  · rfl
  · (repeat' first | exact trivial | exact rfl | exact tl_pv rfl rfl rfl (List.cons_ne_nil _ _) | exact tl_ints rfl rfl rfl (by simp) | exact tl_txts rfl rfl rfl (by simp) | exact tl_nds rfl rfl rfl (by simp) | ((conv => whnf); first | exact trivial | exact rfl | exact .inr rfl | exact .inl ⟨rfl, rfl⟩ | apply And.intro) | refine tl_int ?_ | refine tl_bool ?_ | refine tl_str ?_ | refine tl_row rfl ?_ | exact cl_ints _ | exact cl_txts _ | exact cl_nds _ | exact cl_mp _ | exact Nat.succ_pos _ | exact pl_ints _ | exact pl_txts _ | exact pl_nds _ | with_reducible refine tl_f ?_)
    simp
  · (repeat' first | exact trivial | exact rfl | exact tl_pv rfl rfl rfl (List.cons_ne_nil _ _) | exact tl_ints rfl rfl rfl (by simp) | exact tl_txts rfl rfl rfl (by simp) | exact tl_nds rfl rfl rfl (by simp) | ((conv => whnf); first | exact trivial | exact rfl | exact .inr rfl | exact .inl ⟨rfl, rfl⟩ | apply And.intro) | refine tl_int ?_ | refine tl_bool ?_ | refine tl_str ?_ | refine tl_row rfl ?_ | exact cl_ints _ | exact cl_txts _ | exact cl_nds _ | exact cl_mp _ | exact Nat.succ_pos _ | exact pl_ints _ | exact pl_txts _ | exact pl_nds _ | with_reducible refine tl_f ?_)
  rintro m es hs ⟨i, hm, hst, rfl, rfl⟩
  conv => whnf
  refine ⟨fun h => ?_, fun h => ?_⟩
  · have hi : i < d.nodes.length := by omega
    conv => whnf
    refine ⟨(i, ndL d.nodes[i]), ⟨rfl, by simp [hi]⟩, ?_⟩
    conv => whnf
    refine ⟨by kernel_rfl, ?_⟩
    have hw : IntKind.i64.wrap (d.next - 1) = d.next - 1 := by rw [IntKind.wrap_i64]; omega
    conv => whnf
    by_cases k1 : 1 ≤ d.nodes[i].id ∧ d.nodes[i].id ≤ d.next - 1
    rotate_left
    · refine ⟨([], _), within_f (by rw [hw]; exact k1), ?_⟩
      conv => whnf
      refine ⟨by kernel_rfl, ?_⟩
      conv => whnf
      refine ⟨[], [], ?_⟩
      (repeat' first | exact trivial | exact rfl | exact tl_pv rfl rfl rfl (List.cons_ne_nil _ _) | exact tl_ints rfl rfl rfl (by simp) | exact tl_txts rfl rfl rfl (by simp) | exact tl_nds rfl rfl rfl (by simp) | ((conv => whnf); first | exact trivial | exact rfl | exact .inr rfl | exact .inl ⟨rfl, rfl⟩ | apply And.intro) | refine tl_int ?_ | refine tl_bool ?_ | refine tl_str ?_ | refine tl_row rfl ?_ | exact cl_ints _ | exact cl_txts _ | exact cl_nds _ | exact cl_mp _ | exact Nat.succ_pos _ | exact pl_ints _ | exact pl_txts _ | exact pl_nds _ | with_reducible refine tl_f ?_)
      exact (dokB_no fun h => k1 (h.2.2.1 i hi).1.1).symm
    refine ⟨([], _), within_t (by rw [hw]; exact k1), ?_⟩
    conv => whnf
    refine ⟨fun k0 => ?_, fun k0 => ?_⟩
    · have hi1 : i - 1 < d.nodes.length := by omega
      conv => whnf
      refine ⟨(i - 1, ndL d.nodes[i - 1]), ⟨?_, by simp [hi1]⟩, ?_⟩
      · rw [IntKind.wrap_i64]; omega
      conv => whnf
      refine ⟨fun k2 => ?_, fun k2 => ?_⟩
      · skip
        conv => whnf
        refine ⟨by kernel_rfl, ?_⟩
        conv => whnf
        refine ⟨[], [], ?_⟩
        (repeat' first | exact trivial | exact rfl | exact tl_pv rfl rfl rfl (List.cons_ne_nil _ _) | exact tl_ints rfl rfl rfl (by simp) | exact tl_txts rfl rfl rfl (by simp) | exact tl_nds rfl rfl rfl (by simp) | ((conv => whnf); first | exact trivial | exact rfl | exact .inr rfl | exact .inl ⟨rfl, rfl⟩ | apply And.intro) | refine tl_int ?_ | refine tl_bool ?_ | refine tl_str ?_ | refine tl_row rfl ?_ | exact cl_ints _ | exact cl_txts _ | exact cl_nds _ | exact cl_mp _ | exact Nat.succ_pos _ | exact pl_ints _ | exact pl_txts _ | exact pl_nds _ | with_reducible refine tl_f ?_)
        exact (dokB_no fun h => by have := (h.2.2.1 i hi).2 (i - 1) (by omega); omega).symm
      conv => whnf
      by_cases k3 : 1 ≤ d.nodes[i].kind ∧ d.nodes[i].kind ≤ 8
      rotate_left
      · refine ⟨([], _), within_f k3, ?_⟩
        conv => whnf
        refine ⟨by kernel_rfl, ?_⟩
        conv => whnf
        refine ⟨[], [], ?_⟩
        (repeat' first | exact trivial | exact rfl | exact tl_pv rfl rfl rfl (List.cons_ne_nil _ _) | exact tl_ints rfl rfl rfl (by simp) | exact tl_txts rfl rfl rfl (by simp) | exact tl_nds rfl rfl rfl (by simp) | ((conv => whnf); first | exact trivial | exact rfl | exact .inr rfl | exact .inl ⟨rfl, rfl⟩ | apply And.intro) | refine tl_int ?_ | refine tl_bool ?_ | refine tl_str ?_ | refine tl_row rfl ?_ | exact cl_ints _ | exact cl_txts _ | exact cl_nds _ | exact cl_mp _ | exact Nat.succ_pos _ | exact pl_ints _ | exact pl_txts _ | exact pl_nds _ | with_reducible refine tl_f ?_)
        exact (dokB_no fun h => k3 (h.2.2.1 i hi).1.2.1).symm
      refine ⟨([], _), within_t k3, ?_⟩
      conv => whnf
      by_cases k4 : 0 ≤ d.nodes[i].attr ∧ d.nodes[i].attr ≤ 99
      rotate_left
      · refine ⟨([], _), within_f k4, ?_⟩
        conv => whnf
        refine ⟨by kernel_rfl, ?_⟩
        conv => whnf
        refine ⟨[], [], ?_⟩
        (repeat' first | exact trivial | exact rfl | exact tl_pv rfl rfl rfl (List.cons_ne_nil _ _) | exact tl_ints rfl rfl rfl (by simp) | exact tl_txts rfl rfl rfl (by simp) | exact tl_nds rfl rfl rfl (by simp) | ((conv => whnf); first | exact trivial | exact rfl | exact .inr rfl | exact .inl ⟨rfl, rfl⟩ | apply And.intro) | refine tl_int ?_ | refine tl_bool ?_ | refine tl_str ?_ | refine tl_row rfl ?_ | exact cl_ints _ | exact cl_txts _ | exact cl_nds _ | exact cl_mp _ | exact Nat.succ_pos _ | exact pl_ints _ | exact pl_txts _ | exact pl_nds _ | with_reducible refine tl_f ?_)
        exact (dokB_no fun h => k4 (h.2.2.1 i hi).1.2.2.1).symm
      refine ⟨([], _), within_t k4, ?_⟩
      conv => whnf
      refine ⟨fun k5 => ?_, fun k5 => ?_⟩
      · skip
        conv => whnf
        refine ⟨by kernel_rfl, ?_⟩
        conv => whnf
        refine ⟨[], [], ?_⟩
        (repeat' first | exact trivial | exact rfl | exact tl_pv rfl rfl rfl (List.cons_ne_nil _ _) | exact tl_ints rfl rfl rfl (by simp) | exact tl_txts rfl rfl rfl (by simp) | exact tl_nds rfl rfl rfl (by simp) | ((conv => whnf); first | exact trivial | exact rfl | exact .inr rfl | exact .inl ⟨rfl, rfl⟩ | apply And.intro) | refine tl_int ?_ | refine tl_bool ?_ | refine tl_str ?_ | refine tl_row rfl ?_ | exact cl_ints _ | exact cl_txts _ | exact cl_nds _ | exact cl_mp _ | exact Nat.succ_pos _ | exact pl_ints _ | exact pl_txts _ | exact pl_nds _ | with_reducible refine tl_f ?_)
        exact (dokB_no fun h => by have := (h.2.2.1 i hi).1.2.2.2.1; omega).symm
      conv => whnf
      refine ⟨fun k6 => ?_, fun k6 => ?_⟩
      · skip
        conv => whnf
        refine ⟨by kernel_rfl, ?_⟩
        conv => whnf
        refine ⟨[], [], ?_⟩
        (repeat' first | exact trivial | exact rfl | exact tl_pv rfl rfl rfl (List.cons_ne_nil _ _) | exact tl_ints rfl rfl rfl (by simp) | exact tl_txts rfl rfl rfl (by simp) | exact tl_nds rfl rfl rfl (by simp) | ((conv => whnf); first | exact trivial | exact rfl | exact .inr rfl | exact .inl ⟨rfl, rfl⟩ | apply And.intro) | refine tl_int ?_ | refine tl_bool ?_ | refine tl_str ?_ | refine tl_row rfl ?_ | exact cl_ints _ | exact cl_txts _ | exact cl_nds _ | exact cl_mp _ | exact Nat.succ_pos _ | exact pl_ints _ | exact pl_txts _ | exact pl_nds _ | with_reducible refine tl_f ?_)
        exact (dokB_no fun h => by have := (h.2.2.1 i hi).1.2.2.2.2; simp at k6; omega).symm
      conv => whnf
      refine ⟨by kernel_rfl, ?_⟩
      conv => whnf
      refine ⟨m - 1, [], [], [(24, .val false [.f (iL (i + 1 : Nat))]), (23, .val false [.f (iL d.nodes.length)]), (22, .val false [.f (nds d.nodes)]), (1, .val false [.pt 32 0 0])], [(32, some ⟨3, 3, [(dcL d).map .f]⟩)], by omega, ⟨?_, ?_, ?_⟩, i + 1, by omega, ?_, rfl, rfl⟩
      · rfl
      · (repeat' first | exact trivial | exact rfl | exact tl_pv rfl rfl rfl (List.cons_ne_nil _ _) | exact tl_ints rfl rfl rfl (by simp) | exact tl_txts rfl rfl rfl (by simp) | exact tl_nds rfl rfl rfl (by simp) | ((conv => whnf); first | exact trivial | exact rfl | exact .inr rfl | exact .inl ⟨rfl, rfl⟩ | apply And.intro) | refine tl_int ?_ | refine tl_bool ?_ | refine tl_str ?_ | refine tl_row rfl ?_ | exact cl_ints _ | exact cl_txts _ | exact cl_nds _ | exact cl_mp _ | exact Nat.succ_pos _ | exact pl_ints _ | exact pl_txts _ | exact pl_nds _ | with_reducible refine tl_f ?_)
        exact wrap_suc (by omega)
      · (repeat' first | exact trivial | exact rfl | exact tl_pv rfl rfl rfl (List.cons_ne_nil _ _) | exact tl_ints rfl rfl rfl (by simp) | exact tl_txts rfl rfl rfl (by simp) | exact tl_nds rfl rfl rfl (by simp) | ((conv => whnf); first | exact trivial | exact rfl | exact .inr rfl | exact .inl ⟨rfl, rfl⟩ | apply And.intro) | refine tl_int ?_ | refine tl_bool ?_ | refine tl_str ?_ | refine tl_row rfl ?_ | exact cl_ints _ | exact cl_txts _ | exact cl_nds _ | exact cl_mp _ | exact Nat.succ_pos _ | exact pl_ints _ | exact pl_txts _ | exact pl_nds _ | with_reducible refine tl_f ?_)
      · intro t ht hlt
        by_cases e : t = i
        · subst e
          exact ⟨⟨k1, k3, k4, by omega, by simp at k6; omega⟩, fun j hj => prev_lt hj ht hi1 k2⟩
        · exact hst t ht (by omega)
    · conv => whnf
      by_cases k3 : 1 ≤ d.nodes[i].kind ∧ d.nodes[i].kind ≤ 8
      rotate_left
      · refine ⟨([], _), within_f k3, ?_⟩
        conv => whnf
        refine ⟨by kernel_rfl, ?_⟩
        conv => whnf
        refine ⟨[], [], ?_⟩
        (repeat' first | exact trivial | exact rfl | exact tl_pv rfl rfl rfl (List.cons_ne_nil _ _) | exact tl_ints rfl rfl rfl (by simp) | exact tl_txts rfl rfl rfl (by simp) | exact tl_nds rfl rfl rfl (by simp) | ((conv => whnf); first | exact trivial | exact rfl | exact .inr rfl | exact .inl ⟨rfl, rfl⟩ | apply And.intro) | refine tl_int ?_ | refine tl_bool ?_ | refine tl_str ?_ | refine tl_row rfl ?_ | exact cl_ints _ | exact cl_txts _ | exact cl_nds _ | exact cl_mp _ | exact Nat.succ_pos _ | exact pl_ints _ | exact pl_txts _ | exact pl_nds _ | with_reducible refine tl_f ?_)
        exact (dokB_no fun h => k3 (h.2.2.1 i hi).1.2.1).symm
      refine ⟨([], _), within_t k3, ?_⟩
      conv => whnf
      by_cases k4 : 0 ≤ d.nodes[i].attr ∧ d.nodes[i].attr ≤ 99
      rotate_left
      · refine ⟨([], _), within_f k4, ?_⟩
        conv => whnf
        refine ⟨by kernel_rfl, ?_⟩
        conv => whnf
        refine ⟨[], [], ?_⟩
        (repeat' first | exact trivial | exact rfl | exact tl_pv rfl rfl rfl (List.cons_ne_nil _ _) | exact tl_ints rfl rfl rfl (by simp) | exact tl_txts rfl rfl rfl (by simp) | exact tl_nds rfl rfl rfl (by simp) | ((conv => whnf); first | exact trivial | exact rfl | exact .inr rfl | exact .inl ⟨rfl, rfl⟩ | apply And.intro) | refine tl_int ?_ | refine tl_bool ?_ | refine tl_str ?_ | refine tl_row rfl ?_ | exact cl_ints _ | exact cl_txts _ | exact cl_nds _ | exact cl_mp _ | exact Nat.succ_pos _ | exact pl_ints _ | exact pl_txts _ | exact pl_nds _ | with_reducible refine tl_f ?_)
        exact (dokB_no fun h => k4 (h.2.2.1 i hi).1.2.2.1).symm
      refine ⟨([], _), within_t k4, ?_⟩
      conv => whnf
      refine ⟨fun k5 => ?_, fun k5 => ?_⟩
      · skip
        conv => whnf
        refine ⟨by kernel_rfl, ?_⟩
        conv => whnf
        refine ⟨[], [], ?_⟩
        (repeat' first | exact trivial | exact rfl | exact tl_pv rfl rfl rfl (List.cons_ne_nil _ _) | exact tl_ints rfl rfl rfl (by simp) | exact tl_txts rfl rfl rfl (by simp) | exact tl_nds rfl rfl rfl (by simp) | ((conv => whnf); first | exact trivial | exact rfl | exact .inr rfl | exact .inl ⟨rfl, rfl⟩ | apply And.intro) | refine tl_int ?_ | refine tl_bool ?_ | refine tl_str ?_ | refine tl_row rfl ?_ | exact cl_ints _ | exact cl_txts _ | exact cl_nds _ | exact cl_mp _ | exact Nat.succ_pos _ | exact pl_ints _ | exact pl_txts _ | exact pl_nds _ | with_reducible refine tl_f ?_)
        exact (dokB_no fun h => by have := (h.2.2.1 i hi).1.2.2.2.1; omega).symm
      conv => whnf
      refine ⟨fun k6 => ?_, fun k6 => ?_⟩
      · skip
        conv => whnf
        refine ⟨by kernel_rfl, ?_⟩
        conv => whnf
        refine ⟨[], [], ?_⟩
        (repeat' first | exact trivial | exact rfl | exact tl_pv rfl rfl rfl (List.cons_ne_nil _ _) | exact tl_ints rfl rfl rfl (by simp) | exact tl_txts rfl rfl rfl (by simp) | exact tl_nds rfl rfl rfl (by simp) | ((conv => whnf); first | exact trivial | exact rfl | exact .inr rfl | exact .inl ⟨rfl, rfl⟩ | apply And.intro) | refine tl_int ?_ | refine tl_bool ?_ | refine tl_str ?_ | refine tl_row rfl ?_ | exact cl_ints _ | exact cl_txts _ | exact cl_nds _ | exact cl_mp _ | exact Nat.succ_pos _ | exact pl_ints _ | exact pl_txts _ | exact pl_nds _ | with_reducible refine tl_f ?_)
        exact (dokB_no fun h => by have := (h.2.2.1 i hi).1.2.2.2.2; simp at k6; omega).symm
      conv => whnf
      refine ⟨by kernel_rfl, ?_⟩
      conv => whnf
      refine ⟨m - 1, [], [], [(24, .val false [.f (iL (i + 1 : Nat))]), (23, .val false [.f (iL d.nodes.length)]), (22, .val false [.f (nds d.nodes)]), (1, .val false [.pt 32 0 0])], [(32, some ⟨3, 3, [(dcL d).map .f]⟩)], by omega, ⟨?_, ?_, ?_⟩, i + 1, by omega, ?_, rfl, rfl⟩
      · rfl
      · (repeat' first | exact trivial | exact rfl | exact tl_pv rfl rfl rfl (List.cons_ne_nil _ _) | exact tl_ints rfl rfl rfl (by simp) | exact tl_txts rfl rfl rfl (by simp) | exact tl_nds rfl rfl rfl (by simp) | ((conv => whnf); first | exact trivial | exact rfl | exact .inr rfl | exact .inl ⟨rfl, rfl⟩ | apply And.intro) | refine tl_int ?_ | refine tl_bool ?_ | refine tl_str ?_ | refine tl_row rfl ?_ | exact cl_ints _ | exact cl_txts _ | exact cl_nds _ | exact cl_mp _ | exact Nat.succ_pos _ | exact pl_ints _ | exact pl_txts _ | exact pl_nds _ | with_reducible refine tl_f ?_)
        exact wrap_suc (by omega)
      · (repeat' first | exact trivial | exact rfl | exact tl_pv rfl rfl rfl (List.cons_ne_nil _ _) | exact tl_ints rfl rfl rfl (by simp) | exact tl_txts rfl rfl rfl (by simp) | exact tl_nds rfl rfl rfl (by simp) | ((conv => whnf); first | exact trivial | exact rfl | exact .inr rfl | exact .inl ⟨rfl, rfl⟩ | apply And.intro) | refine tl_int ?_ | refine tl_bool ?_ | refine tl_str ?_ | refine tl_row rfl ?_ | exact cl_ints _ | exact cl_txts _ | exact cl_nds _ | exact cl_mp _ | exact Nat.succ_pos _ | exact pl_ints _ | exact pl_txts _ | exact pl_nds _ | with_reducible refine tl_f ?_)
      · intro t ht hlt
        by_cases e : t = i
        · subst e
          exact ⟨⟨k1, k3, k4, by omega, by simp at k6; omega⟩, fun j hj => by omega⟩
        · exact hst t ht (by omega)
  · have hi : d.nodes.length = i := by omega
    conv => whnf
    refine ⟨fun (m : Nat) (es : Es) (hs : Hs) => ∃ i : Nat, m + i = d.nodes.length ∧ SetOK d.root d.nodes (kidsTo d.nodes i) ∧ es = [(81, .val false [.f (iL i)]), (80, .val false [.f (iL d.nodes.length)]), (79, .val false [.f (nds d.nodes)]), (5, .val false [.mp 1248]), (1, .val false [.pt 32 0 0])] ∧ hs = [(1248, some ⟨4, 2, mpR (setM (kidsTo d.nodes i))⟩), (32, some ⟨3, 3, [(dcL d).map .f]⟩)],
      ⟨d.nodes.length, [], [], _, _, ⟨?_, ?_, ?_⟩, 0, rfl, ⟨by simp [kidsTo], fun k hk => by simp [kidsTo] at hk⟩, rfl, rfl⟩, ?_⟩
    · rfl
    · (repeat' first | exact trivial | exact rfl | exact tl_pv rfl rfl rfl (List.cons_ne_nil _ _) | exact tl_ints rfl rfl rfl (by simp) | exact tl_txts rfl rfl rfl (by simp) | exact tl_nds rfl rfl rfl (by simp) | ((conv => whnf); first | exact trivial | exact rfl | exact .inr rfl | exact .inl ⟨rfl, rfl⟩ | apply And.intro) | refine tl_int ?_ | refine tl_bool ?_ | refine tl_str ?_ | refine tl_row rfl ?_ | exact cl_ints _ | exact cl_txts _ | exact cl_nds _ | exact cl_mp _ | exact Nat.succ_pos _ | exact pl_ints _ | exact pl_txts _ | exact pl_nds _ | with_reducible refine tl_f ?_)
      simp
    · (repeat' first | exact trivial | exact rfl | exact tl_pv rfl rfl rfl (List.cons_ne_nil _ _) | exact tl_ints rfl rfl rfl (by simp) | exact tl_txts rfl rfl rfl (by simp) | exact tl_nds rfl rfl rfl (by simp) | ((conv => whnf); first | exact trivial | exact rfl | exact .inr rfl | exact .inl ⟨rfl, rfl⟩ | apply And.intro) | refine tl_int ?_ | refine tl_bool ?_ | refine tl_str ?_ | refine tl_row rfl ?_ | exact cl_ints _ | exact cl_txts _ | exact cl_nds _ | exact cl_mp _ | exact Nat.succ_pos _ | exact pl_ints _ | exact pl_txts _ | exact pl_nds _ | with_reducible refine tl_f ?_)
    have hst' : ∀ t (h : t < d.nodes.length), StepOK d.next d.nodes t h := fun t h => hst t h (by omega)
    have hR : Rise d.nodes := rise_of c2.2 hst'
    clear hst hm h
    subst hi
    rintro m es hs ⟨i, hm, hset, rfl, rfl⟩
    conv => whnf
    refine ⟨fun h => ?_, fun h => ?_⟩
    · have hi : i < d.nodes.length := by omega
      conv => whnf
      refine ⟨(i, ndL d.nodes[i]), ⟨rfl, by simp [hi]⟩, ?_⟩
      conv => whnf
      refine ⟨fun (m2 : Nat) (es : Es) (hs : Hs) => ∃ j : Nat, m2 + j = d.nodes[i].kids.length ∧ SetOK d.root d.nodes (kidsTo d.nodes i ++ d.nodes[i].kids.take j) ∧ es = [(88, .val false [.f (iL j)]), (87, .val false [.f (iL d.nodes[i].kids.length)]), (86, .val false [.f (ints d.nodes[i].kids)]), (81, .val false [.f (iL i)]), (80, .val false [.f (iL d.nodes.length)]), (79, .val false [.f (nds d.nodes)]), (5, .val false [.mp 1248]), (1, .val false [.pt 32 0 0])] ∧ hs = [(1248, some ⟨4, 2, mpR (setM (kidsTo d.nodes i ++ d.nodes[i].kids.take j))⟩), (32, some ⟨3, 3, [(dcL d).map .f]⟩)],
        ⟨d.nodes[i].kids.length, [], [], _, _, ⟨?_, ?_, ?_⟩, 0, rfl, by simpa using hset, rfl, rfl⟩, ?_⟩
      · rfl
      · (repeat' first | exact trivial | exact rfl | exact tl_pv rfl rfl rfl (List.cons_ne_nil _ _) | exact tl_ints rfl rfl rfl (by simp) | exact tl_txts rfl rfl rfl (by simp) | exact tl_nds rfl rfl rfl (by simp) | ((conv => whnf); first | exact trivial | exact rfl | exact .inr rfl | exact .inl ⟨rfl, rfl⟩ | apply And.intro) | refine tl_int ?_ | refine tl_bool ?_ | refine tl_str ?_ | refine tl_row rfl ?_ | exact cl_ints _ | exact cl_txts _ | exact cl_nds _ | exact cl_mp _ | exact Nat.succ_pos _ | exact pl_ints _ | exact pl_txts _ | exact pl_nds _ | with_reducible refine tl_f ?_)
        simp
      · (repeat' first | exact trivial | exact rfl | exact tl_pv rfl rfl rfl (List.cons_ne_nil _ _) | exact tl_ints rfl rfl rfl (by simp) | exact tl_txts rfl rfl rfl (by simp) | exact tl_nds rfl rfl rfl (by simp) | ((conv => whnf); first | exact trivial | exact rfl | exact .inr rfl | exact .inl ⟨rfl, rfl⟩ | apply And.intro) | refine tl_int ?_ | refine tl_bool ?_ | refine tl_str ?_ | refine tl_row rfl ?_ | exact cl_ints _ | exact cl_txts _ | exact cl_nds _ | exact cl_mp _ | exact Nat.succ_pos _ | exact pl_ints _ | exact pl_txts _ | exact pl_nds _ | with_reducible refine tl_f ?_)
        all_goals simp
      rintro m2 es hs ⟨j, hm2, hset2, rfl, rfl⟩
      conv => whnf
      refine ⟨fun h => ?_, fun h => ?_⟩
      · have hj : j < d.nodes[i].kids.length := by omega
        obtain ⟨rest, hsp⟩ := kids_split hi hj
        conv => whnf
        refine ⟨(j, intE d.nodes[i].kids[j]), ⟨rfl, by simp [hj]⟩, ?_⟩
        conv => whnf
        have hk64 := h64.2 d.nodes[i] (List.getElem_mem _) d.nodes[i].kids[j] (List.getElem_mem _)
        have hhas := has_ok d d.nodes[i].kids[j] hR hk64 (by omega)
        have hget := setM_get (kidsTo d.nodes i ++ d.nodes[i].kids.take j) d.nodes[i].kids[j]
        by_cases k1 : d.nodes[i].kids[j] ∈ kidsTo d.nodes i ++ d.nodes[i].kids.take j
        · rw [decide_eq_true k1] at hget
          refine ⟨(_, .bool true), ⟨rfl, hget⟩, ?_⟩
          conv => whnf
          refine ⟨[], [], ?_⟩
          (repeat' first | exact trivial | exact rfl | exact tl_pv rfl rfl rfl (List.cons_ne_nil _ _) | exact tl_ints rfl rfl rfl (by simp) | exact tl_txts rfl rfl rfl (by simp) | exact tl_nds rfl rfl rfl (by simp) | ((conv => whnf); first | exact trivial | exact rfl | exact .inr rfl | exact .inl ⟨rfl, rfl⟩ | apply And.intro) | refine tl_int ?_ | refine tl_bool ?_ | refine tl_str ?_ | refine tl_row rfl ?_ | exact cl_ints _ | exact cl_txts _ | exact cl_nds _ | exact cl_mp _ | exact Nat.succ_pos _ | exact pl_ints _ | exact pl_txts _ | exact pl_nds _ | with_reducible refine tl_f ?_)
          exact (dokB_no fun h => (set_bad (hsp ▸ h.2.2.2.1)).1 k1).symm
        rw [decide_eq_false k1] at hget
        refine ⟨(_, .bool false), ⟨rfl, hget⟩, ?_⟩
        conv => whnf
        refine ⟨fun k2 => ?_, fun k2 => ?_⟩
        · skip
          conv => whnf
          refine ⟨[], [], ?_⟩
          (repeat' first | exact trivial | exact rfl | exact tl_pv rfl rfl rfl (List.cons_ne_nil _ _) | exact tl_ints rfl rfl rfl (by simp) | exact tl_txts rfl rfl rfl (by simp) | exact tl_nds rfl rfl rfl (by simp) | ((conv => whnf); first | exact trivial | exact rfl | exact .inr rfl | exact .inl ⟨rfl, rfl⟩ | apply And.intro) | refine tl_int ?_ | refine tl_bool ?_ | refine tl_str ?_ | refine tl_row rfl ?_ | exact cl_ints _ | exact cl_txts _ | exact cl_nds _ | exact cl_mp _ | exact Nat.succ_pos _ | exact pl_ints _ | exact pl_txts _ | exact pl_nds _ | with_reducible refine tl_f ?_)
          exact (dokB_no fun h => (set_bad (hsp ▸ h.2.2.2.1)).2.1 k2).symm
        conv => whnf
        cases k3 : (ndAt d.nodes d.nodes[i].kids[j]).isSome with
        | false =>
          rw [k3] at hhas
          refine ⟨⟨true, [], _, _, _, _⟩, hhas, ?_⟩
          conv => whnf
          refine ⟨⟨?_, ?_, ?_⟩, ?_⟩
          · (repeat' first | exact trivial | exact rfl | exact tl_pv rfl rfl rfl (List.cons_ne_nil _ _) | exact tl_ints rfl rfl rfl (by simp) | exact tl_txts rfl rfl rfl (by simp) | exact tl_nds rfl rfl rfl (by simp) | ((conv => whnf); first | exact trivial | exact rfl | exact .inr rfl | exact .inl ⟨rfl, rfl⟩ | apply And.intro) | refine tl_int ?_ | refine tl_bool ?_ | refine tl_str ?_ | refine tl_row rfl ?_ | exact cl_ints _ | exact cl_txts _ | exact cl_nds _ | exact cl_mp _ | exact Nat.succ_pos _ | exact pl_ints _ | exact pl_txts _ | exact pl_nds _ | with_reducible refine tl_f ?_)
          · (repeat' first | exact trivial | exact rfl | exact tl_pv rfl rfl rfl (List.cons_ne_nil _ _) | exact tl_ints rfl rfl rfl (by simp) | exact tl_txts rfl rfl rfl (by simp) | exact tl_nds rfl rfl rfl (by simp) | ((conv => whnf); first | exact trivial | exact rfl | exact .inr rfl | exact .inl ⟨rfl, rfl⟩ | apply And.intro) | refine tl_int ?_ | refine tl_bool ?_ | refine tl_str ?_ | refine tl_row rfl ?_ | exact cl_ints _ | exact cl_txts _ | exact cl_nds _ | exact cl_mp _ | exact Nat.succ_pos _ | exact pl_ints _ | exact pl_txts _ | exact pl_nds _ | with_reducible refine tl_f ?_)
          · (repeat' first | exact trivial | exact rfl | exact tl_pv rfl rfl rfl (List.cons_ne_nil _ _) | exact tl_ints rfl rfl rfl (by simp) | exact tl_txts rfl rfl rfl (by simp) | exact tl_nds rfl rfl rfl (by simp) | ((conv => whnf); first | exact trivial | exact rfl | exact .inr rfl | exact .inl ⟨rfl, rfl⟩ | apply And.intro) | refine tl_int ?_ | refine tl_bool ?_ | refine tl_str ?_ | refine tl_row rfl ?_ | exact cl_ints _ | exact cl_txts _ | exact cl_nds _ | exact cl_mp _ | exact Nat.succ_pos _ | exact pl_ints _ | exact pl_txts _ | exact pl_nds _ | with_reducible refine tl_f ?_)
          conv => whnf
          refine ⟨[], [], ?_⟩
          (repeat' first | exact trivial | exact rfl | exact tl_pv rfl rfl rfl (List.cons_ne_nil _ _) | exact tl_ints rfl rfl rfl (by simp) | exact tl_txts rfl rfl rfl (by simp) | exact tl_nds rfl rfl rfl (by simp) | ((conv => whnf); first | exact trivial | exact rfl | exact .inr rfl | exact .inl ⟨rfl, rfl⟩ | apply And.intro) | refine tl_int ?_ | refine tl_bool ?_ | refine tl_str ?_ | refine tl_row rfl ?_ | exact cl_ints _ | exact cl_txts _ | exact cl_nds _ | exact cl_mp _ | exact Nat.succ_pos _ | exact pl_ints _ | exact pl_txts _ | exact pl_nds _ | with_reducible refine tl_f ?_)
          exact (dokB_no fun h => by have := (set_bad (hsp ▸ h.2.2.2.1)).2.2; rw [k3] at this; cases this).symm
        | true =>
          rw [k3] at hhas
          refine ⟨⟨true, [], _, _, _, _⟩, hhas, ?_⟩
          conv => whnf
          refine ⟨⟨?_, ?_, ?_⟩, ?_⟩
          · (repeat' first | exact trivial | exact rfl | exact tl_pv rfl rfl rfl (List.cons_ne_nil _ _) | exact tl_ints rfl rfl rfl (by simp) | exact tl_txts rfl rfl rfl (by simp) | exact tl_nds rfl rfl rfl (by simp) | ((conv => whnf); first | exact trivial | exact rfl | exact .inr rfl | exact .inl ⟨rfl, rfl⟩ | apply And.intro) | refine tl_int ?_ | refine tl_bool ?_ | refine tl_str ?_ | refine tl_row rfl ?_ | exact cl_ints _ | exact cl_txts _ | exact cl_nds _ | exact cl_mp _ | exact Nat.succ_pos _ | exact pl_ints _ | exact pl_txts _ | exact pl_nds _ | with_reducible refine tl_f ?_)
          · (repeat' first | exact trivial | exact rfl | exact tl_pv rfl rfl rfl (List.cons_ne_nil _ _) | exact tl_ints rfl rfl rfl (by simp) | exact tl_txts rfl rfl rfl (by simp) | exact tl_nds rfl rfl rfl (by simp) | ((conv => whnf); first | exact trivial | exact rfl | exact .inr rfl | exact .inl ⟨rfl, rfl⟩ | apply And.intro) | refine tl_int ?_ | refine tl_bool ?_ | refine tl_str ?_ | refine tl_row rfl ?_ | exact cl_ints _ | exact cl_txts _ | exact cl_nds _ | exact cl_mp _ | exact Nat.succ_pos _ | exact pl_ints _ | exact pl_txts _ | exact pl_nds _ | with_reducible refine tl_f ?_)
          · (repeat' first | exact trivial | exact rfl | exact tl_pv rfl rfl rfl (List.cons_ne_nil _ _) | exact tl_ints rfl rfl rfl (by simp) | exact tl_txts rfl rfl rfl (by simp) | exact tl_nds rfl rfl rfl (by simp) | ((conv => whnf); first | exact trivial | exact rfl | exact .inr rfl | exact .inl ⟨rfl, rfl⟩ | apply And.intro) | refine tl_int ?_ | refine tl_bool ?_ | refine tl_str ?_ | refine tl_row rfl ?_ | exact cl_ints _ | exact cl_txts _ | exact cl_nds _ | exact cl_mp _ | exact Nat.succ_pos _ | exact pl_ints _ | exact pl_txts _ | exact pl_nds _ | with_reducible refine tl_f ?_)
          conv => whnf
          refine ⟨_, rfl, ?_⟩
          conv => whnf
          refine ⟨m2 - 1, [], [], [(88, .val false [.f (iL (j + 1 : Nat))]), (87, .val false [.f (iL d.nodes[i].kids.length)]), (86, .val false [.f (ints d.nodes[i].kids)]), (81, .val false [.f (iL i)]), (80, .val false [.f (iL d.nodes.length)]), (79, .val false [.f (nds d.nodes)]), (5, .val false [.mp 1248]), (1, .val false [.pt 32 0 0])], [(1248, some ⟨4, 2, mpR (setM (kidsTo d.nodes i ++ d.nodes[i].kids.take (j + 1)))⟩), (32, some ⟨3, 3, [(dcL d).map .f]⟩)], by omega, ⟨?_, ?_, ?_⟩, j + 1, by omega, ?_, rfl, rfl⟩
          · rfl
          · (repeat' first | exact trivial | exact rfl | exact tl_pv rfl rfl rfl (List.cons_ne_nil _ _) | exact tl_ints rfl rfl rfl (by simp) | exact tl_txts rfl rfl rfl (by simp) | exact tl_nds rfl rfl rfl (by simp) | ((conv => whnf); first | exact trivial | exact rfl | exact .inr rfl | exact .inl ⟨rfl, rfl⟩ | apply And.intro) | refine tl_int ?_ | refine tl_bool ?_ | refine tl_str ?_ | refine tl_row rfl ?_ | exact cl_ints _ | exact cl_txts _ | exact cl_nds _ | exact cl_mp _ | exact Nat.succ_pos _ | exact pl_ints _ | exact pl_txts _ | exact pl_nds _ | with_reducible refine tl_f ?_)
            exact wrap_suc (by have := (hst' i hi).1.2.2.2.2; omega)
          · (repeat' first | exact trivial | exact rfl | exact tl_pv rfl rfl rfl (List.cons_ne_nil _ _) | exact tl_ints rfl rfl rfl (by simp) | exact tl_txts rfl rfl rfl (by simp) | exact tl_nds rfl rfl rfl (by simp) | ((conv => whnf); first | exact trivial | exact rfl | exact .inr rfl | exact .inl ⟨rfl, rfl⟩ | apply And.intro) | refine tl_int ?_ | refine tl_bool ?_ | refine tl_str ?_ | refine tl_row rfl ?_ | exact cl_ints _ | exact cl_txts _ | exact cl_nds _ | exact cl_mp _ | exact Nat.succ_pos _ | exact pl_ints _ | exact pl_txts _ | exact pl_nds _ | with_reducible refine tl_f ?_)
            dsimp only
            rw [setM_put k1, List.take_succ_eq_append_getElem hj, List.append_assoc]
          · rw [List.take_succ_eq_append_getElem hj, ← List.append_assoc]
            exact set_step hset2 k1 k2 k3
      · have hj : d.nodes[i].kids.length = j := by omega
        have hks : kidsTo d.nodes i ++ d.nodes[i].kids.take j = kidsTo d.nodes (i + 1) := by rw [kidsTo_step hi, ← hj, List.take_length]
        rw [hks] at hset2 ⊢
        conv => whnf
        refine ⟨m - 1, [], [], [(81, .val false [.f (iL (i + 1 : Nat))]), (80, .val false [.f (iL d.nodes.length)]), (79, .val false [.f (nds d.nodes)]), (5, .val false [.mp 1248]), (1, .val false [.pt 32 0 0])], [(1248, some ⟨4, 2, mpR (setM (kidsTo d.nodes (i + 1)))⟩), (32, some ⟨3, 3, [(dcL d).map .f]⟩)], by omega, ⟨?_, ?_, ?_⟩, i + 1, by omega, hset2, rfl, rfl⟩
        · rfl
        · (repeat' first | exact trivial | exact rfl | exact tl_pv rfl rfl rfl (List.cons_ne_nil _ _) | exact tl_ints rfl rfl rfl (by simp) | exact tl_txts rfl rfl rfl (by simp) | exact tl_nds rfl rfl rfl (by simp) | ((conv => whnf); first | exact trivial | exact rfl | exact .inr rfl | exact .inl ⟨rfl, rfl⟩ | apply And.intro) | refine tl_int ?_ | refine tl_bool ?_ | refine tl_str ?_ | refine tl_row rfl ?_ | exact cl_ints _ | exact cl_txts _ | exact cl_nds _ | exact cl_mp _ | exact Nat.succ_pos _ | exact pl_ints _ | exact pl_txts _ | exact pl_nds _ | with_reducible refine tl_f ?_)
          exact wrap_suc (by omega)
        · (repeat' first | exact trivial | exact rfl | exact tl_pv rfl rfl rfl (List.cons_ne_nil _ _) | exact tl_ints rfl rfl rfl (by simp) | exact tl_txts rfl rfl rfl (by simp) | exact tl_nds rfl rfl rfl (by simp) | ((conv => whnf); first | exact trivial | exact rfl | exact .inr rfl | exact .inl ⟨rfl, rfl⟩ | apply And.intro) | refine tl_int ?_ | refine tl_bool ?_ | refine tl_str ?_ | refine tl_row rfl ?_ | exact cl_ints _ | exact cl_txts _ | exact cl_nds _ | exact cl_mp _ | exact Nat.succ_pos _ | exact pl_ints _ | exact pl_txts _ | exact pl_nds _ | with_reducible refine tl_f ?_)
    · have hi : d.nodes.length = i := by omega
      have hset' : SetOK d.root d.nodes (kidsAll d.nodes) := by rw [← kidsTo_all, hi]; exact hset
      have hkl : (mpR (setM (kidsTo d.nodes i))).length = (kidsAll d.nodes).length := by rw [← kidsTo_all, hi]; simp [mpR, setM]
      have hhas := has_ok d d.root hR h64.1 (by omega)
      have hK : Kids d.nodes := fun n hn c hc => Option.isSome_iff_exists.1 (hset'.2 c (List.mem_flatMap.2 ⟨n, hn, hc⟩)).2
      have hks : ∀ n ∈ d.nodes, n.kids.length < 2 ^ 62 := fun n hn => by
        obtain ⟨t, ht, rfl⟩ := List.mem_iff_getElem.1 hn
        have := (hst' t ht).1.2.2.2.2; omega
      conv => whnf
      cases k3 : (ndAt d.nodes d.root).isSome with
      | false =>
        rw [k3] at hhas
        refine ⟨⟨true, [], _, _, _, _⟩, hhas, ?_⟩
        conv => whnf
        refine ⟨⟨?_, ?_, ?_⟩, ?_⟩
        · (repeat' first | exact trivial | exact rfl | exact tl_pv rfl rfl rfl (List.cons_ne_nil _ _) | exact tl_ints rfl rfl rfl (by simp) | exact tl_txts rfl rfl rfl (by simp) | exact tl_nds rfl rfl rfl (by simp) | ((conv => whnf); first | exact trivial | exact rfl | exact .inr rfl | exact .inl ⟨rfl, rfl⟩ | apply And.intro) | refine tl_int ?_ | refine tl_bool ?_ | refine tl_str ?_ | refine tl_row rfl ?_ | exact cl_ints _ | exact cl_txts _ | exact cl_nds _ | exact cl_mp _ | exact Nat.succ_pos _ | exact pl_ints _ | exact pl_txts _ | exact pl_nds _ | with_reducible refine tl_f ?_)
        · (repeat' first | exact trivial | exact rfl | exact tl_pv rfl rfl rfl (List.cons_ne_nil _ _) | exact tl_ints rfl rfl rfl (by simp) | exact tl_txts rfl rfl rfl (by simp) | exact tl_nds rfl rfl rfl (by simp) | ((conv => whnf); first | exact trivial | exact rfl | exact .inr rfl | exact .inl ⟨rfl, rfl⟩ | apply And.intro) | refine tl_int ?_ | refine tl_bool ?_ | refine tl_str ?_ | refine tl_row rfl ?_ | exact cl_ints _ | exact cl_txts _ | exact cl_nds _ | exact cl_mp _ | exact Nat.succ_pos _ | exact pl_ints _ | exact pl_txts _ | exact pl_nds _ | with_reducible refine tl_f ?_)
        · (repeat' first | exact trivial | exact rfl | exact tl_pv rfl rfl rfl (List.cons_ne_nil _ _) | exact tl_ints rfl rfl rfl (by simp) | exact tl_txts rfl rfl rfl (by simp) | exact tl_nds rfl rfl rfl (by simp) | ((conv => whnf); first | exact trivial | exact rfl | exact .inr rfl | exact .inl ⟨rfl, rfl⟩ | apply And.intro) | refine tl_int ?_ | refine tl_bool ?_ | refine tl_str ?_ | refine tl_row rfl ?_ | exact cl_ints _ | exact cl_txts _ | exact cl_nds _ | exact cl_mp _ | exact Nat.succ_pos _ | exact pl_ints _ | exact pl_txts _ | exact pl_nds _ | with_reducible refine tl_f ?_)
        conv => whnf
        refine ⟨[], [], ?_⟩
        (repeat' first | exact trivial | exact rfl | exact tl_pv rfl rfl rfl (List.cons_ne_nil _ _) | exact tl_ints rfl rfl rfl (by simp) | exact tl_txts rfl rfl rfl (by simp) | exact tl_nds rfl rfl rfl (by simp) | ((conv => whnf); first | exact trivial | exact rfl | exact .inr rfl | exact .inl ⟨rfl, rfl⟩ | apply And.intro) | refine tl_int ?_ | refine tl_bool ?_ | refine tl_str ?_ | refine tl_row rfl ?_ | exact cl_ints _ | exact cl_txts _ | exact cl_nds _ | exact cl_mp _ | exact Nat.succ_pos _ | exact pl_ints _ | exact pl_txts _ | exact pl_nds _ | with_reducible refine tl_f ?_)
        exact (dokB_no fun h => by have := h.2.2.2.2.1.1; rw [k3] at this; cases this).symm
      | true =>
        rw [k3] at hhas
        obtain ⟨n0, hn0⟩ := Option.isSome_iff_exists.1 k3
        refine ⟨⟨true, [], _, _, _, _⟩, hhas, ?_⟩
        conv => whnf
        refine ⟨⟨?_, ?_, ?_⟩, ?_⟩
        · (repeat' first | exact trivial | exact rfl | exact tl_pv rfl rfl rfl (List.cons_ne_nil _ _) | exact tl_ints rfl rfl rfl (by simp) | exact tl_txts rfl rfl rfl (by simp) | exact tl_nds rfl rfl rfl (by simp) | ((conv => whnf); first | exact trivial | exact rfl | exact .inr rfl | exact .inl ⟨rfl, rfl⟩ | apply And.intro) | refine tl_int ?_ | refine tl_bool ?_ | refine tl_str ?_ | refine tl_row rfl ?_ | exact cl_ints _ | exact cl_txts _ | exact cl_nds _ | exact cl_mp _ | exact Nat.succ_pos _ | exact pl_ints _ | exact pl_txts _ | exact pl_nds _ | with_reducible refine tl_f ?_)
        · (repeat' first | exact trivial | exact rfl | exact tl_pv rfl rfl rfl (List.cons_ne_nil _ _) | exact tl_ints rfl rfl rfl (by simp) | exact tl_txts rfl rfl rfl (by simp) | exact tl_nds rfl rfl rfl (by simp) | ((conv => whnf); first | exact trivial | exact rfl | exact .inr rfl | exact .inl ⟨rfl, rfl⟩ | apply And.intro) | refine tl_int ?_ | refine tl_bool ?_ | refine tl_str ?_ | refine tl_row rfl ?_ | exact cl_ints _ | exact cl_txts _ | exact cl_nds _ | exact cl_mp _ | exact Nat.succ_pos _ | exact pl_ints _ | exact pl_txts _ | exact pl_nds _ | with_reducible refine tl_f ?_)
        · (repeat' first | exact trivial | exact rfl | exact tl_pv rfl rfl rfl (List.cons_ne_nil _ _) | exact tl_ints rfl rfl rfl (by simp) | exact tl_txts rfl rfl rfl (by simp) | exact tl_nds rfl rfl rfl (by simp) | ((conv => whnf); first | exact trivial | exact rfl | exact .inr rfl | exact .inl ⟨rfl, rfl⟩ | apply And.intro) | refine tl_int ?_ | refine tl_bool ?_ | refine tl_str ?_ | refine tl_row rfl ?_ | exact cl_ints _ | exact cl_txts _ | exact cl_nds _ | exact cl_mp _ | exact Nat.succ_pos _ | exact pl_ints _ | exact pl_txts _ | exact pl_nds _ | with_reducible refine tl_f ?_)
        conv => whnf
        have hw : IntKind.i64.wrap (((d.nodes.map ndL).length : Int) - 1) = (d.nodes.length : Int) - 1 := by rw [IntKind.wrap_i64]; simp; omega
        refine ⟨fun k4 => ?_, fun k4 => ?_⟩
        · rw [hkl, hw] at k4
          conv => whnf
          refine ⟨[], [], ?_⟩
          (repeat' first | exact trivial | exact rfl | exact tl_pv rfl rfl rfl (List.cons_ne_nil _ _) | exact tl_ints rfl rfl rfl (by simp) | exact tl_txts rfl rfl rfl (by simp) | exact tl_nds rfl rfl rfl (by simp) | ((conv => whnf); first | exact trivial | exact rfl | exact .inr rfl | exact .inl ⟨rfl, rfl⟩ | apply And.intro) | refine tl_int ?_ | refine tl_bool ?_ | refine tl_str ?_ | refine tl_row rfl ?_ | exact cl_ints _ | exact cl_txts _ | exact cl_nds _ | exact cl_mp _ | exact Nat.succ_pos _ | exact pl_ints _ | exact pl_txts _ | exact pl_nds _ | with_reducible refine tl_f ?_)
          exact (dokB_no fun h => k4 (by have := h.2.2.2.2.1.2.1; omega)).symm
        rw [hkl, hw] at k4
        conv => whnf
        have hd := isDeep_ok d hR hK (by omega) hks hn0
        by_cases k5 : 6 < depthF d.nodes 7 d.root
        · rw [decide_eq_true k5] at hd
          refine ⟨⟨true, [], _, _, _, _⟩, hd, ?_⟩
          conv => whnf
          refine ⟨⟨?_, ?_, ?_⟩, ?_⟩
          · (repeat' first | exact trivial | exact rfl | exact tl_pv rfl rfl rfl (List.cons_ne_nil _ _) | exact tl_ints rfl rfl rfl (by simp) | exact tl_txts rfl rfl rfl (by simp) | exact tl_nds rfl rfl rfl (by simp) | ((conv => whnf); first | exact trivial | exact rfl | exact .inr rfl | exact .inl ⟨rfl, rfl⟩ | apply And.intro) | refine tl_int ?_ | refine tl_bool ?_ | refine tl_str ?_ | refine tl_row rfl ?_ | exact cl_ints _ | exact cl_txts _ | exact cl_nds _ | exact cl_mp _ | exact Nat.succ_pos _ | exact pl_ints _ | exact pl_txts _ | exact pl_nds _ | with_reducible refine tl_f ?_)
          · (repeat' first | exact trivial | exact rfl | exact tl_pv rfl rfl rfl (List.cons_ne_nil _ _) | exact tl_ints rfl rfl rfl (by simp) | exact tl_txts rfl rfl rfl (by simp) | exact tl_nds rfl rfl rfl (by simp) | ((conv => whnf); first | exact trivial | exact rfl | exact .inr rfl | exact .inl ⟨rfl, rfl⟩ | apply And.intro) | refine tl_int ?_ | refine tl_bool ?_ | refine tl_str ?_ | refine tl_row rfl ?_ | exact cl_ints _ | exact cl_txts _ | exact cl_nds _ | exact cl_mp _ | exact Nat.succ_pos _ | exact pl_ints _ | exact pl_txts _ | exact pl_nds _ | with_reducible refine tl_f ?_)
          · (repeat' first | exact trivial | exact rfl | exact tl_pv rfl rfl rfl (List.cons_ne_nil _ _) | exact tl_ints rfl rfl rfl (by simp) | exact tl_txts rfl rfl rfl (by simp) | exact tl_nds rfl rfl rfl (by simp) | ((conv => whnf); first | exact trivial | exact rfl | exact .inr rfl | exact .inl ⟨rfl, rfl⟩ | apply And.intro) | refine tl_int ?_ | refine tl_bool ?_ | refine tl_str ?_ | refine tl_row rfl ?_ | exact cl_ints _ | exact cl_txts _ | exact cl_nds _ | exact cl_mp _ | exact Nat.succ_pos _ | exact pl_ints _ | exact pl_txts _ | exact pl_nds _ | with_reducible refine tl_f ?_)
          conv => whnf
          refine ⟨[], [], ?_⟩
          (repeat' first | exact trivial | exact rfl | exact tl_pv rfl rfl rfl (List.cons_ne_nil _ _) | exact tl_ints rfl rfl rfl (by simp) | exact tl_txts rfl rfl rfl (by simp) | exact tl_nds rfl rfl rfl (by simp) | ((conv => whnf); first | exact trivial | exact rfl | exact .inr rfl | exact .inl ⟨rfl, rfl⟩ | apply And.intro) | refine tl_int ?_ | refine tl_bool ?_ | refine tl_str ?_ | refine tl_row rfl ?_ | exact cl_ints _ | exact cl_txts _ | exact cl_nds _ | exact cl_mp _ | exact Nat.succ_pos _ | exact pl_ints _ | exact pl_txts _ | exact pl_nds _ | with_reducible refine tl_f ?_)
          exact (dokB_no fun h => by have := h.2.2.2.2.1.2.2; omega).symm
        rw [decide_eq_false k5] at hd
        refine ⟨⟨true, [], _, _, _, _⟩, hd, ?_⟩
        conv => whnf
        refine ⟨⟨?_, ?_, ?_⟩, ?_⟩
        · (repeat' first | exact trivial | exact rfl | exact tl_pv rfl rfl rfl (List.cons_ne_nil _ _) | exact tl_ints rfl rfl rfl (by simp) | exact tl_txts rfl rfl rfl (by simp) | exact tl_nds rfl rfl rfl (by simp) | ((conv => whnf); first | exact trivial | exact rfl | exact .inr rfl | exact .inl ⟨rfl, rfl⟩ | apply And.intro) | refine tl_int ?_ | refine tl_bool ?_ | refine tl_str ?_ | refine tl_row rfl ?_ | exact cl_ints _ | exact cl_txts _ | exact cl_nds _ | exact cl_mp _ | exact Nat.succ_pos _ | exact pl_ints _ | exact pl_txts _ | exact pl_nds _ | with_reducible refine tl_f ?_)
        · (repeat' first | exact trivial | exact rfl | exact tl_pv rfl rfl rfl (List.cons_ne_nil _ _) | exact tl_ints rfl rfl rfl (by simp) | exact tl_txts rfl rfl rfl (by simp) | exact tl_nds rfl rfl rfl (by simp) | ((conv => whnf); first | exact trivial | exact rfl | exact .inr rfl | exact .inl ⟨rfl, rfl⟩ | apply And.intro) | refine tl_int ?_ | refine tl_bool ?_ | refine tl_str ?_ | refine tl_row rfl ?_ | exact cl_ints _ | exact cl_txts _ | exact cl_nds _ | exact cl_mp _ | exact Nat.succ_pos _ | exact pl_ints _ | exact pl_txts _ | exact pl_nds _ | with_reducible refine tl_f ?_)
        · (repeat' first | exact trivial | exact rfl | exact tl_pv rfl rfl rfl (List.cons_ne_nil _ _) | exact tl_ints rfl rfl rfl (by simp) | exact tl_txts rfl rfl rfl (by simp) | exact tl_nds rfl rfl rfl (by simp) | ((conv => whnf); first | exact trivial | exact rfl | exact .inr rfl | exact .inl ⟨rfl, rfl⟩ | apply And.intro) | refine tl_int ?_ | refine tl_bool ?_ | refine tl_str ?_ | refine tl_row rfl ?_ | exact cl_ints _ | exact cl_txts _ | exact cl_nds _ | exact cl_mp _ | exact Nat.succ_pos _ | exact pl_ints _ | exact pl_txts _ | exact pl_nds _ | with_reducible refine tl_f ?_)
        conv => whnf
        have h12 : ∀ n ∈ d.nodes, n.kids.length ≤ 12 := fun n hn => by
          obtain ⟨t, ht, rfl⟩ := List.mem_iff_getElem.1 hn
          exact (hst' t ht).1.2.2.2.2
        have hol := orderF_len h12 6 d.root
        have ho := order_ok d hR (by omega) hks 6 d.root (depthF_fits hK 6 d.root k3 (Nat.le_of_not_lt k5)) [] (by simp; omega)
        refine ⟨by kernel_rfl, ?_⟩
        conv => whnf
        refine ⟨⟨true, [(1, 7)], _, _, _, _⟩, ho, ?_⟩
        conv => whnf
        refine ⟨⟨?_, ?_, ?_⟩, ?_⟩
        · (repeat' first | exact trivial | exact rfl | exact tl_pv rfl rfl rfl (List.cons_ne_nil _ _) | exact tl_ints rfl rfl rfl (by simp) | exact tl_txts rfl rfl rfl (by simp) | exact tl_nds rfl rfl rfl (by simp) | ((conv => whnf); first | exact trivial | exact rfl | exact .inr rfl | exact .inl ⟨rfl, rfl⟩ | apply And.intro) | refine tl_int ?_ | refine tl_bool ?_ | refine tl_str ?_ | refine tl_row rfl ?_ | exact cl_ints _ | exact cl_txts _ | exact cl_nds _ | exact cl_mp _ | exact Nat.succ_pos _ | exact pl_ints _ | exact pl_txts _ | exact pl_nds _ | with_reducible refine tl_f ?_)
        · (repeat' first | exact trivial | exact rfl | exact tl_pv rfl rfl rfl (List.cons_ne_nil _ _) | exact tl_ints rfl rfl rfl (by simp) | exact tl_txts rfl rfl rfl (by simp) | exact tl_nds rfl rfl rfl (by simp) | ((conv => whnf); first | exact trivial | exact rfl | exact .inr rfl | exact .inl ⟨rfl, rfl⟩ | apply And.intro) | refine tl_int ?_ | refine tl_bool ?_ | refine tl_str ?_ | refine tl_row rfl ?_ | exact cl_ints _ | exact cl_txts _ | exact cl_nds _ | exact cl_mp _ | exact Nat.succ_pos _ | exact pl_ints _ | exact pl_txts _ | exact pl_nds _ | with_reducible refine tl_f ?_)
        · (repeat' first | exact trivial | exact rfl | exact tl_pv rfl rfl rfl (List.cons_ne_nil _ _) | exact tl_ints rfl rfl rfl (by simp) | exact tl_txts rfl rfl rfl (by simp) | exact tl_nds rfl rfl rfl (by simp) | ((conv => whnf); first | exact trivial | exact rfl | exact .inr rfl | exact .inl ⟨rfl, rfl⟩ | apply And.intro) | refine tl_int ?_ | refine tl_bool ?_ | refine tl_str ?_ | refine tl_row rfl ?_ | exact cl_ints _ | exact cl_txts _ | exact cl_nds _ | exact cl_mp _ | exact Nat.succ_pos _ | exact pl_ints _ | exact pl_txts _ | exact pl_nds _ | with_reducible refine tl_f ?_)
        conv => whnf
        have hl : (([] : List Int) ++ orderF d.nodes 6 d.root).length = (orderF d.nodes 6 d.root).length := rfl
        refine ⟨fun k6 => ?_, fun k6 => ?_⟩
        · conv => whnf
          refine ⟨by kernel_rfl, ?_⟩
          conv => whnf
          refine ⟨[], [], ?_⟩
          (repeat' first | exact trivial | exact rfl | exact tl_pv rfl rfl rfl (List.cons_ne_nil _ _) | exact tl_ints rfl rfl rfl (by simp) | exact tl_txts rfl rfl rfl (by simp) | exact tl_nds rfl rfl rfl (by simp) | ((conv => whnf); first | exact trivial | exact rfl | exact .inr rfl | exact .inl ⟨rfl, rfl⟩ | apply And.intro) | refine tl_int ?_ | refine tl_bool ?_ | refine tl_str ?_ | refine tl_row rfl ?_ | exact cl_ints _ | exact cl_txts _ | exact cl_nds _ | exact cl_mp _ | exact Nat.succ_pos _ | exact pl_ints _ | exact pl_txts _ | exact pl_nds _ | with_reducible refine tl_f ?_)
          refine (dokB_yes ⟨by omega, c2, hst', hset', ⟨k3, ?_, Nat.le_of_not_lt k5⟩, ?_⟩).symm
          · omega
          · simp at k6; omega
        · conv => whnf
          refine ⟨by kernel_rfl, ?_⟩
          conv => whnf
          refine ⟨[], [], ?_⟩
          (repeat' first | exact trivial | exact rfl | exact tl_pv rfl rfl rfl (List.cons_ne_nil _ _) | exact tl_ints rfl rfl rfl (by simp) | exact tl_txts rfl rfl rfl (by simp) | exact tl_nds rfl rfl rfl (by simp) | ((conv => whnf); first | exact trivial | exact rfl | exact .inr rfl | exact .inl ⟨rfl, rfl⟩ | apply And.intro) | refine tl_int ?_ | refine tl_bool ?_ | refine tl_str ?_ | refine tl_row rfl ?_ | exact cl_ints _ | exact cl_txts _ | exact cl_nds _ | exact cl_mp _ | exact Nat.succ_pos _ | exact pl_ints _ | exact pl_txts _ | exact pl_nds _ | with_reducible refine tl_f ?_)
          refine (dokB_no fun h => k6 ?_).symm
          have := h.2.2.2.2.2
          simp; omega
end Go.Proofs.Ytfafehhallbjiaa.Ac
set_option linter.unusedVariables false
set_option linter.unusedSimpArgs false
namespace Go.Proofs.Ytfafehhallbjiaa.Ac
open Go.RowKit
def OpL (P : Program) (t : TypeId) (good : List L → Prop) : Prop := ∀ {H : Type} (enc : TypeId × Value → H) (w : World) (fuel : Nat) (cs : List Value) (x : DataW H × List MemPlace), DataW.trod enc P w 0 (fun _ => true) true fuel t cs = some x →
  ∃ ls : List L, ls.length = cs.length ∧ good ls ∧ ∀ (j : Nat) y, ls[j]? = some y → ∃ u, cs[j]? = some u ∧ RepL w.heap (fun _ => False) y u
theorem op_int {P : Program} {t : TypeId} {k : IntKind} (ht : P.underlying t = some (.int k)) : OpL P t fun ls => ∃ n, ls = [.v (.int k n)] ∧ (Lit.int k n).wf = true := by
  intro H enc w fuel cs x h
  obtain ⟨n, rfl, _, hw⟩ := DataW.trod_int ht h
  refine ⟨_, rfl, ⟨n, rfl, hw⟩, fun j y hy => ?_⟩
  cases j with
  | zero => cases hy; exact ⟨_, rfl, .v _ rfl⟩
  | succ j => simp at hy
theorem op_str {P : Program} {t : TypeId} (ht : P.underlying t = some .string) : OpL P t fun ls => ∃ s : ByteArray, ls = [sL s] ∧ s.size ≤ maxLen := by
  intro H enc w fuel cs x h
  obtain ⟨s, rfl, _, hs⟩ := DataW.trod_string ht h
  refine ⟨_, rfl, ⟨s, rfl, hs⟩, fun j y hy => ?_⟩
  cases j with
  | zero => cases hy; exact ⟨_, rfl, .v _ rfl⟩
  | succ j => simp at hy
theorem list_of {α : Type} : ∀ (n : Nat) (p : Nat → α → Prop), (∀ i, i < n → ∃ a, p i a) → ∃ l : List α, l.length = n ∧ ∀ i a, l[i]? = some a → p i a
  | 0, p, _ => ⟨[], rfl, fun i a h => by simp at h⟩
  | n + 1, p, h => by
    obtain ⟨a, ha⟩ := h 0 (Nat.succ_pos _)
    obtain ⟨l, hl, hp⟩ := list_of n (fun i => p (i + 1)) fun i hi => h (i + 1) (Nat.succ_lt_succ hi)
    refine ⟨a :: l, by simp [hl], fun i b hb => ?_⟩
    cases i with
    | zero => cases hb; exact ha
    | succ i => exact hp i b hb
theorem map_of {α β : Type} {f : α → β} {p : α → Prop} : ∀ (l : List β), (∀ x ∈ l, ∃ a, x = f a ∧ p a) → ∃ l' : List α, l = l'.map f ∧ ∀ a ∈ l', p a
  | [], _ => ⟨[], rfl, fun _ h => by cases h⟩
  | x :: l, h => by
    obtain ⟨a, rfl, ha⟩ := h x List.mem_cons_self
    obtain ⟨l', rfl, hl⟩ := map_of l fun y hy => h y (List.mem_cons_of_mem _ hy)
    exact ⟨a :: l', rfl, fun b hb => by
      rcases List.mem_cons.1 hb with rfl | hb
      · exact ha
      · exact hl b hb⟩
theorem op_slice {P : Program} {t e : TypeId} {wd : Nat} {good : List L → Prop} (ht : P.underlying t = some (.slice e)) (hs : P.cellsOf e = wd) (hw : 0 < wd) (he : OpL P e good) :
    OpL P t fun ls => ∃ es : List (List L), ls = [.sl wd es] ∧ es.length ≤ maxLen ∧ ∀ x ∈ es, good x := by
  intro H enc w fuel cs x h
  rcases Go.Deep.open_slice ht h with ⟨rfl, _⟩ | ⟨a, len, cap, m, n, D, Pl, rfl, _, hl, hm, hmm, _, hel⟩
  · refine ⟨_, rfl, ⟨[], rfl, Nat.zero_le _, fun _ h => by cases h⟩, fun j y hy => ?_⟩
    cases j with
    | zero => cases hy; exact ⟨_, rfl, .nil wd none 0⟩
    | succ j => simp at hy
  · have hmlen : len ≤ m := by rw [hmm]; simp; exact hl
    obtain ⟨es, hes, hp⟩ := list_of len (fun i (l : List L) => l.length = wd ∧ good l ∧ ∀ (j : Nat) y, l[j]? = some y → ∃ u, w.cell? ((a.add (i * wd)).add j) = some u ∧ RepL w.heap (fun _ => False) y u) fun i hi => by
      obtain ⟨cs', h1, h2⟩ := hel i (by omega)
      obtain ⟨l, hl1, hg, hr⟩ := he enc w _ _ _ h2
      obtain ⟨_, g3, g4⟩ := World.cells?_some h1
      rw [hs] at g3 g4
      refine ⟨l, hl1.trans g3, hg, fun j y hy => ?_⟩
      obtain ⟨u, hu, hru⟩ := hr j y hy
      have hj : j < wd := by rw [← g3]; exact (List.getElem?_eq_some_iff.1 hu).1
      exact ⟨u, (g4 j hj).trans hu, hru⟩
    have hgood : ∀ x ∈ es, good x := fun x hx => by
      obtain ⟨i, hi⟩ := List.getElem?_of_mem hx
      exact (hp i x hi).2.1
    refine ⟨_, rfl, ⟨es, rfl, by rw [hes]; exact Nat.le_trans hl hm, hgood⟩, fun j y hy => ?_⟩
    cases j with
    | succ j => simp at hy
    | zero =>
      cases hy
      refine ⟨_, rfl, ?_⟩
      cases len with
      | zero =>
        obtain rfl := List.eq_nil_of_length_eq_zero hes
        exact .nil wd (some a) cap
      | succ k =>
        have cellAt : ∀ (i : Nat) e (j : Nat) y, es[i]? = some e → e[j]? = some y → ∃ u, w.cell? ((a.add (i * wd)).add j) = some u ∧ RepL w.heap (fun _ => False) y u := fun i e j y hi hj => (hp i e hi).2.2 j y hj
        have lenAt : ∀ e ∈ es, e.length = wd := fun e he => by
          obtain ⟨i, hi⟩ := List.getElem?_of_mem he
          exact (hp i e hi).1
        have l0 : k < es.length := by omega
        have e1 := lenAt es[k] (List.getElem_mem _)
        have e0 := lenAt es[0] (List.getElem_mem _)
        obtain ⟨u1, c1, _⟩ := cellAt 0 es[0] 0 _ (List.getElem?_eq_getElem (by omega)) (List.getElem?_eq_getElem (by omega))
        obtain ⟨u0, c0, _⟩ := cellAt k es[k] (wd - 1) _ (List.getElem?_eq_getElem l0) (List.getElem?_eq_getElem (by omega))
        have hsp := World.cell?_spot c1
        obtain ⟨b, off, spot⟩ := a
        have hsp0 : spot = none := by simpa [Addr.add] using hsp
        subst hsp0
        have add0 : ∀ o i, Addr.add ⟨b, o, none⟩ i = ⟨b, o + i, none⟩ := fun o i => by
          unfold Addr.add
          split
          · rename_i h; subst h; rfl
          · rfl
        simp only [add0] at c0 cellAt
        unfold World.cell? at c0
        split at c0
        · rename_i c ty fr hb
          simp only [Option.isSome_none, Bool.false_eq_true, if_false] at c0
          have hsz : off + k * wd + (wd - 1) < c.size := (Array.getElem?_eq_some_iff.1 c0).1
          have hk1 : (k + 1) * wd = k * wd + wd := Nat.succ_mul k wd
          have := RepL.sl (h := w.heap) (O := fun _ => False) wd es b off cap c ty fr hw (by intro h; rw [h] at l0; simp at l0) hb (fun h => h) lenAt (by rw [hes]; omega) (by rw [hes]; exact hl) fun i e j y hi hj => by
            obtain ⟨u, hu, hru⟩ := cellAt i e j y hi hj
            simp only [World.cell?] at hu
            rw [hb] at hu
            simp only [Option.isSome_none, Bool.false_eq_true, if_false] at hu
            rw [Array.getD_eq_getD_getElem?, hu]; exact hru
          rw [hes] at this
          exact this
        · cases c0
def Gs : List (List L → Prop) → List L → Prop
  | [], ls => ls = []
  | g :: gs, ls => ∃ x rest, g x ∧ ls = x ++ rest ∧ Gs gs rest
def laidAt (P : Program) : Nat → List Field → Prop
  | _, [] => True
  | o, f :: fs => f.offset = o ∧ laidAt P (o + P.cellsOf f.type) fs
def szAll (P : Program) : List Field → Nat
  | [] => 0
  | f :: fs => P.cellsOf f.type + szAll P fs
def OpLs (P : Program) : List Field → List (List L → Prop) → Prop
  | [], [] => True
  | f :: fs, g :: gs => OpL P f.type g ∧ OpLs P fs gs
  | _, _ => False
theorem op_fields {P : Program} {H : Type} (enc : TypeId × Value → H) (w : World) (n : Nat) (cs : List Value) : ∀ (fs : List Field) (gs : List (List L → Prop)) (o : Nat), OpLs P fs gs → laidAt P o fs → cs.length = o + szAll P fs →
    (∀ f ∈ fs, ∃ x, DataW.trod enc P w 0 (fun _ => true) true n f.type ((cs.drop f.offset).take (P.cellsOf f.type)) = some x) →
    ∃ ls : List L, ls.length = szAll P fs ∧ Gs gs ls ∧ ∀ (j : Nat) y, ls[j]? = some y → ∃ u, cs[o + j]? = some u ∧ RepL w.heap (fun _ => False) y u
  | [], [], o, _, _, hl, _ => ⟨[], rfl, rfl, fun j y hy => by simp at hy⟩
  | [], _ :: _, _, h, _, _, _ => h.elim
  | _ :: _, [], _, h, _, _, _ => h.elim
  | f :: fs, g :: gs, o, ho, hla, hl, hx => by
    obtain ⟨x, hx0⟩ := hx f List.mem_cons_self
    simp only [szAll] at hl
    rw [hla.1] at hx0
    obtain ⟨l1, k1, g1, r1⟩ := ho.1 enc w n _ _ hx0
    obtain ⟨l2, k2, g2, r2⟩ := op_fields enc w n cs fs gs (o + P.cellsOf f.type) ho.2 hla.2 (by omega) fun f' hf => hx f' (List.mem_cons_of_mem _ hf)
    have k3 : l1.length = P.cellsOf f.type := by rw [k1]; simp; omega
    refine ⟨l1 ++ l2, by simp [szAll, k3, k2], ⟨l1, l2, g1, rfl, g2⟩, fun j y hy => ?_⟩
    by_cases hj : j < l1.length
    · rw [List.getElem?_append_left hj] at hy
      obtain ⟨u, hu, hr⟩ := r1 j y hy
      rw [List.getElem?_take_of_lt (by omega), List.getElem?_drop] at hu
      exact ⟨u, hu, hr⟩
    · rw [List.getElem?_append_right (by omega)] at hy
      obtain ⟨u, hu, hr⟩ := r2 _ y hy
      rw [show o + P.cellsOf f.type + (j - l1.length) = o + j by omega] at hu
      exact ⟨u, hu, hr⟩
theorem op_struct {P : Program} {t : TypeId} {fs : Array Field} {gs : List (List L → Prop)} (ht : P.underlying t = some (.struct fs)) (hla : laidAt P 0 fs.toList) (hsz : P.cellsOf t = szAll P fs.toList) (h : OpLs P fs.toList gs) : OpL P t (Gs gs) := by
  intro H enc w fuel cs x h0
  obtain ⟨xs, n, _, _, hl, hx, hf⟩ := DataW.trod_struct ht h0
  obtain ⟨ls, h1, h2, h3⟩ := op_fields enc w n cs fs.toList gs 0 h hla (by omega) fun f hf0 => by
    obtain ⟨i, hi⟩ := List.getElem?_of_mem hf0
    have hi' : fs[i]? = some f := by simpa using hi
    have hlt : i < fs.size := (Array.getElem?_eq_some_iff.1 hi').1
    exact ⟨_, (hf i f hi').trans (List.getElem?_eq_getElem (by omega))⟩
  exact ⟨ls, by omega, h2, fun j y hy => by simpa using h3 j y hy⟩
theorem OpL.to {P : Program} {t : TypeId} {g g' : List L → Prop} (h : OpL P t g) (hg : ∀ ls, g ls → g' ls) : OpL P t g' := fun enc w fuel cs x hx => by
  obtain ⟨ls, h1, h2, h3⟩ := h enc w fuel cs x hx
  exact ⟨ls, h1, hg ls h2, h3⟩
def phi0 : Phi := ⟨fun _ => none, fun _ => False⟩
theorem heap0 (h : Array Obj) : HeapOK h (get ([] : Hs)) phi0 := ⟨fun n ob hn => (by cases hn), fun X hd hX => (by cases hX), fun X hd hX => (by cases hX), fun b hb => False.elim hb, fun X Y hd hd' hX => (by cases hX)⟩
theorem own00 : ∀ b, Own phi0 b → False := fun b hb => by
  rcases hb with hb | ⟨X, hd, hX, _⟩
  · exact hb.elim
  · cases hX
theorem arg_agg {h : Array Obj} {cs : Array Value} {ls : List L} (hl : ls.length = cs.toList.length) (hr : ∀ (j : Nat) y, ls[j]? = some y → ∃ u, cs.toList[j]? = some u ∧ RepL h (fun _ => False) y u) : RepV h (get ([] : Hs)) phi0 true (ls.map .f) (.agg cs) := by
  refine ⟨cs, rfl, ?_⟩
  obtain ⟨us⟩ := cs
  simp only at hl hr ⊢
  induction ls generalizing us with
  | nil => obtain rfl := List.eq_nil_of_length_eq_zero hl.symm; trivial
  | cons l ls ih =>
    cases us with
    | nil => simp at hl
    | cons u us =>
      obtain ⟨u', hu', hr0⟩ := hr 0 l rfl
      cases hu'
      exact ⟨.f _ _ (hr0.less own00), ih us (by simpa using hl) fun j y hy => hr (j + 1) y hy⟩
theorem own0 (b : Nat) : ¬ Own0 phi0 b := by rintro ⟨X, hd, hX, _⟩; cases hX
theorem FC.row {P : Program} {f : FuncId} {args : List (Bool × List L)} {H1 : Hs} {b : Bool} (h : FC P f args H1 [(false, [.f (bL b)])]) {w : World} {us : List Value} (hr : RepVs w.heap (get ([] : Hs)) phi0 (fzL args) us) :
    Calls P f us.toArray w fun e w' => e = .returned (.bool b) ∧ Below w.heap.size w w' := by
  refine (h.calls phi0 w us (heap0 _) hr).mono ?_
  rintro e w' ⟨v, φ', rfl, hv, _, ht, h1, h2, h3, h4⟩
  obtain ⟨x, hx, hv⟩ := hv
  cases hx
  cases hv with
  | f _ _ r => cases r with
    | v _ _ => exact ⟨rfl, h1, h2, h3, h4, fun k hk => (ht.blk0 k hk (own0 k)).2⟩
end Go.Proofs.Ytfafehhallbjiaa.Ac
set_option linter.unusedVariables false
set_option linter.unusedSimpArgs false
namespace Go.Proofs.Ytfafehhallbjiaa.Ac
open Go.RowKit
theorem wf64 {n : Int} (h : (Lit.int .i64 n).wf = true) : I64 n := by
  simp only [Lit.wf, Bool.and_eq_true, decide_eq_true_eq] at h
  have h1 : (IntKind.i64.min : Int) = -2 ^ 63 := by decide
  have h2 : (IntKind.i64.max : Int) = 2 ^ 63 - 1 := by decide
  unfold I64; omega
theorem opi : OpL Try.prog 3 fun ls => ∃ z, ls = [iL z] ∧ I64 z := OpL.to (op_int Try.underlying3) fun ls ⟨n, h, hw⟩ => ⟨n, h, wf64 hw⟩
theorem op_s : OpL Try.prog 9 fun ls => ∃ s : ByteArray, ls = [sL s] ∧ s.size < 2 ^ 63 := OpL.to (op_str Try.underlying9) fun ls ⟨s, h, hw⟩ => ⟨s, h, by unfold maxLen at hw; omega⟩
def ListIn {α : Type} (p : α → Prop) (l : List α) : Prop := l.length < 2 ^ 63 ∧ ∀ x ∈ l, p x
theorem op_list {t e : TypeId} {wd : Nat} {α : Type} {f : α → List L} {p : α → Prop} (ht : Try.prog.underlying t = some (.slice e)) (hs : Try.prog.cellsOf e = wd) (hw : 0 < wd) (he : OpL Try.prog e fun ls => ∃ x, ls = f x ∧ p x) :
    OpL Try.prog t fun ls => ∃ l : List α, ls = [.sl wd (l.map f)] ∧ ListIn p l := OpL.to (op_slice ht hs hw he) fun ls ⟨es, h, hl, hg⟩ => by
  obtain ⟨l, rfl, hp⟩ := map_of es hg
  exact ⟨l, h, by unfold maxLen at hl; simp at hl; omega, hp⟩
theorem op_ints : OpL Try.prog 40 fun ls => ∃ l : List Int, ls = [ints l] ∧ ListIn I64 l := op_list (f := intE) Try.underlying40 (by kernel_rfl) (by decide) opi
def NdIn (n : Nd) : Prop := I64 n.id ∧ I64 n.kind ∧ I64 n.attr ∧ n.text.size < 2 ^ 63 ∧ ListIn I64 n.kids
theorem op_node : OpL Try.prog 107 fun ls => ∃ n : Nd, ls = ndL n ∧ NdIn n := OpL.to (op_struct (gs := [_, _, _, _, _]) Try.underlying107 ⟨by kernel_rfl, by kernel_rfl, by kernel_rfl, by kernel_rfl, by kernel_rfl, trivial⟩ (by kernel_rfl) ⟨opi, opi, opi, op_s, op_ints, trivial⟩)
  (by rintro ls ⟨_, _, ⟨a, rfl, ha⟩, rfl, _, _, ⟨b, rfl, hb⟩, rfl, _, _, ⟨c, rfl, hc⟩, rfl, _, _, ⟨s, rfl, hs⟩, rfl, _, _, ⟨l, rfl, hl⟩, rfl, rfl⟩; exact ⟨⟨a, b, c, s, l⟩, rfl, ha, hb, hc, hs, hl⟩)
def DcIn (d : Dc) : Prop := I64 d.root ∧ I64 d.next ∧ ListIn NdIn d.nodes
theorem op_nodes : OpL Try.prog 36 fun ls => ∃ l : List Nd, ls = [nds l] ∧ ListIn NdIn l := op_list (f := ndL) Try.underlying36 (by kernel_rfl) (by decide) op_node
theorem op_doc : OpL Try.prog 38 fun ls => ∃ d : Dc, ls = dcL d ∧ DcIn d := OpL.to (op_struct (gs := [_, _, _]) Try.underlying38 ⟨by kernel_rfl, by kernel_rfl, by kernel_rfl, trivial⟩ (by kernel_rfl) ⟨opi, opi, op_nodes, trivial⟩)
  (by rintro ls ⟨_, _, ⟨a, rfl, ha⟩, rfl, _, _, ⟨b, rfl, hb⟩, rfl, _, _, ⟨l, rfl, hl⟩, rfl, rfl⟩; exact ⟨⟨a, b, l⟩, rfl, ha, hb, hl⟩)
end Go.Proofs.Ytfafehhallbjiaa.Ac
set_option linter.unusedVariables false
set_option linter.unusedSimpArgs false
set_option maxRecDepth 20000
set_option maxHeartbeats 2000000
namespace Go.Proofs.Ytfafehhallbjiaa.Ac
open Go.RowKit
theorem szN_le : ∀ {l : List Nd} {n : Nd}, n ∈ l → szN n ≤ szNs l
  | m :: l, n, h => by
    rw [szNs_cons]
    rcases List.mem_cons.1 h with rfl | h
    · omega
    · have := szN_le h; omega
theorem DcIn.d64 {d : Dc} (h : DcIn d) : Dc64 d := ⟨h.1, fun n hn k hk => (h.2.2.2 n hn).2.2.2.2.2 k hk⟩
theorem DcIn.len {d : Dc} (h : DcIn d) : d.nodes.length < 2 ^ 63 := h.2.2.1
theorem DcIn.txt {d : Dc} (h : DcIn d) : ∀ n ∈ d.nodes, n.text.size < 2 ^ 63 := fun n hn => (h.2.2.2 n hn).2.2.2.1
theorem DcIn.kid {d : Dc} (h : DcIn d) : ∀ n ∈ d.nodes, n.kids.length < 2 ^ 63 := fun n hn => (h.2.2.2 n hn).2.2.2.2.1
end Go.Proofs.Ytfafehhallbjiaa.Ac
set_option linter.unusedVariables false
set_option linter.unusedSimpArgs false
set_option maxRecDepth 20000
set_option maxHeartbeats 20000000
namespace Go.Proofs.Ytfafehhallbjiaa.Ac
open Go.RowKit
attribute [local simp] mkI_len mkNs_len
noncomputable def tiR (a b : Dc) : List Int × Int := if dokB a && dokB b then (trn a b, 0) else ([], 1)
theorem tiR_len (a b : Dc) : (tiR a b).1.length ≤ a.nodes.length + b.nodes.length := by
  unfold tiR
  split
  · exact trn_len a b
  · exact Nat.zero_le _
theorem ti_spec (a b : Dc) (ha64 : Dc64 a) (hb64 : Dc64 b) (hla : a.nodes.length < 2 ^ 27) (hlb : b.nodes.length < 2 ^ 27) :
    FC Try.prog 19 [(true, dcL a), (true, dcL b)] [(1000, some ⟨0, 1, (tiR a b).1.map intW⟩)] [(false, [.row 1000 0 (tiR a b).1.length]), (false, [.f (iL (tiR a b).2)])] := by
  have hA := l02OK_ok a ha64
  have hB := l02OK_ok b hb64
  cases ka : dokB a with
  | false =>
    have hr : tiR a b = ([], 1) := by simp [tiR, ka]
    rw [ka] at hA
    rw [hr]
    refine gcalls_run tbl_ok mixed Try.func19 rfl Try.ntmps19 (by kernel_rfl) (Nat.le_of_ble_eq_true rfl) rfl rfl (⟨cl_ints _, trivial⟩) ?_; (conv => whnf)
    (refine ⟨([], _), hA, ?_⟩; (conv => whnf))
    (refine ⟨[], [(1000, 240)], ?_⟩; rotate_left)
    all_goals (try (repeat' first | exact trivial | exact rfl | exact tl_pv rfl rfl rfl (List.cons_ne_nil _ _) | exact tl_ints rfl rfl rfl (by simp) | exact tl_txts rfl rfl rfl (by simp) | exact tl_nds rfl rfl rfl (by simp) | ((conv => whnf); first | exact trivial | exact rfl | exact .inr rfl | exact .inl ⟨rfl, rfl⟩ | apply And.intro) | refine tl_int ?_ | refine tl_bool ?_ | refine tl_str ?_ | refine tl_row rfl ?_ | exact cl_ints _ | exact cl_txts _ | exact cl_nds _ | exact cl_mp _ | exact Nat.succ_pos _ | exact pl_ints _ | exact pl_txts _ | exact pl_nds _ | with_reducible refine tl_f ?_)); all_goals (try first | rfl | omega | (rw [IntKind.wrap_i64]; omega) | (simp; done) | (simp; omega))
  | true =>
  rw [ka] at hA
  cases kb : dokB b with
  | false =>
    have hr : tiR a b = ([], 1) := by simp [tiR, kb]
    rw [kb] at hB
    rw [hr]
    refine gcalls_run tbl_ok mixed Try.func19 rfl Try.ntmps19 (by kernel_rfl) (Nat.le_of_ble_eq_true rfl) rfl rfl (⟨cl_ints _, trivial⟩) ?_; (conv => whnf)
    (refine ⟨([], _), hA, ?_⟩; (conv => whnf))
    (refine ⟨([], _), hB, ?_⟩; (conv => whnf))
    (refine ⟨[], [(1000, 240)], ?_⟩; rotate_left)
    all_goals (try (repeat' first | exact trivial | exact rfl | exact tl_pv rfl rfl rfl (List.cons_ne_nil _ _) | exact tl_ints rfl rfl rfl (by simp) | exact tl_txts rfl rfl rfl (by simp) | exact tl_nds rfl rfl rfl (by simp) | ((conv => whnf); first | exact trivial | exact rfl | exact .inr rfl | exact .inl ⟨rfl, rfl⟩ | apply And.intro) | refine tl_int ?_ | refine tl_bool ?_ | refine tl_str ?_ | refine tl_row rfl ?_ | exact cl_ints _ | exact cl_txts _ | exact cl_nds _ | exact cl_mp _ | exact Nat.succ_pos _ | exact pl_ints _ | exact pl_txts _ | exact pl_nds _ | with_reducible refine tl_f ?_)); all_goals (try first | rfl | omega | (rw [IntKind.wrap_i64]; omega) | (simp; done) | (simp; omega))
  | true =>
  rw [kb] at hB
  have hr : tiR a b = (trn a b, 0) := by simp [tiR, ka, kb]
  rw [hr]
  have dA := dokB_iff.1 ka
  have dB := dokB_iff.1 kb
  have hT := l11Turned_ok a b dA.rise dB.rise hla hlb (fun n hn => by have := dA.kl n hn; omega)
  rw [rises_sort] at hT
  change FC _ _ _ [(1000, some ⟨0, 1, (trn a b).map intW⟩)] [(false, [.row 1000 0 (trn a b).length])] at hT
  refine gcalls_run tbl_ok mixed Try.func19 rfl Try.ntmps19 (by kernel_rfl) (Nat.le_of_ble_eq_true rfl) rfl rfl (⟨cl_ints _, trivial⟩) ?_; (conv => whnf)
  (refine ⟨([], _), hA, ?_⟩; (conv => whnf))
  (refine ⟨([], _), hB, ?_⟩; (conv => whnf))
  (refine ⟨(_, _), hT, ?_⟩; (conv => whnf))
  (refine ⟨[], [(1000, 288)], ?_⟩; rotate_left)
  all_goals (try (repeat' first | exact trivial | exact rfl | exact tl_pv rfl rfl rfl (List.cons_ne_nil _ _) | exact tl_ints rfl rfl rfl (by simp) | exact tl_txts rfl rfl rfl (by simp) | exact tl_nds rfl rfl rfl (by simp) | ((conv => whnf); first | exact trivial | exact rfl | exact .inr rfl | exact .inl ⟨rfl, rfl⟩ | apply And.intro) | refine tl_int ?_ | refine tl_bool ?_ | refine tl_str ?_ | refine tl_row rfl ?_ | exact cl_ints _ | exact cl_txts _ | exact cl_nds _ | exact cl_mp _ | exact Nat.succ_pos _ | exact pl_ints _ | exact pl_txts _ | exact pl_nds _ | with_reducible refine tl_f ?_)); all_goals (try first | rfl | omega | (rw [IntKind.wrap_i64]; omega) | (simp; done) | (simp; omega))
theorem ti_impl (a b : Dc) (ha64 : Dc64 a) (hb64 : Dc64 b) (hla : a.nodes.length < 2 ^ 27) (hlb : b.nodes.length < 2 ^ 27) :
    FC Try.prog 21 [(true, dcL a), (true, dcL b)] [(1000, some ⟨0, 1, (tiR a b).1.map intW⟩)] [(false, [.row 1000 0 (tiR a b).1.length]), (false, [.f (iL (tiR a b).2)])] := by
  have hA := docOK_ok a ha64
  have hB := docOK_ok b hb64
  cases ka : dokB a with
  | false =>
    have hr : tiR a b = ([], 1) := by simp [tiR, ka]
    rw [ka] at hA
    rw [hr]
    refine gcalls_run tbl_ok mixed Try.func21 rfl Try.ntmps21 (by kernel_rfl) (Nat.le_of_ble_eq_true rfl) rfl rfl (⟨cl_ints _, trivial⟩) ?_; (conv => whnf)
    (refine ⟨([], _), hA, ?_⟩; (conv => whnf))
    (refine ⟨[], [(1000, 3)], ?_⟩; rotate_left)
    all_goals (try (repeat' first | exact trivial | exact rfl | exact tl_pv rfl rfl rfl (List.cons_ne_nil _ _) | exact tl_ints rfl rfl rfl (by simp) | exact tl_txts rfl rfl rfl (by simp) | exact tl_nds rfl rfl rfl (by simp) | ((conv => whnf); first | exact trivial | exact rfl | exact .inr rfl | exact .inl ⟨rfl, rfl⟩ | apply And.intro) | refine tl_int ?_ | refine tl_bool ?_ | refine tl_str ?_ | refine tl_row rfl ?_ | exact cl_ints _ | exact cl_txts _ | exact cl_nds _ | exact cl_mp _ | exact Nat.succ_pos _ | exact pl_ints _ | exact pl_txts _ | exact pl_nds _ | with_reducible refine tl_f ?_)); all_goals (try first | rfl | omega | (rw [IntKind.wrap_i64]; omega) | (simp; done) | (simp; omega))
  | true =>
  rw [ka] at hA
  cases kb : dokB b with
  | false =>
    have hr : tiR a b = ([], 1) := by simp [tiR, kb]
    rw [kb] at hB
    rw [hr]
    refine gcalls_run tbl_ok mixed Try.func21 rfl Try.ntmps21 (by kernel_rfl) (Nat.le_of_ble_eq_true rfl) rfl rfl (⟨cl_ints _, trivial⟩) ?_; (conv => whnf)
    (refine ⟨([], _), hA, ?_⟩; (conv => whnf))
    (refine ⟨([], _), hB, ?_⟩; (conv => whnf))
    (refine ⟨[], [(1000, 3)], ?_⟩; rotate_left)
    all_goals (try (repeat' first | exact trivial | exact rfl | exact tl_pv rfl rfl rfl (List.cons_ne_nil _ _) | exact tl_ints rfl rfl rfl (by simp) | exact tl_txts rfl rfl rfl (by simp) | exact tl_nds rfl rfl rfl (by simp) | ((conv => whnf); first | exact trivial | exact rfl | exact .inr rfl | exact .inl ⟨rfl, rfl⟩ | apply And.intro) | refine tl_int ?_ | refine tl_bool ?_ | refine tl_str ?_ | refine tl_row rfl ?_ | exact cl_ints _ | exact cl_txts _ | exact cl_nds _ | exact cl_mp _ | exact Nat.succ_pos _ | exact pl_ints _ | exact pl_txts _ | exact pl_nds _ | with_reducible refine tl_f ?_)); all_goals (try first | rfl | omega | (rw [IntKind.wrap_i64]; omega) | (simp; done) | (simp; omega))
  | true =>
  rw [kb] at hB
  have hr : tiR a b = (trn a b, 0) := by simp [tiR, ka, kb]
  rw [hr]
  have dA := dokB_iff.1 ka
  have dB := dokB_iff.1 kb
  have hT := turnedIn_ok a b dA.rise dB.rise (by omega) (by omega) (fun n hn => by have := dA.kl n hn; omega)
  have hl : (unA b.nodes a.nodes ++ nwB a.nodes b.nodes).length = (trn a b).length := (sortI_len _).symm
  rw [hl] at hT
  change FC _ _ _ [(1000, some ⟨0, 1, (trn a b).map intW⟩)] [(false, [.row 1000 0 (trn a b).length])] at hT
  refine gcalls_run tbl_ok mixed Try.func21 rfl Try.ntmps21 (by kernel_rfl) (Nat.le_of_ble_eq_true rfl) rfl rfl (⟨cl_ints _, trivial⟩) ?_; (conv => whnf)
  (refine ⟨([], _), hA, ?_⟩; (conv => whnf))
  (refine ⟨([], _), hB, ?_⟩; (conv => whnf))
  (refine ⟨⟨true, [(1000, 240)], _, _, _, _⟩, hT, ?_⟩; (conv => whnf); refine ⟨⟨?_, ?_, ?_⟩, ?_⟩; rotate_left 3; (conv => whnf))
  (refine ⟨[], [(1000, 240)], ?_⟩; rotate_left)
  all_goals (try (repeat' first | exact trivial | exact rfl | exact tl_pv rfl rfl rfl (List.cons_ne_nil _ _) | exact tl_ints rfl rfl rfl (by simp) | exact tl_txts rfl rfl rfl (by simp) | exact tl_nds rfl rfl rfl (by simp) | ((conv => whnf); first | exact trivial | exact rfl | exact .inr rfl | exact .inl ⟨rfl, rfl⟩ | apply And.intro) | refine tl_int ?_ | refine tl_bool ?_ | refine tl_str ?_ | refine tl_row rfl ?_ | exact cl_ints _ | exact cl_txts _ | exact cl_nds _ | exact cl_mp _ | exact Nat.succ_pos _ | exact pl_ints _ | exact pl_txts _ | exact pl_nds _ | with_reducible refine tl_f ?_)); all_goals (try first | rfl | omega | (rw [IntKind.wrap_i64]; omega) | (simp; done) | (simp; omega))
theorem mkZ_sz (l : List Nd) : mkZ l ≤ 4 * (l.length + szNs l) := by
  induction l with
  | nil => simp [mkZ, szNs]
  | cons n l ih =>
    rw [mkZ_cons, szNs_cons, List.length_cons]
    unfold szN; omega
theorem law_TurnedIn (a b : Dc) (ha : DcIn a) (hb : DcIn b) : FC Try.prog 5 [(true, dcL a), (true, dcL b)] [] [(false, [.f (bL true)])] := by
  have zA := szDoc_ok a (2 ^ 20) (by omega) ha.len ha.txt ha.kid
  refine gcalls_run tbl_ok mixed Try.func5 rfl Try.ntmps5 (by kernel_rfl) (Nat.le_of_ble_eq_true rfl) rfl rfl trivial ?_; (conv => whnf)
  (refine ⟨([], _), zA, ?_⟩; (conv => whnf))
  (refine ⟨fun h => ?_, fun h => ?_⟩ <;> (conv => whnf))
  (refine ⟨[], [], ?_⟩; rotate_left)
  have hA : (szD a : Int) ≤ 2 ^ 20 := by unfold szL at h; split at h <;> omega
  have eA : szL (szD a) (2 ^ 20) = 2 ^ 20 - szD a := by unfold szL; rw [if_pos hA]
  have zB := szDoc_ok b (szL (szD a) (2 ^ 20)) (by rw [eA]; omega) hb.len hb.txt hb.kid
  clear h
  (refine ⟨([], _), zB, ?_⟩; (conv => whnf))
  (refine ⟨fun h => ?_, fun h => ?_⟩ <;> (conv => whnf))
  (refine ⟨[], [], ?_⟩; rotate_left)
  have hB : (szD b : Int) ≤ 2 ^ 20 := by rw [eA] at h; unfold szL at h; split at h <;> omega
  clear h zA zB
  have la : a.nodes.length ≤ 2 ^ 20 := by unfold szD at hA; omega
  have lb : b.nodes.length ≤ 2 ^ 20 := by unfold szD at hB; omega
  have ka : ∀ n ∈ a.nodes, n.kids.length ≤ 2 ^ 20 := fun n hn => by have := szN_le hn; unfold szD at hA; unfold szN at this; omega
  have kb : ∀ n ∈ b.nodes, n.kids.length ≤ 2 ^ 20 := fun n hn => by have := szN_le hn; unfold szD at hB; unfold szN at this; omega
  have tA := toDoc_ok a (by omega) (fun n hn => by have := ka n hn; omega)
  have tB := toDoc_ok b (by omega) (fun n hn => by have := kb n hn; omega)
  have sp := ti_spec a b ha.d64 hb.d64 (by omega) (by omega)
  have im := ti_impl a b ha.d64 hb.d64 (by omega) (by omega)
  have eqa := eqDoc_refl a (by omega) (fun n hn => by have := ka n hn; omega)
  have eqb := eqDoc_refl b (by omega) (fun n hn => by have := kb n hn; omega)
  have hl := tiR_len a b
  generalize tiR a b = r at sp im hl
  obtain ⟨l, c⟩ := r
  dsimp only at sp im hl
  have eql := eqIntS_refl l (by omega)
  have mA : mkZ a.nodes ≤ 2 ^ 22 := by have := mkZ_sz a.nodes; unfold szD at hA; omega
  have mB : mkZ b.nodes ≤ 2 ^ 22 := by have := mkZ_sz b.nodes; unfold szD at hB; omega
  have m1 := markDoc_ok a 1 (by omega)
  have m2 := markDoc_ok b (1 + mkZ a.nodes) (by omega)
  have m3 := markIntS_ok l 1 (by omega)
  have he := heldIntS_ok 1 l.length (by omega)
  (refine ⟨by kernel_rfl, ?_⟩; (conv => whnf))
  (refine ⟨(_, _), tA, ?_⟩; (conv => whnf))
  (refine ⟨(_, _), tB, ?_⟩; (conv => whnf))
  (refine ⟨⟨true, [], _, _, _, _⟩, sp, ?_⟩; (conv => whnf); refine ⟨⟨?_, ?_, ?_⟩, ?_⟩; rotate_left 3; (conv => whnf))
  (refine ⟨by kernel_rfl, ?_⟩; (conv => whnf))
  (refine ⟨(_, _), tA, ?_⟩; (conv => whnf))
  (refine ⟨(_, _), tB, ?_⟩; (conv => whnf))
  (refine ⟨⟨true, [], _, _, _, _⟩, im, ?_⟩; (conv => whnf); refine ⟨⟨?_, ?_, ?_⟩, ?_⟩; rotate_left 3; (conv => whnf))
  (refine ⟨⟨true, [], _, _, _, _⟩, eql, ?_⟩; (conv => whnf); refine ⟨⟨?_, ?_, ?_⟩, ?_⟩; rotate_left 3; (conv => whnf))
  (refine ⟨fun h => absurd rfl h, fun h => ?_⟩; (conv => whnf))
  (refine ⟨by kernel_rfl, ?_⟩; (conv => whnf))
  (refine ⟨(_, _), tA, ?_⟩; (conv => whnf))
  (refine ⟨⟨true, [], _, _, _, _⟩, eqa, ?_⟩; (conv => whnf); refine ⟨⟨?_, ?_, ?_⟩, ?_⟩; rotate_left 3; (conv => whnf))
  (refine ⟨by kernel_rfl, ?_⟩; (conv => whnf))
  (refine ⟨by kernel_rfl, ?_⟩; (conv => whnf))
  (refine ⟨(_, _), tB, ?_⟩; (conv => whnf))
  (refine ⟨⟨true, [], _, _, _, _⟩, eqb, ?_⟩; (conv => whnf); refine ⟨⟨?_, ?_, ?_⟩, ?_⟩; rotate_left 3; (conv => whnf))
  (refine ⟨by kernel_rfl, ?_⟩; (conv => whnf))
  (refine ⟨⟨false, [(1, 592)], _, _, _, _⟩, m1, ?_⟩; (conv => whnf); refine ⟨⟨?_, ?_, ?_⟩, ?_⟩; rotate_left 3; (conv => whnf))
  (refine ⟨⟨false, [(1, 624)], _, _, _, _⟩, m2, ?_⟩; (conv => whnf); refine ⟨⟨?_, ?_, ?_⟩, ?_⟩; rotate_left 3; (conv => whnf))
  (refine ⟨fun h => absurd h (by omega), fun h => ?_⟩; (conv => whnf))
  (refine ⟨⟨true, [], _, _, _, _⟩, eql, ?_⟩; (conv => whnf); refine ⟨⟨?_, ?_, ?_⟩, ?_⟩; rotate_left 3; (conv => whnf))
  (refine ⟨fun h => absurd rfl h, fun h => ?_⟩; (conv => whnf))
  (refine ⟨⟨false, [(1, 688)], _, _, _, _⟩, m3, ?_⟩; (conv => whnf); refine ⟨⟨?_, ?_, ?_⟩, ?_⟩; rotate_left 3; (conv => whnf))
  (refine ⟨⟨true, [], _, _, _, _⟩, he, ?_⟩; (conv => whnf); refine ⟨⟨?_, ?_, ?_⟩, ?_⟩; rotate_left 3; (conv => whnf))
  (refine ⟨fun h => absurd h (by omega), fun h => ?_⟩; (conv => whnf))
  (refine ⟨fun h => absurd rfl h, fun h => ?_⟩; (conv => whnf))
  (refine ⟨by kernel_rfl, ?_⟩; (conv => whnf))
  (refine ⟨(_, _), tA, ?_⟩; (conv => whnf))
  (refine ⟨(_, _), tB, ?_⟩; (conv => whnf))
  (refine ⟨⟨true, [], _, _, _, _⟩, im, ?_⟩; (conv => whnf); refine ⟨⟨?_, ?_, ?_⟩, ?_⟩; rotate_left 3; (conv => whnf))
  (refine ⟨by kernel_rfl, ?_⟩; (conv => whnf))
  (refine ⟨⟨true, [], _, _, _, _⟩, eql, ?_⟩; (conv => whnf); refine ⟨⟨?_, ?_, ?_⟩, ?_⟩; rotate_left 3; (conv => whnf))
  (refine ⟨fun h => absurd rfl h, fun h => ?_⟩; (conv => whnf))
  (refine ⟨⟨true, [], _, _, _, _⟩, he, ?_⟩; (conv => whnf); refine ⟨⟨?_, ?_, ?_⟩, ?_⟩; rotate_left 3; (conv => whnf))
  (refine ⟨fun h => absurd h (by omega), fun h => ?_⟩; (conv => whnf))
  (refine ⟨fun h => absurd rfl h, fun h => ?_⟩; (conv => whnf))
  (refine ⟨[], [], ?_⟩; rotate_left)
  all_goals (try (repeat' first | exact trivial | exact rfl | exact tl_pv rfl rfl rfl (List.cons_ne_nil _ _) | exact tl_ints rfl rfl rfl (by simp) | exact tl_txts rfl rfl rfl (by simp) | exact tl_nds rfl rfl rfl (by simp) | ((conv => whnf); first | exact trivial | exact rfl | exact .inr rfl | exact .inl ⟨rfl, rfl⟩ | apply And.intro) | refine tl_int ?_ | refine tl_bool ?_ | refine tl_str ?_ | refine tl_row rfl ?_ | exact cl_ints _ | exact cl_txts _ | exact cl_nds _ | exact cl_mp _ | exact Nat.succ_pos _ | exact pl_ints _ | exact pl_txts _ | exact pl_nds _ | with_reducible refine tl_f ?_)); all_goals (try first | rfl | omega | (rw [IntKind.wrap_i64]; omega) | (simp; done) | (simp; omega))
end Go.Proofs.Ytfafehhallbjiaa.Ac
