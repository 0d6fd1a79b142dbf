/- Several of our texts, one behind the other, without what this claim does not need: Ws, Tu, Sa. -/
import Derived.Test.YtecnmodeggnjoaaGreatZ855f7bb1
import Derived.Test.YtecnmodeggnjoaaGreatZc78cb4ad
import Derived.Test.YtecnmodeggnjoaaGreatZe2002630
import Derived.Test.YtecnmodeggnjoaaGreatZ9354350e
import Derived.Test.YtecnmodeggnjoaaGreatZde51322d
set_option linter.unusedVariables false
set_option linter.unusedSimpArgs false
namespace Go.Proofs.YtecnmodeggnjoaaGreat.Ac
open Go.RowKit
theorem grow_ok {h : Array Obj} {H : Hp} {φ : Phi} (k : HeapOK h H φ) (os : Array Obj) : HeapOK (h ++ os) H φ ∧ Turn h H φ (h ++ os) H φ := by
  have e : ∀ b, b < h.size → (h ++ os)[b]? = h[b]? := fun b hb => by rw [Array.getElem?_append_left hb]
  have t : Turn h H φ (h ++ os) H φ := ⟨rfl, fun b hb hO => ⟨hO, e b hb⟩, fun n h => h, fun n ob hn => .inr ⟨ob, hn, rfl, rfl, Nat.le_refl _⟩⟩
  exact ⟨all_ob (fun n ob hn => (k.ob n ob hn).keep (fun _ _ r => r.turn t) (fun q => rfl) fun q hd hq => e _ (k.lt _ hd hq)) (fun X hd hX => by have := k.lt X hd hX; simp; omega) k.apart (fun b hb => by have := k.old b hb; simp; omega) k.inj, t⟩
def sortI (l : List Int) : List Int := l.mergeSort fun x y => decide (x ≤ y)
theorem sortI_len (l : List Int) : (sortI l).length = l.length := by simp [sortI]
theorem sortT_ok (l t : List Int) (hlen : l.length < 2 ^ 30) : GCalls Tryz.prog 256 [(1, some ⟨0, 1, (l ++ t).map intW⟩)] [(false, [.row 1 0 l.length])] [(1, some ⟨0, 1, (sortI l ++ t).map intW⟩)] [] := by
  refine ⟨clHs_of (show clHs [(1, some ⟨0, 1, (sortI l ++ t).map intW⟩)] from ⟨cl_ints _, trivial⟩), (fun n h => by simp only [hasN, get] at h ⊢; cases hb : Nat.beq 1 n <;> simp_all), ⟨rfl, rfl⟩, fun φ w us hok hr => .inl ⟨⟨_, Tryz.func256, by kernel_rfl, by kernel_rfl⟩, ?_⟩⟩
  cases us with
  | nil => exact hr.elim
  | cons u us =>
    cases us with
    | cons _ _ => exact hr.2.elim
    | nil =>
      obtain ⟨x, hx, rx⟩ := hr.1
      cases hx
      cases rx with
      | row _ _ _ _ r =>
        have r2 := r.2
        simp only [get, Nat.beq, cond_true] at r2
        obtain ⟨_, _, r3⟩ := r2
        rcases (hok.ob 1 _ rfl).row (fun h => by cases h) with ⟨h0, hp⟩ | ⟨hd, c, ty, g1, g2, g3, _, g5⟩
        · obtain ⟨rfl, rfl⟩ : l = [] ∧ t = [] := by simpa using h0
          rw [hp] at r3
          obtain ⟨a, rfl⟩ := r3
          refine (Tryz.slices_Sort_int_none a 0 w).mono ?_
          rintro e w' ⟨rfl, rfl⟩
          have e0 : sortI [] = [] := by simp [sortI]
          rw [e0]
          exact ⟨_, φ, rfl, ⟨#[], rfl, trivial⟩, hok, Turn.refl _ _ _, rfl, rfl, rfl, Nat.le_refl _⟩
        · rw [g1] at r3
          obtain ⟨a, rfl, ha⟩ := r3
          rw [ha (by simp)]
          have hsz : l.length + t.length ≤ hd.cap := by have := g3.le; simpa using this
          have hcs : c.size = hd.off + hd.cap := by have := g3.size; simpa using this
          have hcell : ∀ j (hj : j < l.length), c[hd.off + j]? = some (.int .i64 l[j]) := by
            intro j hj
            have := g5 j (intW l[j]) 0 _ (by rw [List.getElem?_map, List.getElem?_append_left hj, List.getElem?_eq_getElem hj]; rfl) rfl
            cases this with
            | e _ _ _ r =>
              have hv : ∀ {u : Value}, RepE w.heap (get [(1, some ⟨0, 1, (l ++ t).map intW⟩)]) φ (.f (iL l[j])) u → u = .int .i64 l[j] := by
                intro u r
                cases r with
                | f _ _ r => cases r; rfl
              have h1 := hv r
              have hlt : hd.off + j < c.size := by omega
              simp only [Nat.mul_one, Nat.add_zero] at h1
              rw [Array.getElem?_eq_getElem hlt]
              simpa [hlt] using h1
          have hH : Go.Sort.Holds (Value.int .i64) w hd.b hd.off l.toArray := by
            intro j hj
            have hj' : j < l.length := by simpa using hj
            refine ⟨?_, ?_⟩
            · simp only [World.cell?, g2]
              rw [if_neg (by simp), hcell j hj']
              simp [hj']
            · simp [World.frozen?, g2]
          have hlt := lt_of_get g2
          refine (Tryz.slices_Sort_int hd.b hd.off _ l w hH hlt (by omega)).mono ?_
          rintro e w' ⟨rfl, n, os, rfl⟩
          have hpb : (Go.Sort.putRow (Value.int .i64) (Go.Sort.ahead w n) hd.b hd.off (sortI l).toArray).heap[hd.b]? = some (.cells (Go.Sort.putCells (Value.int .i64) hd.off (sortI l).toArray c) ty (0, 0)) := by
            simp [Go.Sort.putRow, Go.Sort.mapBlock, Go.Sort.ahead, Array.getElem?_modify, g2, Go.Sort.onCells]
          have hpo : ∀ m, m ≠ hd.b → (Go.Sort.putRow (Value.int .i64) (Go.Sort.ahead w n) hd.b hd.off (sortI l).toArray).heap[m]? = w.heap[m]? := by
            intro m hm
            simp [Go.Sort.putRow, Go.Sort.mapBlock, Go.Sort.ahead, Array.getElem?_modify, Ne.symm hm]
          have hps : (Go.Sort.putCells (Value.int .i64) hd.off (sortI l).toArray c).size = c.size := by simp [Go.Sort.putCells]
          have hpc : ∀ k, (Go.Sort.putCells (Value.int .i64) hd.off (sortI l).toArray c)[k]? = (c[k]?).map fun x => if hd.off ≤ k ∧ k < hd.off + (sortI l).length then .int .i64 ((sortI l).toArray[k - hd.off]!) else x := by
            intro k
            simp [Go.Sort.putCells]
          have hrow : RowOK 1 ((sortI l ++ t).map intW) hd (Go.Sort.putCells (Value.int .i64) hd.off (sortI l).toArray c) := by
            refine ⟨Nat.succ_pos _, fun e he => by obtain ⟨x, _, rfl⟩ := List.mem_map.1 he; rfl, by simpa [sortI_len] using hsz, g3.cap, by rw [hps]; exact g3.size, fun k hk => ?_⟩
            have hk' : k < c.size := by rw [← hps]; exact hk
            have h1 := hpc k
            rw [Array.getElem?_eq_getElem hk'] at h1
            have h2 := g3.one k hk'
            simp only [Array.getD_eq_getD_getElem?, h1, Array.getElem?_eq_getElem hk', Option.map_some, Option.getD_some] at h2 ⊢
            split
            · rfl
            · exact h2
          have hcl : ∀ i e j x, ((sortI l ++ t).map intW)[i]? = some e → e[j]? = some x → RepA w.heap (get [(1, some ⟨0, 1, (l ++ t).map intW⟩)]) φ (1, [(i, j)]) x ((Go.Sort.putCells (Value.int .i64) hd.off (sortI l).toArray c).getD (hd.off + i * 1 + j) undef) := by
            intro i e j x hi hj
            have hit : i < (sortI l ++ t).length := by
              have := (List.getElem?_eq_some_iff.1 hi).1
              simpa using this
            have hit' : i < l.length + t.length := by rw [List.length_append, sortI_len] at hit; exact hit
            cases j with
            | succ j =>
              obtain ⟨y, _, rfl⟩ := List.mem_map.1 (List.mem_of_getElem? hi)
              simp at hj
            | zero =>
              have hk' : hd.off + i < c.size := by omega
              have h1 := hpc (hd.off + i)
              rw [Array.getElem?_eq_getElem hk'] at h1
              by_cases hil : i < (sortI l).length
              · have hi2 : e = intW (sortI l)[i] := by
                  rw [List.getElem?_map, List.getElem?_append_left hil, List.getElem?_eq_getElem hil] at hi
                  exact (Option.some.inj hi).symm
                subst hi2
                cases hj
                refine .e _ _ _ (.f _ _ ?_)
                simp only [Nat.mul_one, Nat.add_zero, Array.getD_eq_getD_getElem?, h1, Option.map_some, Option.getD_some]
                rw [if_pos (by omega)]
                simp only [Nat.add_sub_cancel_left]
                have e3 : (sortI l).toArray[i]! = (sortI l)[i] := by simp [hil]
                rw [e3]
                exact .v _ rfl
              · have h5 := g5 i e 0 x (by
                  rw [List.getElem?_map, List.getElem?_append_right (by rw [sortI_len] at hil; omega)]
                  rw [List.getElem?_map, List.getElem?_append_right (by omega), sortI_len] at hi
                  exact hi) hj
                simp only [Nat.mul_one, Nat.add_zero, Array.getD_eq_getD_getElem?, h1, Option.map_some, Option.getD_some, Array.getElem?_eq_getElem hk'] at h5 ⊢
                rw [if_neg (by omega)]
                exact h5
          obtain ⟨ok1, t1⟩ := upd_ok (h' := (Go.Sort.putRow (Value.int .i64) (Go.Sort.ahead w n) hd.b hd.off (sortI l).toArray).heap) (ob' := ⟨0, 1, (sortI l ++ t).map intW⟩) hok (fun h => by cases h) (show get [(1, (some ⟨0, 1, (l ++ t).map intW⟩ : Option Ob))] 1 = some (some ⟨0, 1, (l ++ t).map intW⟩) from rfl) g1 hpo hpb rfl (by simp [sortI_len]) hrow (fun h => absurd rfl h) hcl
          obtain ⟨ok2, t2⟩ := grow_ok ok1 os
          refine ⟨_, φ, rfl, ⟨#[], rfl, trivial⟩, ?_, ?_, rfl, rfl, rfl, ?_⟩
          · have e1 : put1 (get [(1, some ⟨0, 1, (l ++ t).map intW⟩)]) 1 (some ⟨0, 1, (sortI l ++ t).map intW⟩) = get [(1, some ⟨0, 1, (sortI l ++ t).map intW⟩)] := by
              funext q
              by_cases hq : q = 1
              · subst hq; rw [put1_self]; rfl
              · rw [put1_ne _ hq, get_cons_ne _ _ (Ne.symm hq), get_cons_ne _ _ (Ne.symm hq)]
            rw [e1] at ok2 
            exact ok2
          · have e1 : put1 (get [(1, some ⟨0, 1, (l ++ t).map intW⟩)]) 1 (some ⟨0, 1, (sortI l ++ t).map intW⟩) = get [(1, some ⟨0, 1, (sortI l ++ t).map intW⟩)] := by
              funext q
              by_cases hq : q = 1
              · subst hq; rw [put1_self]; rfl
              · rw [put1_ne _ hq, get_cons_ne _ _ (Ne.symm hq), get_cons_ne _ _ (Ne.symm hq)]
            have := t1.trans t2
            rw [e1] at this
            exact this
          · simp [Go.Sort.grow, Go.Sort.putRow, Go.Sort.mapBlock, Go.Sort.ahead]
theorem sort_ok (l : List Int) (hlen : l.length < 2 ^ 30) : GCalls Tryz.prog 256 [(1, some ⟨0, 1, l.map intW⟩)] [(false, [.row 1 0 l.length])] [(1, some ⟨0, 1, (sortI l).map intW⟩)] [] := by
  have h := sortT_ok l [] hlen
  rw [List.append_nil, List.append_nil] at h
  exact h
end Go.Proofs.YtecnmodeggnjoaaGreat.Ac
set_option linter.unusedVariables false
set_option linter.unusedSimpArgs false
namespace Go.Proofs.YtecnmodeggnjoaaGreat.Ac
theorem riseF_perm (n : Int) : ∀ l : List Int, (riseF l n).Perm (n :: l)
  | [] => .refl _
  | x :: l => by
    simp only [riseF]
    split
    · exact .refl _
    · exact (List.Perm.cons x (riseF_perm n l)).trans (List.Perm.swap n x l)
theorem riseF_sorted (n : Int) : ∀ l : List Int, l.Pairwise (· ≤ ·) → (riseF l n).Pairwise (· ≤ ·)
  | [], _ => by simp [riseF]
  | x :: l, h => by
    obtain ⟨h1, h2⟩ := List.pairwise_cons.1 h
    simp only [riseF]
    split
    · rename_i hx
      refine List.pairwise_cons.2 ⟨fun y hy => ?_, h⟩
      rcases List.mem_cons.1 hy with rfl | hy
      · omega
      · have := h1 y hy; omega
    · rename_i hx
      refine List.pairwise_cons.2 ⟨fun y hy => ?_, riseF_sorted n l h2⟩
      rcases List.mem_cons.1 ((riseF_perm n l).mem_iff.1 hy) with rfl | hy
      · omega
      · exact h1 y hy
theorem sorted_eq : ∀ {l m : List Int}, l.Perm m → l.Pairwise (· ≤ ·) → m.Pairwise (· ≤ ·) → l = m
  | [], m, h, _, _ => (List.Perm.nil_eq h)
  | x :: l, [], h, _, _ => (List.Perm.eq_nil h)
  | x :: l, y :: m, h, hl, hm => by
    obtain ⟨a1, a2⟩ := List.pairwise_cons.1 hl
    obtain ⟨b1, b2⟩ := List.pairwise_cons.1 hm
    have hxy : x = y := by
      have h1 : x ∈ y :: m := h.mem_iff.1 (by simp)
      have h2 : y ∈ x :: l := h.mem_iff.2 (by simp)
      rcases List.mem_cons.1 h1 with e | h1
      · exact e
      · rcases List.mem_cons.1 h2 with e | h2
        · exact e.symm
        · have := b1 x h1; have := a1 y h2; omega
    subst hxy
    rw [sorted_eq (List.Perm.cons_inv h) a2 b2]
theorem rises_perm : ∀ (ks acc : List Int), (ks.foldl riseF acc).Perm (ks ++ acc)
  | [], acc => .refl _
  | k :: ks, acc => by
    rw [List.foldl_cons]
    refine (rises_perm ks _).trans ?_
    refine (List.Perm.append_left ks (riseF_perm k acc)).trans ?_
    exact List.perm_middle
theorem rises_sorted : ∀ (ks acc : List Int), acc.Pairwise (· ≤ ·) → (ks.foldl riseF acc).Pairwise (· ≤ ·)
  | [], acc, h => h
  | k :: ks, acc, h => by rw [List.foldl_cons]; exact rises_sorted ks _ (riseF_sorted k acc h)
theorem rises_sort (ks : List Int) : ks.foldl riseF [] = sortI ks := by
  refine sorted_eq ?_ (rises_sorted ks [] List.Pairwise.nil) ?_
  · have h1 := rises_perm ks []
    rw [List.append_nil] at h1
    exact h1.trans (List.mergeSort_perm ks _).symm
  · have := List.pairwise_mergeSort (le := fun x y : Int => decide (x ≤ y)) (fun a b c h1 h2 => by simp at *; omega) (fun a b => by simp; omega) ks
    unfold sortI
    exact this.imp fun h => by simpa using h
end Go.Proofs.YtecnmodeggnjoaaGreat.Ac
set_option linter.unusedVariables false
set_option linter.unusedSimpArgs false
set_option maxRecDepth 20000
set_option maxHeartbeats 20000000
namespace Go.Proofs.YtecnmodeggnjoaaGreat.Ac
open Go.RowKit
theorem FC.t {P : Program} {f : FuncId} {a : List (Bool × List L)} {H1 : Hs} {p : Prop} [Decidable p] (h : FC P f a H1 [(false, [.f (bL (decide p))])]) (hp : p) : FC P f a H1 [(false, [.f (bL true)])] := by rwa [decide_eq_true hp] at h
theorem FC.n {P : Program} {f : FuncId} {a : List (Bool × List L)} {H1 : Hs} {p : Prop} [Decidable p] (h : FC P f a H1 [(false, [.f (bL (decide p))])]) (hp : ¬ p) : FC P f a H1 [(false, [.f (bL false)])] := by rwa [decide_eq_false hp] at h
@[reducible] def uL (c : Int) : L := .v (.int .u8 c)
def LetP (c : Int) : Prop := 97 ≤ c ∧ c ≤ 122 ∨ 65 ≤ c ∧ c ≤ 90 ∨ c = 95
def DigP (c : Int) : Prop := 48 ≤ c ∧ c ≤ 57
instance (c : Int) : Decidable (LetP c) := by unfold LetP; infer_instance
instance (c : Int) : Decidable (DigP c) := by unfold DigP; infer_instance
noncomputable def dB (p : Prop) : Bool := @decide p (Classical.propDecidable _)
theorem dB_iff {p : Prop} : dB p = true ↔ p := by unfold dB; exact @decide_eq_true_iff _ (Classical.propDecidable _)
theorem dB_yes {p : Prop} (h : p) : dB p = true := dB_iff.2 h
theorem dB_no {p : Prop} (h : ¬ p) : dB p = false := by
  cases e : dB p with
  | false => rfl
  | true => exact absurd (dB_iff.1 e) h
theorem FC.y {P : Program} {f : FuncId} {a : List (Bool × List L)} {H1 : Hs} {p : Prop} (h : FC P f a H1 [(false, [.f (bL (dB p))])]) (hp : p) : FC P f a H1 [(false, [.f (bL true)])] := by rwa [dB_yes hp] at h
theorem FC.x {P : Program} {f : FuncId} {a : List (Bool × List L)} {H1 : Hs} {p : Prop} (h : FC P f a H1 [(false, [.f (bL (dB p))])]) (hp : ¬ p) : FC P f a H1 [(false, [.f (bL false)])] := by rwa [dB_no hp] at h
end Go.Proofs.YtecnmodeggnjoaaGreat.Ac
