/- Several of our texts, one behind the other, without what this claim does not need: Ws, Tu, Rc. -/
import Derived.Test.YtchfpgpboifbeaaGreatZ06dedf39
import Derived.Test.YtchfpgpboifbeaaGreatZ5140f3b8
set_option linter.unusedVariables false
set_option linter.unusedSimpArgs false
namespace Go.Proofs.YtchfpgpboifbeaaGreat.Ac
open Go.RowKit
theorem grow_ok {h : Array Obj} {H : Hp} {φ : Phi} (k : HeapOK h H φ) (os : Array Obj) : HeapOK (h ++ os) H φ ∧ Turn h H φ (h ++ os) H φ := by
  have e : ∀ b, b < h.size → (h ++ os)[b]? = h[b]? := fun b hb => by rw [Array.getElem?_append_left hb]
  have t : Turn h H φ (h ++ os) H φ := ⟨rfl, fun b hb hO => ⟨hO, e b hb⟩, fun n h => h, fun n ob hn => .inr ⟨ob, hn, rfl, rfl, Nat.le_refl _⟩⟩
  exact ⟨all_ob (fun n ob hn => (k.ob n ob hn).keep (fun _ _ r => r.turn t) (fun q => rfl) fun q hd hq => e _ (k.lt _ hd hq)) (fun X hd hX => by have := k.lt X hd hX; simp; omega) k.apart (fun b hb => by have := k.old b hb; simp; omega) k.inj, t⟩
def sortI (l : List Int) : List Int := l.mergeSort fun x y => decide (x ≤ y)
theorem sortI_len (l : List Int) : (sortI l).length = l.length := by simp [sortI]
theorem sortT_ok (l t : List Int) (hlen : l.length < 2 ^ 30) : GCalls Tryz.prog 249 [(1, some ⟨0, 1, (l ++ t).map intW⟩)] [(false, [.row 1 0 l.length])] [(1, some ⟨0, 1, (sortI l ++ t).map intW⟩)] [] := by
  refine ⟨clHs_of (show clHs [(1, some ⟨0, 1, (sortI l ++ t).map intW⟩)] from ⟨cl_ints _, trivial⟩), (fun n h => by simp only [hasN, get] at h ⊢; cases hb : Nat.beq 1 n <;> simp_all), ⟨rfl, rfl⟩, fun φ w us hok hr => .inl ⟨⟨_, Tryz.func249, by kernel_rfl, by kernel_rfl⟩, ?_⟩⟩
  cases us with
  | nil => exact hr.elim
  | cons u us =>
    cases us with
    | cons _ _ => exact hr.2.elim
    | nil =>
      obtain ⟨x, hx, rx⟩ := hr.1
      cases hx
      cases rx with
      | row _ _ _ _ r =>
        have r2 := r.2
        simp only [get, Nat.beq, cond_true] at r2
        obtain ⟨_, _, r3⟩ := r2
        rcases (hok.ob 1 _ rfl).row (fun h => by cases h) with ⟨h0, hp⟩ | ⟨hd, c, ty, g1, g2, g3, _, g5⟩
        · obtain ⟨rfl, rfl⟩ : l = [] ∧ t = [] := by simpa using h0
          rw [hp] at r3
          obtain ⟨a, rfl⟩ := r3
          refine (Tryz.slices_Sort_int_none a 0 w).mono ?_
          rintro e w' ⟨rfl, rfl⟩
          have e0 : sortI [] = [] := by simp [sortI]
          rw [e0]
          exact ⟨_, φ, rfl, ⟨#[], rfl, trivial⟩, hok, Turn.refl _ _ _, rfl, rfl, rfl, Nat.le_refl _⟩
        · rw [g1] at r3
          obtain ⟨a, rfl, ha⟩ := r3
          rw [ha (by simp)]
          have hsz : l.length + t.length ≤ hd.cap := by have := g3.le; simpa using this
          have hcs : c.size = hd.off + hd.cap := by have := g3.size; simpa using this
          have hcell : ∀ j (hj : j < l.length), c[hd.off + j]? = some (.int .i64 l[j]) := by
            intro j hj
            have := g5 j (intW l[j]) 0 _ (by rw [List.getElem?_map, List.getElem?_append_left hj, List.getElem?_eq_getElem hj]; rfl) rfl
            cases this with
            | e _ _ _ r =>
              have hv : ∀ {u : Value}, RepE w.heap (get [(1, some ⟨0, 1, (l ++ t).map intW⟩)]) φ (.f (iL l[j])) u → u = .int .i64 l[j] := by
                intro u r
                cases r with
                | f _ _ r => cases r; rfl
              have h1 := hv r
              have hlt : hd.off + j < c.size := by omega
              simp only [Nat.mul_one, Nat.add_zero] at h1
              rw [Array.getElem?_eq_getElem hlt]
              simpa [hlt] using h1
          have hH : Go.Sort.Holds (Value.int .i64) w hd.b hd.off l.toArray := by
            intro j hj
            have hj' : j < l.length := by simpa using hj
            refine ⟨?_, ?_⟩
            · simp only [World.cell?, g2]
              rw [if_neg (by simp), hcell j hj']
              simp [hj']
            · simp [World.frozen?, g2]
          have hlt := lt_of_get g2
          refine (Tryz.slices_Sort_int hd.b hd.off _ l w hH hlt (by omega)).mono ?_
          rintro e w' ⟨rfl, n, os, rfl⟩
          have hpb : (Go.Sort.putRow (Value.int .i64) (Go.Sort.ahead w n) hd.b hd.off (sortI l).toArray).heap[hd.b]? = some (.cells (Go.Sort.putCells (Value.int .i64) hd.off (sortI l).toArray c) ty (0, 0)) := by
            simp [Go.Sort.putRow, Go.Sort.mapBlock, Go.Sort.ahead, Array.getElem?_modify, g2, Go.Sort.onCells]
          have hpo : ∀ m, m ≠ hd.b → (Go.Sort.putRow (Value.int .i64) (Go.Sort.ahead w n) hd.b hd.off (sortI l).toArray).heap[m]? = w.heap[m]? := by
            intro m hm
            simp [Go.Sort.putRow, Go.Sort.mapBlock, Go.Sort.ahead, Array.getElem?_modify, Ne.symm hm]
          have hps : (Go.Sort.putCells (Value.int .i64) hd.off (sortI l).toArray c).size = c.size := by simp [Go.Sort.putCells]
          have hpc : ∀ k, (Go.Sort.putCells (Value.int .i64) hd.off (sortI l).toArray c)[k]? = (c[k]?).map fun x => if hd.off ≤ k ∧ k < hd.off + (sortI l).length then .int .i64 ((sortI l).toArray[k - hd.off]!) else x := by
            intro k
            simp [Go.Sort.putCells]
          have hrow : RowOK 1 ((sortI l ++ t).map intW) hd (Go.Sort.putCells (Value.int .i64) hd.off (sortI l).toArray c) := by
            refine ⟨Nat.succ_pos _, fun e he => by obtain ⟨x, _, rfl⟩ := List.mem_map.1 he; rfl, by simpa [sortI_len] using hsz, g3.cap, by rw [hps]; exact g3.size, fun k hk => ?_⟩
            have hk' : k < c.size := by rw [← hps]; exact hk
            have h1 := hpc k
            rw [Array.getElem?_eq_getElem hk'] at h1
            have h2 := g3.one k hk'
            simp only [Array.getD_eq_getD_getElem?, h1, Array.getElem?_eq_getElem hk', Option.map_some, Option.getD_some] at h2 ⊢
            split
            · rfl
            · exact h2
          have hcl : ∀ i e j x, ((sortI l ++ t).map intW)[i]? = some e → e[j]? = some x → RepA w.heap (get [(1, some ⟨0, 1, (l ++ t).map intW⟩)]) φ (1, [(i, j)]) x ((Go.Sort.putCells (Value.int .i64) hd.off (sortI l).toArray c).getD (hd.off + i * 1 + j) undef) := by
            intro i e j x hi hj
            have hit : i < (sortI l ++ t).length := by
              have := (List.getElem?_eq_some_iff.1 hi).1
              simpa using this
            have hit' : i < l.length + t.length := by rw [List.length_append, sortI_len] at hit; exact hit
            cases j with
            | succ j =>
              obtain ⟨y, _, rfl⟩ := List.mem_map.1 (List.mem_of_getElem? hi)
              simp at hj
            | zero =>
              have hk' : hd.off + i < c.size := by omega
              have h1 := hpc (hd.off + i)
              rw [Array.getElem?_eq_getElem hk'] at h1
              by_cases hil : i < (sortI l).length
              · have hi2 : e = intW (sortI l)[i] := by
                  rw [List.getElem?_map, List.getElem?_append_left hil, List.getElem?_eq_getElem hil] at hi
                  exact (Option.some.inj hi).symm
                subst hi2
                cases hj
                refine .e _ _ _ (.f _ _ ?_)
                simp only [Nat.mul_one, Nat.add_zero, Array.getD_eq_getD_getElem?, h1, Option.map_some, Option.getD_some]
                rw [if_pos (by omega)]
                simp only [Nat.add_sub_cancel_left]
                have e3 : (sortI l).toArray[i]! = (sortI l)[i] := by simp [hil]
                rw [e3]
                exact .v _ rfl
              · have h5 := g5 i e 0 x (by
                  rw [List.getElem?_map, List.getElem?_append_right (by rw [sortI_len] at hil; omega)]
                  rw [List.getElem?_map, List.getElem?_append_right (by omega), sortI_len] at hi
                  exact hi) hj
                simp only [Nat.mul_one, Nat.add_zero, Array.getD_eq_getD_getElem?, h1, Option.map_some, Option.getD_some, Array.getElem?_eq_getElem hk'] at h5 ⊢
                rw [if_neg (by omega)]
                exact h5
          obtain ⟨ok1, t1⟩ := upd_ok (h' := (Go.Sort.putRow (Value.int .i64) (Go.Sort.ahead w n) hd.b hd.off (sortI l).toArray).heap) (ob' := ⟨0, 1, (sortI l ++ t).map intW⟩) hok (fun h => by cases h) (show get [(1, (some ⟨0, 1, (l ++ t).map intW⟩ : Option Ob))] 1 = some (some ⟨0, 1, (l ++ t).map intW⟩) from rfl) g1 hpo hpb rfl (by simp [sortI_len]) hrow (fun h => absurd rfl h) hcl
          obtain ⟨ok2, t2⟩ := grow_ok ok1 os
          refine ⟨_, φ, rfl, ⟨#[], rfl, trivial⟩, ?_, ?_, rfl, rfl, rfl, ?_⟩
          · have e1 : put1 (get [(1, some ⟨0, 1, (l ++ t).map intW⟩)]) 1 (some ⟨0, 1, (sortI l ++ t).map intW⟩) = get [(1, some ⟨0, 1, (sortI l ++ t).map intW⟩)] := by
              funext q
              by_cases hq : q = 1
              · subst hq; rw [put1_self]; rfl
              · rw [put1_ne _ hq, get_cons_ne _ _ (Ne.symm hq), get_cons_ne _ _ (Ne.symm hq)]
            rw [e1] at ok2 
            exact ok2
          · have e1 : put1 (get [(1, some ⟨0, 1, (l ++ t).map intW⟩)]) 1 (some ⟨0, 1, (sortI l ++ t).map intW⟩) = get [(1, some ⟨0, 1, (sortI l ++ t).map intW⟩)] := by
              funext q
              by_cases hq : q = 1
              · subst hq; rw [put1_self]; rfl
              · rw [put1_ne _ hq, get_cons_ne _ _ (Ne.symm hq), get_cons_ne _ _ (Ne.symm hq)]
            have := t1.trans t2
            rw [e1] at this
            exact this
          · simp [Go.Sort.grow, Go.Sort.putRow, Go.Sort.mapBlock, Go.Sort.ahead]
theorem sort_ok (l : List Int) (hlen : l.length < 2 ^ 30) : GCalls Tryz.prog 249 [(1, some ⟨0, 1, l.map intW⟩)] [(false, [.row 1 0 l.length])] [(1, some ⟨0, 1, (sortI l).map intW⟩)] [] := by
  have h := sortT_ok l [] hlen
  rw [List.append_nil, List.append_nil] at h
  exact h
end Go.Proofs.YtchfpgpboifbeaaGreat.Ac
set_option linter.unusedVariables false
set_option linter.unusedSimpArgs false
namespace Go.Proofs.YtchfpgpboifbeaaGreat.Ac
theorem riseF_perm (n : Int) : ∀ l : List Int, (riseF l n).Perm (n :: l)
  | [] => .refl _
  | x :: l => by
    simp only [riseF]
    split
    · exact .refl _
    · exact (List.Perm.cons x (riseF_perm n l)).trans (List.Perm.swap n x l)
theorem riseF_sorted (n : Int) : ∀ l : List Int, l.Pairwise (· ≤ ·) → (riseF l n).Pairwise (· ≤ ·)
  | [], _ => by simp [riseF]
  | x :: l, h => by
    obtain ⟨h1, h2⟩ := List.pairwise_cons.1 h
    simp only [riseF]
    split
    · rename_i hx
      refine List.pairwise_cons.2 ⟨fun y hy => ?_, h⟩
      rcases List.mem_cons.1 hy with rfl | hy
      · omega
      · have := h1 y hy; omega
    · rename_i hx
      refine List.pairwise_cons.2 ⟨fun y hy => ?_, riseF_sorted n l h2⟩
      rcases List.mem_cons.1 ((riseF_perm n l).mem_iff.1 hy) with rfl | hy
      · omega
      · exact h1 y hy
theorem sorted_eq : ∀ {l m : List Int}, l.Perm m → l.Pairwise (· ≤ ·) → m.Pairwise (· ≤ ·) → l = m
  | [], m, h, _, _ => (List.Perm.nil_eq h)
  | x :: l, [], h, _, _ => (List.Perm.eq_nil h)
  | x :: l, y :: m, h, hl, hm => by
    obtain ⟨a1, a2⟩ := List.pairwise_cons.1 hl
    obtain ⟨b1, b2⟩ := List.pairwise_cons.1 hm
    have hxy : x = y := by
      have h1 : x ∈ y :: m := h.mem_iff.1 (by simp)
      have h2 : y ∈ x :: l := h.mem_iff.2 (by simp)
      rcases List.mem_cons.1 h1 with e | h1
      · exact e
      · rcases List.mem_cons.1 h2 with e | h2
        · exact e.symm
        · have := b1 x h1; have := a1 y h2; omega
    subst hxy
    rw [sorted_eq (List.Perm.cons_inv h) a2 b2]
theorem rises_perm : ∀ (ks acc : List Int), (ks.foldl riseF acc).Perm (ks ++ acc)
  | [], acc => .refl _
  | k :: ks, acc => by
    rw [List.foldl_cons]
    refine (rises_perm ks _).trans ?_
    refine (List.Perm.append_left ks (riseF_perm k acc)).trans ?_
    exact List.perm_middle
theorem rises_sorted : ∀ (ks acc : List Int), acc.Pairwise (· ≤ ·) → (ks.foldl riseF acc).Pairwise (· ≤ ·)
  | [], acc, h => h
  | k :: ks, acc, h => by rw [List.foldl_cons]; exact rises_sorted ks _ (riseF_sorted k acc h)
theorem rises_sort (ks : List Int) : ks.foldl riseF [] = sortI ks := by
  refine sorted_eq ?_ (rises_sorted ks [] List.Pairwise.nil) ?_
  · have h1 := rises_perm ks []
    rw [List.append_nil] at h1
    exact h1.trans (List.mergeSort_perm ks _).symm
  · have := List.pairwise_mergeSort (le := fun x y : Int => decide (x ≤ y)) (fun a b c h1 h2 => by simp at *; omega) (fun a b => by simp; omega) ks
    unfold sortI
    exact this.imp fun h => by simpa using h
end Go.Proofs.YtchfpgpboifbeaaGreat.Ac
set_option linter.unusedVariables false
set_option linter.unusedSimpArgs false
set_option maxRecDepth 20000
set_option maxHeartbeats 20000000
namespace Go.Proofs.YtchfpgpboifbeaaGreat.Ac
open Go.RowKit
structure Tm where
  kinds : List Int
  many : Int
def tmL (x : Tm) : List L := [ints x.kinds, iL x.many]
def tmW (x : Tm) : List A := [.ow 1 (x.kinds.map intW), .f (iL x.many)]
@[reducible] def zTm : List A := [.nl, .f (iL 0)]
def tms (l : List Tm) : L := .sl 2 (l.map tmL)
theorem cl_tms (l : List Tm) : clR (l.map tmW) := cl_map (f := tmW) (fun x => ⟨cl_ints _, trivial, trivial⟩) l
theorem pl_tms (l : List Tm) : plR (l.map tmW) := pl_map (f := tmW) (fun x => ⟨pl_ints _, trivial, trivial⟩) l
theorem frz_tms {K : Nat → Ob → Prop} (l : List Tm) : FrzR K (l.map tmW) (l.map tmL) := frz_map (f := tmW) (f' := tmL) (fun _ => rfl) (fun x j a b h1 h2 => by
  match j with
  | 0 => cases h1; cases h2; exact frz_ow (frz_ints _)
  | 1 => cases h1; cases h2; exact .f _
  | j + 2 => simp [tmW] at h1) l
theorem tl_tms {r : List (Nat × Nat)} {g : Hp} {hs' : Hs} {n fl hi : Nat} {l : List Tm} (hn : g n = some (some ⟨fl, 2, l.map tmW⟩)) (h4 : Nat.beq fl 4 = false) (hk : kept r hs' n = false) (hi' : hi = l.length) : tlA true r g hs' (.row n 0 hi) (.f (tms l)) :=
  tl_fz hn h4 hk (by rw [take_all (by simpa using hi')]; exact frz_tms l)
def TmIn (x : Tm) : Prop := (ListIn I64 x.kinds) ∧ (I64 x.many)
def szTm (x : Tm) : Nat := x.kinds.length
def szTms (l : List Tm) : Nat := (l.map szTm).sum
theorem szTms_cons (x : Tm) (l : List Tm) : szTms (x :: l) = szTm x + szTms l := by simp [szTms]
theorem szTm_le : ∀ {l : List Tm} {x : Tm}, x ∈ l → szTm x ≤ szTms l
  | y :: l, x, h => by
    rw [szTms_cons]
    rcases List.mem_cons.1 h with rfl | h
    · omega
    · have := szTm_le h; omega
structure Ru where
  name : ByteArray
  leaf : Bool
  terms : List Tm
def ruL (x : Ru) : List L := [sL x.name, bL x.leaf, tms x.terms]
def ruW (x : Ru) : List A := [.f (sL x.name), .f (bL x.leaf), .ow 2 (x.terms.map tmW)]
@[reducible] def zRu : List A := [.f (sL ⟨#[]⟩), .f (bL false), .nl]
def rus (l : List Ru) : L := .sl 3 (l.map ruL)
theorem cl_rus (l : List Ru) : clR (l.map ruW) := cl_map (f := ruW) (fun x => ⟨trivial, trivial, cl_tms _, trivial⟩) l
theorem pl_rus (l : List Ru) : plR (l.map ruW) := pl_map (f := ruW) (fun x => ⟨trivial, trivial, pl_tms _, trivial⟩) l
theorem frz_rus {K : Nat → Ob → Prop} (l : List Ru) : FrzR K (l.map ruW) (l.map ruL) := frz_map (f := ruW) (f' := ruL) (fun _ => rfl) (fun x j a b h1 h2 => by
  match j with
  | 0 => cases h1; cases h2; exact .f _
  | 1 => cases h1; cases h2; exact .f _
  | 2 => cases h1; cases h2; exact frz_ow (frz_tms _)
  | j + 3 => simp [ruW] at h1) l
theorem tl_rus {r : List (Nat × Nat)} {g : Hp} {hs' : Hs} {n fl hi : Nat} {l : List Ru} (hn : g n = some (some ⟨fl, 3, l.map ruW⟩)) (h4 : Nat.beq fl 4 = false) (hk : kept r hs' n = false) (hi' : hi = l.length) : tlA true r g hs' (.row n 0 hi) (.f (rus l)) :=
  tl_fz hn h4 hk (by rw [take_all (by simpa using hi')]; exact frz_rus l)
def RuIn (x : Ru) : Prop := (x.name.size < 2 ^ 63) ∧ (True) ∧ (ListIn TmIn x.terms)
def szRu (x : Ru) : Nat := x.name.size + (x.terms.length + szTms x.terms)
def szRus (l : List Ru) : Nat := (l.map szRu).sum
theorem szRus_cons (x : Ru) (l : List Ru) : szRus (x :: l) = szRu x + szRus l := by simp [szRus]
theorem szRu_le : ∀ {l : List Ru} {x : Ru}, x ∈ l → szRu x ≤ szRus l
  | y :: l, x, h => by
    rw [szRus_cons]
    rcases List.mem_cons.1 h with rfl | h
    · omega
    · have := szRu_le h; omega
structure Ed where
  kind : Int
  node : Int
  a : Int
  b : Int
  text : ByteArray
def edL (x : Ed) : List L := [iL x.kind, iL x.node, iL x.a, iL x.b, sL x.text]
def edW (x : Ed) : List A := [.f (iL x.kind), .f (iL x.node), .f (iL x.a), .f (iL x.b), .f (sL x.text)]
@[reducible] def zEd : List A := [.f (iL 0), .f (iL 0), .f (iL 0), .f (iL 0), .f (sL ⟨#[]⟩)]
def eds (l : List Ed) : L := .sl 5 (l.map edL)
theorem cl_eds (l : List Ed) : clR (l.map edW) := cl_map (f := edW) (fun x => ⟨trivial, trivial, trivial, trivial, trivial, trivial⟩) l
theorem pl_eds (l : List Ed) : plR (l.map edW) := pl_map (f := edW) (fun x => ⟨trivial, trivial, trivial, trivial, trivial, trivial⟩) l
theorem frz_eds {K : Nat → Ob → Prop} (l : List Ed) : FrzR K (l.map edW) (l.map edL) := frz_map (f := edW) (f' := edL) (fun _ => rfl) (fun x j a b h1 h2 => by
  match j with
  | 0 => cases h1; cases h2; exact .f _
  | 1 => cases h1; cases h2; exact .f _
  | 2 => cases h1; cases h2; exact .f _
  | 3 => cases h1; cases h2; exact .f _
  | 4 => cases h1; cases h2; exact .f _
  | j + 5 => simp [edW] at h1) l
theorem tl_eds {r : List (Nat × Nat)} {g : Hp} {hs' : Hs} {n fl hi : Nat} {l : List Ed} (hn : g n = some (some ⟨fl, 5, l.map edW⟩)) (h4 : Nat.beq fl 4 = false) (hk : kept r hs' n = false) (hi' : hi = l.length) : tlA true r g hs' (.row n 0 hi) (.f (eds l)) :=
  tl_fz hn h4 hk (by rw [take_all (by simpa using hi')]; exact frz_eds l)
structure Ho where
  session : Int
  node : Int
  mode : Int
def hoL (x : Ho) : List L := [iL x.session, iL x.node, iL x.mode]
def hoW (x : Ho) : List A := [.f (iL x.session), .f (iL x.node), .f (iL x.mode)]
@[reducible] def zHo : List A := [.f (iL 0), .f (iL 0), .f (iL 0)]
def hos (l : List Ho) : L := .sl 3 (l.map hoL)
theorem cl_hos (l : List Ho) : clR (l.map hoW) := cl_map (f := hoW) (fun x => ⟨trivial, trivial, trivial, trivial⟩) l
theorem pl_hos (l : List Ho) : plR (l.map hoW) := pl_map (f := hoW) (fun x => ⟨trivial, trivial, trivial, trivial⟩) l
theorem frz_hos {K : Nat → Ob → Prop} (l : List Ho) : FrzR K (l.map hoW) (l.map hoL) := frz_map (f := hoW) (f' := hoL) (fun _ => rfl) (fun x j a b h1 h2 => by
  match j with
  | 0 => cases h1; cases h2; exact .f _
  | 1 => cases h1; cases h2; exact .f _
  | 2 => cases h1; cases h2; exact .f _
  | j + 3 => simp [hoW] at h1) l
theorem tl_hos {r : List (Nat × Nat)} {g : Hp} {hs' : Hs} {n fl hi : Nat} {l : List Ho} (hn : g n = some (some ⟨fl, 3, l.map hoW⟩)) (h4 : Nat.beq fl 4 = false) (hk : kept r hs' n = false) (hi' : hi = l.length) : tlA true r g hs' (.row n 0 hi) (.f (hos l)) :=
  tl_fz hn h4 hk (by rw [take_all (by simpa using hi')]; exact frz_hos l)
def HoIn (x : Ho) : Prop := (I64 x.session) ∧ (I64 x.node) ∧ (I64 x.mode)
structure Tb where
  holds : List Ho
  waits : List Ho
def tbL (x : Tb) : List L := [hos x.holds, hos x.waits]
def tbW (x : Tb) : List A := [.ow 3 (x.holds.map hoW), .ow 3 (x.waits.map hoW)]
@[reducible] def zTb : List A := [.nl, .nl]
def tbs (l : List Tb) : L := .sl 2 (l.map tbL)
theorem cl_tbs (l : List Tb) : clR (l.map tbW) := cl_map (f := tbW) (fun x => ⟨cl_hos _, cl_hos _, trivial⟩) l
theorem pl_tbs (l : List Tb) : plR (l.map tbW) := pl_map (f := tbW) (fun x => ⟨pl_hos _, pl_hos _, trivial⟩) l
theorem frz_tbs {K : Nat → Ob → Prop} (l : List Tb) : FrzR K (l.map tbW) (l.map tbL) := frz_map (f := tbW) (f' := tbL) (fun _ => rfl) (fun x j a b h1 h2 => by
  match j with
  | 0 => cases h1; cases h2; exact frz_ow (frz_hos _)
  | 1 => cases h1; cases h2; exact frz_ow (frz_hos _)
  | j + 2 => simp [tbW] at h1) l
theorem tl_tbs {r : List (Nat × Nat)} {g : Hp} {hs' : Hs} {n fl hi : Nat} {l : List Tb} (hn : g n = some (some ⟨fl, 2, l.map tbW⟩)) (h4 : Nat.beq fl 4 = false) (hk : kept r hs' n = false) (hi' : hi = l.length) : tlA true r g hs' (.row n 0 hi) (.f (tbs l)) :=
  tl_fz hn h4 hk (by rw [take_all (by simpa using hi')]; exact frz_tbs l)
def TbIn (x : Tb) : Prop := (ListIn HoIn x.holds) ∧ (ListIn HoIn x.waits)
def szTb (x : Tb) : Nat := x.holds.length + x.waits.length
structure Se where
  id : Int
  til : Int
  sub : Int
  copy : Dc
def seL (x : Se) : List L := [iL x.id, iL x.til, iL x.sub, iL x.copy.root, iL x.copy.next, nds x.copy.nodes]
def seW (x : Se) : List A := [.f (iL x.id), .f (iL x.til), .f (iL x.sub), .f (iL x.copy.root), .f (iL x.copy.next), .ow 5 (x.copy.nodes.map ndW)]
@[reducible] def zSe : List A := [.f (iL 0), .f (iL 0), .f (iL 0), .f (iL 0), .f (iL 0), .nl]
def ses (l : List Se) : L := .sl 6 (l.map seL)
theorem cl_ses (l : List Se) : clR (l.map seW) := cl_map (f := seW) (fun x => ⟨trivial, trivial, trivial, trivial, trivial, cl_nds _, trivial⟩) l
theorem pl_ses (l : List Se) : plR (l.map seW) := pl_map (f := seW) (fun x => ⟨trivial, trivial, trivial, trivial, trivial, pl_nds _, trivial⟩) l
theorem frz_ses {K : Nat → Ob → Prop} (l : List Se) : FrzR K (l.map seW) (l.map seL) := frz_map (f := seW) (f' := seL) (fun _ => rfl) (fun x j a b h1 h2 => by
  match j with
  | 0 => cases h1; cases h2; exact .f _
  | 1 => cases h1; cases h2; exact .f _
  | 2 => cases h1; cases h2; exact .f _
  | 3 => cases h1; cases h2; exact .f _
  | 4 => cases h1; cases h2; exact .f _
  | 5 => cases h1; cases h2; exact frz_ow (frz_nds _)
  | j + 6 => simp [seW] at h1) l
theorem tl_ses {r : List (Nat × Nat)} {g : Hp} {hs' : Hs} {n fl hi : Nat} {l : List Se} (hn : g n = some (some ⟨fl, 6, l.map seW⟩)) (h4 : Nat.beq fl 4 = false) (hk : kept r hs' n = false) (hi' : hi = l.length) : tlA true r g hs' (.row n 0 hi) (.f (ses l)) :=
  tl_fz hn h4 hk (by rw [take_all (by simpa using hi')]; exact frz_ses l)
def SeIn (x : Se) : Prop := (I64 x.id) ∧ (I64 x.til) ∧ (I64 x.sub) ∧ (DcIn x.copy)
def szSe (x : Se) : Nat := szD x.copy
def szSes (l : List Se) : Nat := (l.map szSe).sum
theorem szSes_cons (x : Se) (l : List Se) : szSes (x :: l) = szSe x + szSes l := by simp [szSes]
theorem szSe_le : ∀ {l : List Se} {x : Se}, x ∈ l → szSe x ≤ szSes l
  | y :: l, x, h => by
    rw [szSes_cons]
    rcases List.mem_cons.1 h with rfl | h
    · omega
    · have := szSe_le h; omega
structure Ev where
  session : Int
  code : Int
  node : Int
def evL (x : Ev) : List L := [iL x.session, iL x.code, iL x.node]
def evW (x : Ev) : List A := [.f (iL x.session), .f (iL x.code), .f (iL x.node)]
@[reducible] def zEv : List A := [.f (iL 0), .f (iL 0), .f (iL 0)]
def evs (l : List Ev) : L := .sl 3 (l.map evL)
theorem cl_evs (l : List Ev) : clR (l.map evW) := cl_map (f := evW) (fun x => ⟨trivial, trivial, trivial, trivial⟩) l
theorem pl_evs (l : List Ev) : plR (l.map evW) := pl_map (f := evW) (fun x => ⟨trivial, trivial, trivial, trivial⟩) l
theorem frz_evs {K : Nat → Ob → Prop} (l : List Ev) : FrzR K (l.map evW) (l.map evL) := frz_map (f := evW) (f' := evL) (fun _ => rfl) (fun x j a b h1 h2 => by
  match j with
  | 0 => cases h1; cases h2; exact .f _
  | 1 => cases h1; cases h2; exact .f _
  | 2 => cases h1; cases h2; exact .f _
  | j + 3 => simp [evW] at h1) l
theorem tl_evs {r : List (Nat × Nat)} {g : Hp} {hs' : Hs} {n fl hi : Nat} {l : List Ev} (hn : g n = some (some ⟨fl, 3, l.map evW⟩)) (h4 : Nat.beq fl 4 = false) (hk : kept r hs' n = false) (hi' : hi = l.length) : tlA true r g hs' (.row n 0 hi) (.f (evs l)) :=
  tl_fz hn h4 hk (by rw [take_all (by simpa using hi')]; exact frz_evs l)
def EvIn (x : Ev) : Prop := (I64 x.session) ∧ (I64 x.code) ∧ (I64 x.node)
structure Ht where
  schema : List Ru
  doc : Dc
  clock : Int
  lease : Int
  next : Int
  sessions : List Se
  table : Tb
  events : List Ev
def htL (x : Ht) : List L := [rus x.schema, iL x.doc.root, iL x.doc.next, nds x.doc.nodes, iL x.clock, iL x.lease, iL x.next, ses x.sessions, hos x.table.holds, hos x.table.waits, evs x.events]
def htW (x : Ht) : List A := [.ow 3 (x.schema.map ruW), .f (iL x.doc.root), .f (iL x.doc.next), .ow 5 (x.doc.nodes.map ndW), .f (iL x.clock), .f (iL x.lease), .f (iL x.next), .ow 6 (x.sessions.map seW), .ow 3 (x.table.holds.map hoW), .ow 3 (x.table.waits.map hoW), .ow 3 (x.events.map evW)]
@[reducible] def zHt : List A := [.nl, .f (iL 0), .f (iL 0), .nl, .f (iL 0), .f (iL 0), .f (iL 0), .nl, .nl, .nl, .nl]
def hts (l : List Ht) : L := .sl 11 (l.map htL)
theorem cl_hts (l : List Ht) : clR (l.map htW) := cl_map (f := htW) (fun x => ⟨cl_rus _, trivial, trivial, cl_nds _, trivial, trivial, trivial, cl_ses _, cl_hos _, cl_hos _, cl_evs _, trivial⟩) l
theorem pl_hts (l : List Ht) : plR (l.map htW) := pl_map (f := htW) (fun x => ⟨pl_rus _, trivial, trivial, pl_nds _, trivial, trivial, trivial, pl_ses _, pl_hos _, pl_hos _, pl_evs _, trivial⟩) l
theorem frz_hts {K : Nat → Ob → Prop} (l : List Ht) : FrzR K (l.map htW) (l.map htL) := frz_map (f := htW) (f' := htL) (fun _ => rfl) (fun x j a b h1 h2 => by
  match j with
  | 0 => cases h1; cases h2; exact frz_ow (frz_rus _)
  | 1 => cases h1; cases h2; exact .f _
  | 2 => cases h1; cases h2; exact .f _
  | 3 => cases h1; cases h2; exact frz_ow (frz_nds _)
  | 4 => cases h1; cases h2; exact .f _
  | 5 => cases h1; cases h2; exact .f _
  | 6 => cases h1; cases h2; exact .f _
  | 7 => cases h1; cases h2; exact frz_ow (frz_ses _)
  | 8 => cases h1; cases h2; exact frz_ow (frz_hos _)
  | 9 => cases h1; cases h2; exact frz_ow (frz_hos _)
  | 10 => cases h1; cases h2; exact frz_ow (frz_evs _)
  | j + 11 => simp [htW] at h1) l
theorem tl_hts {r : List (Nat × Nat)} {g : Hp} {hs' : Hs} {n fl hi : Nat} {l : List Ht} (hn : g n = some (some ⟨fl, 11, l.map htW⟩)) (h4 : Nat.beq fl 4 = false) (hk : kept r hs' n = false) (hi' : hi = l.length) : tlA true r g hs' (.row n 0 hi) (.f (hts l)) :=
  tl_fz hn h4 hk (by rw [take_all (by simpa using hi')]; exact frz_hts l)
def HtIn (x : Ht) : Prop := (ListIn RuIn x.schema) ∧ (DcIn x.doc) ∧ (I64 x.clock) ∧ (I64 x.lease) ∧ (I64 x.next) ∧ (ListIn SeIn x.sessions) ∧ (TbIn x.table) ∧ (ListIn EvIn x.events)
def szHt (x : Ht) : Nat := (x.schema.length + szRus x.schema) + szD x.doc + (x.sessions.length + szSes x.sessions) + szTb x.table + x.events.length
structure Rq where
  kind : Int
  session : Int
  node : Int
  a : Int
  edit : Ed
def rqL (x : Rq) : List L := [iL x.kind, iL x.session, iL x.node, iL x.a, iL x.edit.kind, iL x.edit.node, iL x.edit.a, iL x.edit.b, sL x.edit.text]
def rqW (x : Rq) : List A := [.f (iL x.kind), .f (iL x.session), .f (iL x.node), .f (iL x.a), .f (iL x.edit.kind), .f (iL x.edit.node), .f (iL x.edit.a), .f (iL x.edit.b), .f (sL x.edit.text)]
@[reducible] def zRq : List A := [.f (iL 0), .f (iL 0), .f (iL 0), .f (iL 0), .f (iL 0), .f (iL 0), .f (iL 0), .f (iL 0), .f (sL ⟨#[]⟩)]
def rqs (l : List Rq) : L := .sl 9 (l.map rqL)
theorem cl_rqs (l : List Rq) : clR (l.map rqW) := cl_map (f := rqW) (fun x => ⟨trivial, trivial, trivial, trivial, trivial, trivial, trivial, trivial, trivial, trivial⟩) l
theorem pl_rqs (l : List Rq) : plR (l.map rqW) := pl_map (f := rqW) (fun x => ⟨trivial, trivial, trivial, trivial, trivial, trivial, trivial, trivial, trivial, trivial⟩) l
theorem frz_rqs {K : Nat → Ob → Prop} (l : List Rq) : FrzR K (l.map rqW) (l.map rqL) := frz_map (f := rqW) (f' := rqL) (fun _ => rfl) (fun x j a b h1 h2 => by
  match j with
  | 0 => cases h1; cases h2; exact .f _
  | 1 => cases h1; cases h2; exact .f _
  | 2 => cases h1; cases h2; exact .f _
  | 3 => cases h1; cases h2; exact .f _
  | 4 => cases h1; cases h2; exact .f _
  | 5 => cases h1; cases h2; exact .f _
  | 6 => cases h1; cases h2; exact .f _
  | 7 => cases h1; cases h2; exact .f _
  | 8 => cases h1; cases h2; exact .f _
  | j + 9 => simp [rqW] at h1) l
theorem tl_rqs {r : List (Nat × Nat)} {g : Hp} {hs' : Hs} {n fl hi : Nat} {l : List Rq} (hn : g n = some (some ⟨fl, 9, l.map rqW⟩)) (h4 : Nat.beq fl 4 = false) (hk : kept r hs' n = false) (hi' : hi = l.length) : tlA true r g hs' (.row n 0 hi) (.f (rqs l)) :=
  tl_fz hn h4 hk (by rw [take_all (by simpa using hi')]; exact frz_rqs l)
end Go.Proofs.YtchfpgpboifbeaaGreat.Ac
