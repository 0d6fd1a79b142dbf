/- Several of our texts, one behind the other, without what this claim does not need: Op, OpD, OpH, Tk. -/
import Derived.Test.YtecnmodeggnjoaaGreatZ855f7bb1
import Derived.ChangeArms
import Derived.Deep.Slices
import Derived.Test.YtecnmodeggnjoaaGreatZf69970a3
import Derived.Test.YtecnmodeggnjoaaGreatZe2002630
set_option linter.unusedVariables false
set_option linter.unusedSimpArgs false
namespace Go.Proofs.YtecnmodeggnjoaaGreat.Ac
open Go.RowKit
def OpL (P : Program) (t : TypeId) (good : List L → Prop) : Prop := ∀ {H : Type} (enc : TypeId × Value → H) (w : World) (fuel : Nat) (cs : List Value) (x : DataW H × List MemPlace), DataW.trod enc P w 0 (fun _ => true) true fuel t cs = some x →
  ∃ ls : List L, ls.length = cs.length ∧ good ls ∧ ∀ (j : Nat) y, ls[j]? = some y → ∃ u, cs[j]? = some u ∧ RepL w.heap (fun _ => False) y u
theorem op_int {P : Program} {t : TypeId} {k : IntKind} (ht : P.underlying t = some (.int k)) : OpL P t fun ls => ∃ n, ls = [.v (.int k n)] ∧ (Lit.int k n).wf = true := by
  intro H enc w fuel cs x h
  obtain ⟨n, rfl, _, hw⟩ := DataW.trod_int ht h
  refine ⟨_, rfl, ⟨n, rfl, hw⟩, fun j y hy => ?_⟩
  cases j with
  | zero => cases hy; exact ⟨_, rfl, .v _ rfl⟩
  | succ j => simp at hy
theorem op_str {P : Program} {t : TypeId} (ht : P.underlying t = some .string) : OpL P t fun ls => ∃ s : ByteArray, ls = [sL s] ∧ s.size ≤ maxLen := by
  intro H enc w fuel cs x h
  obtain ⟨s, rfl, _, hs⟩ := DataW.trod_string ht h
  refine ⟨_, rfl, ⟨s, rfl, hs⟩, fun j y hy => ?_⟩
  cases j with
  | zero => cases hy; exact ⟨_, rfl, .v _ rfl⟩
  | succ j => simp at hy
theorem list_of {α : Type} : ∀ (n : Nat) (p : Nat → α → Prop), (∀ i, i < n → ∃ a, p i a) → ∃ l : List α, l.length = n ∧ ∀ i a, l[i]? = some a → p i a
  | 0, p, _ => ⟨[], rfl, fun i a h => by simp at h⟩
  | n + 1, p, h => by
    obtain ⟨a, ha⟩ := h 0 (Nat.succ_pos _)
    obtain ⟨l, hl, hp⟩ := list_of n (fun i => p (i + 1)) fun i hi => h (i + 1) (Nat.succ_lt_succ hi)
    refine ⟨a :: l, by simp [hl], fun i b hb => ?_⟩
    cases i with
    | zero => cases hb; exact ha
    | succ i => exact hp i b hb
theorem map_of {α β : Type} {f : α → β} {p : α → Prop} : ∀ (l : List β), (∀ x ∈ l, ∃ a, x = f a ∧ p a) → ∃ l' : List α, l = l'.map f ∧ ∀ a ∈ l', p a
  | [], _ => ⟨[], rfl, fun _ h => by cases h⟩
  | x :: l, h => by
    obtain ⟨a, rfl, ha⟩ := h x List.mem_cons_self
    obtain ⟨l', rfl, hl⟩ := map_of l fun y hy => h y (List.mem_cons_of_mem _ hy)
    exact ⟨a :: l', rfl, fun b hb => by
      rcases List.mem_cons.1 hb with rfl | hb
      · exact ha
      · exact hl b hb⟩
theorem op_slice {P : Program} {t e : TypeId} {wd : Nat} {good : List L → Prop} (ht : P.underlying t = some (.slice e)) (hs : P.cellsOf e = wd) (hw : 0 < wd) (he : OpL P e good) :
    OpL P t fun ls => ∃ es : List (List L), ls = [.sl wd es] ∧ es.length ≤ maxLen ∧ ∀ x ∈ es, good x := by
  intro H enc w fuel cs x h
  rcases Go.Deep.open_slice ht h with ⟨rfl, _⟩ | ⟨a, len, cap, m, n, D, Pl, rfl, _, hl, hm, hmm, _, hel⟩
  · refine ⟨_, rfl, ⟨[], rfl, Nat.zero_le _, fun _ h => by cases h⟩, fun j y hy => ?_⟩
    cases j with
    | zero => cases hy; exact ⟨_, rfl, .nil wd none 0⟩
    | succ j => simp at hy
  · have hmlen : len ≤ m := by rw [hmm]; simp; exact hl
    obtain ⟨es, hes, hp⟩ := list_of len (fun i (l : List L) => l.length = wd ∧ good l ∧ ∀ (j : Nat) y, l[j]? = some y → ∃ u, w.cell? ((a.add (i * wd)).add j) = some u ∧ RepL w.heap (fun _ => False) y u) fun i hi => by
      obtain ⟨cs', h1, h2⟩ := hel i (by omega)
      obtain ⟨l, hl1, hg, hr⟩ := he enc w _ _ _ h2
      obtain ⟨_, g3, g4⟩ := World.cells?_some h1
      rw [hs] at g3 g4
      refine ⟨l, hl1.trans g3, hg, fun j y hy => ?_⟩
      obtain ⟨u, hu, hru⟩ := hr j y hy
      have hj : j < wd := by rw [← g3]; exact (List.getElem?_eq_some_iff.1 hu).1
      exact ⟨u, (g4 j hj).trans hu, hru⟩
    have hgood : ∀ x ∈ es, good x := fun x hx => by
      obtain ⟨i, hi⟩ := List.getElem?_of_mem hx
      exact (hp i x hi).2.1
    refine ⟨_, rfl, ⟨es, rfl, by rw [hes]; exact Nat.le_trans hl hm, hgood⟩, fun j y hy => ?_⟩
    cases j with
    | succ j => simp at hy
    | zero =>
      cases hy
      refine ⟨_, rfl, ?_⟩
      cases len with
      | zero =>
        obtain rfl := List.eq_nil_of_length_eq_zero hes
        exact .nil wd (some a) cap
      | succ k =>
        have cellAt : ∀ (i : Nat) e (j : Nat) y, es[i]? = some e → e[j]? = some y → ∃ u, w.cell? ((a.add (i * wd)).add j) = some u ∧ RepL w.heap (fun _ => False) y u := fun i e j y hi hj => (hp i e hi).2.2 j y hj
        have lenAt : ∀ e ∈ es, e.length = wd := fun e he => by
          obtain ⟨i, hi⟩ := List.getElem?_of_mem he
          exact (hp i e hi).1
        have l0 : k < es.length := by omega
        have e1 := lenAt es[k] (List.getElem_mem _)
        have e0 := lenAt es[0] (List.getElem_mem _)
        obtain ⟨u1, c1, _⟩ := cellAt 0 es[0] 0 _ (List.getElem?_eq_getElem (by omega)) (List.getElem?_eq_getElem (by omega))
        obtain ⟨u0, c0, _⟩ := cellAt k es[k] (wd - 1) _ (List.getElem?_eq_getElem l0) (List.getElem?_eq_getElem (by omega))
        have hsp := World.cell?_spot c1
        obtain ⟨b, off, spot⟩ := a
        have hsp0 : spot = none := by simpa [Addr.add] using hsp
        subst hsp0
        have add0 : ∀ o i, Addr.add ⟨b, o, none⟩ i = ⟨b, o + i, none⟩ := fun o i => by
          unfold Addr.add
          split
          · rename_i h; subst h; rfl
          · rfl
        simp only [add0] at c0 cellAt
        unfold World.cell? at c0
        split at c0
        · rename_i c ty fr hb
          simp only [Option.isSome_none, Bool.false_eq_true, if_false] at c0
          have hsz : off + k * wd + (wd - 1) < c.size := (Array.getElem?_eq_some_iff.1 c0).1
          have hk1 : (k + 1) * wd = k * wd + wd := Nat.succ_mul k wd
          have := RepL.sl (h := w.heap) (O := fun _ => False) wd es b off cap c ty fr hw (by intro h; rw [h] at l0; simp at l0) hb (fun h => h) lenAt (by rw [hes]; omega) (by rw [hes]; exact hl) fun i e j y hi hj => by
            obtain ⟨u, hu, hru⟩ := cellAt i e j y hi hj
            simp only [World.cell?] at hu
            rw [hb] at hu
            simp only [Option.isSome_none, Bool.false_eq_true, if_false] at hu
            rw [Array.getD_eq_getD_getElem?, hu]; exact hru
          rw [hes] at this
          exact this
        · cases c0
def Gs : List (List L → Prop) → List L → Prop
  | [], ls => ls = []
  | g :: gs, ls => ∃ x rest, g x ∧ ls = x ++ rest ∧ Gs gs rest
def laidAt (P : Program) : Nat → List Field → Prop
  | _, [] => True
  | o, f :: fs => f.offset = o ∧ laidAt P (o + P.cellsOf f.type) fs
def szAll (P : Program) : List Field → Nat
  | [] => 0
  | f :: fs => P.cellsOf f.type + szAll P fs
def OpLs (P : Program) : List Field → List (List L → Prop) → Prop
  | [], [] => True
  | f :: fs, g :: gs => OpL P f.type g ∧ OpLs P fs gs
  | _, _ => False
theorem op_fields {P : Program} {H : Type} (enc : TypeId × Value → H) (w : World) (n : Nat) (cs : List Value) : ∀ (fs : List Field) (gs : List (List L → Prop)) (o : Nat), OpLs P fs gs → laidAt P o fs → cs.length = o + szAll P fs →
    (∀ f ∈ fs, ∃ x, DataW.trod enc P w 0 (fun _ => true) true n f.type ((cs.drop f.offset).take (P.cellsOf f.type)) = some x) →
    ∃ ls : List L, ls.length = szAll P fs ∧ Gs gs ls ∧ ∀ (j : Nat) y, ls[j]? = some y → ∃ u, cs[o + j]? = some u ∧ RepL w.heap (fun _ => False) y u
  | [], [], o, _, _, hl, _ => ⟨[], rfl, rfl, fun j y hy => by simp at hy⟩
  | [], _ :: _, _, h, _, _, _ => h.elim
  | _ :: _, [], _, h, _, _, _ => h.elim
  | f :: fs, g :: gs, o, ho, hla, hl, hx => by
    obtain ⟨x, hx0⟩ := hx f List.mem_cons_self
    simp only [szAll] at hl
    rw [hla.1] at hx0
    obtain ⟨l1, k1, g1, r1⟩ := ho.1 enc w n _ _ hx0
    obtain ⟨l2, k2, g2, r2⟩ := op_fields enc w n cs fs gs (o + P.cellsOf f.type) ho.2 hla.2 (by omega) fun f' hf => hx f' (List.mem_cons_of_mem _ hf)
    have k3 : l1.length = P.cellsOf f.type := by rw [k1]; simp; omega
    refine ⟨l1 ++ l2, by simp [szAll, k3, k2], ⟨l1, l2, g1, rfl, g2⟩, fun j y hy => ?_⟩
    by_cases hj : j < l1.length
    · rw [List.getElem?_append_left hj] at hy
      obtain ⟨u, hu, hr⟩ := r1 j y hy
      rw [List.getElem?_take_of_lt (by omega), List.getElem?_drop] at hu
      exact ⟨u, hu, hr⟩
    · rw [List.getElem?_append_right (by omega)] at hy
      obtain ⟨u, hu, hr⟩ := r2 _ y hy
      rw [show o + P.cellsOf f.type + (j - l1.length) = o + j by omega] at hu
      exact ⟨u, hu, hr⟩
theorem op_struct {P : Program} {t : TypeId} {fs : Array Field} {gs : List (List L → Prop)} (ht : P.underlying t = some (.struct fs)) (hla : laidAt P 0 fs.toList) (hsz : P.cellsOf t = szAll P fs.toList) (h : OpLs P fs.toList gs) : OpL P t (Gs gs) := by
  intro H enc w fuel cs x h0
  obtain ⟨xs, n, _, _, hl, hx, hf⟩ := DataW.trod_struct ht h0
  obtain ⟨ls, h1, h2, h3⟩ := op_fields enc w n cs fs.toList gs 0 h hla (by omega) fun f hf0 => by
    obtain ⟨i, hi⟩ := List.getElem?_of_mem hf0
    have hi' : fs[i]? = some f := by simpa using hi
    have hlt : i < fs.size := (Array.getElem?_eq_some_iff.1 hi').1
    exact ⟨_, (hf i f hi').trans (List.getElem?_eq_getElem (by omega))⟩
  exact ⟨ls, by omega, h2, fun j y hy => by simpa using h3 j y hy⟩
theorem OpL.to {P : Program} {t : TypeId} {g g' : List L → Prop} (h : OpL P t g) (hg : ∀ ls, g ls → g' ls) : OpL P t g' := fun enc w fuel cs x hx => by
  obtain ⟨ls, h1, h2, h3⟩ := h enc w fuel cs x hx
  exact ⟨ls, h1, hg ls h2, h3⟩
def phi0 : Phi := ⟨fun _ => none, fun _ => False⟩
theorem heap0 (h : Array Obj) : HeapOK h (get ([] : Hs)) phi0 := ⟨fun n ob hn => (by cases hn), fun X hd hX => (by cases hX), fun X hd hX => (by cases hX), fun b hb => False.elim hb, fun X Y hd hd' hX => (by cases hX)⟩
theorem own00 : ∀ b, Own phi0 b → False := fun b hb => by
  rcases hb with hb | ⟨X, hd, hX, _⟩
  · exact hb.elim
  · cases hX
theorem arg_agg {h : Array Obj} {cs : Array Value} {ls : List L} (hl : ls.length = cs.toList.length) (hr : ∀ (j : Nat) y, ls[j]? = some y → ∃ u, cs.toList[j]? = some u ∧ RepL h (fun _ => False) y u) : RepV h (get ([] : Hs)) phi0 true (ls.map .f) (.agg cs) := by
  refine ⟨cs, rfl, ?_⟩
  obtain ⟨us⟩ := cs
  simp only at hl hr ⊢
  induction ls generalizing us with
  | nil => obtain rfl := List.eq_nil_of_length_eq_zero hl.symm; trivial
  | cons l ls ih =>
    cases us with
    | nil => simp at hl
    | cons u us =>
      obtain ⟨u', hu', hr0⟩ := hr 0 l rfl
      cases hu'
      exact ⟨.f _ _ (hr0.less own00), ih us (by simpa using hl) fun j y hy => hr (j + 1) y hy⟩
theorem arg_one {h : Array Obj} {u : Value} {l : L} (hu : u.cells = #[u]) (hr : ∀ (j : Nat) y, [l][j]? = some y → ∃ u', u.cells.toList[j]? = some u' ∧ RepL h (fun _ => False) y u') : RepV h (get ([] : Hs)) phi0 false [.f l] u := by
  obtain ⟨u', h1, h2⟩ := hr 0 l rfl
  rw [hu] at h1
  cases h1
  exact ⟨_, rfl, .f _ _ (h2.less own00)⟩
theorem own0 (b : Nat) : ¬ Own0 phi0 b := by rintro ⟨X, hd, hX, _⟩; cases hX
theorem FC.row {P : Program} {f : FuncId} {args : List (Bool × List L)} {H1 : Hs} {b : Bool} (h : FC P f args H1 [(false, [.f (bL b)])]) (hf : IsFn P f) {w : World} {us : List Value} (hr : RepVs w.heap (get ([] : Hs)) phi0 (fzL args) us) :
    Calls P f us.toArray w fun e w' => e = .returned (.bool b) ∧ Below w.heap.size w w' := by
  refine ((h.calls phi0 w us (heap0 _) hr).body hf).mono ?_
  rintro e w' ⟨v, φ', rfl, hv, _, ht, h1, h2, h3, h4⟩
  obtain ⟨x, hx, hv⟩ := hv
  cases hx
  cases hv with
  | f _ _ r => cases r with
    | v _ _ => exact ⟨rfl, h1, h2, h3, h4, fun k hk => (ht.blk0 k hk (own0 k)).2⟩
end Go.Proofs.YtecnmodeggnjoaaGreat.Ac
set_option linter.unusedVariables false
set_option linter.unusedSimpArgs false
namespace Go.Proofs.YtecnmodeggnjoaaGreat.Ac
open Go.RowKit
theorem wf64 {n : Int} (h : (Lit.int .i64 n).wf = true) : I64 n := by
  simp only [Lit.wf, Bool.and_eq_true, decide_eq_true_eq] at h
  have h1 : (IntKind.i64.min : Int) = -2 ^ 63 := by decide
  have h2 : (IntKind.i64.max : Int) = 2 ^ 63 - 1 := by decide
  unfold I64; omega
theorem opi : OpL Tryz.prog 3 fun ls => ∃ z, ls = [iL z] ∧ I64 z := OpL.to (op_int Tryz.underlying3) fun ls ⟨n, h, hw⟩ => ⟨n, h, wf64 hw⟩
theorem op_s : OpL Tryz.prog 9 fun ls => ∃ s : ByteArray, ls = [sL s] ∧ s.size < 2 ^ 63 := OpL.to (op_str Tryz.underlying9) fun ls ⟨s, h, hw⟩ => ⟨s, h, by unfold maxLen at hw; omega⟩
theorem op_list {t e : TypeId} {wd : Nat} {α : Type} {f : α → List L} {p : α → Prop} (ht : Tryz.prog.underlying t = some (.slice e)) (hs : Tryz.prog.cellsOf e = wd) (hw : 0 < wd) (he : OpL Tryz.prog e fun ls => ∃ x, ls = f x ∧ p x) :
    OpL Tryz.prog t fun ls => ∃ l : List α, ls = [.sl wd (l.map f)] ∧ ListIn p l := OpL.to (op_slice ht hs hw he) fun ls ⟨es, h, hl, hg⟩ => by
  obtain ⟨l, rfl, hp⟩ := map_of es hg
  exact ⟨l, h, by unfold maxLen at hl; simp at hl; omega, hp⟩
theorem op_ints : OpL Tryz.prog 33 fun ls => ∃ l : List Int, ls = [ints l] ∧ ListIn I64 l := op_list (f := intE) Tryz.underlying33 (by kernel_rfl) (by decide) opi
theorem op_node : OpL Tryz.prog 189 fun ls => ∃ n : Nd, ls = ndL n ∧ NdIn n := OpL.to (op_struct (gs := [_, _, _, _, _]) Tryz.underlying189 ⟨by kernel_rfl, by kernel_rfl, by kernel_rfl, by kernel_rfl, by kernel_rfl, trivial⟩ (by kernel_rfl) ⟨opi, opi, opi, op_s, op_ints, trivial⟩)
  (by rintro ls ⟨_, _, ⟨a, rfl, ha⟩, rfl, _, _, ⟨b, rfl, hb⟩, rfl, _, _, ⟨c, rfl, hc⟩, rfl, _, _, ⟨s, rfl, hs⟩, rfl, _, _, ⟨l, rfl, hl⟩, rfl, rfl⟩; exact ⟨⟨a, b, c, s, l⟩, rfl, ha, hb, hc, hs, hl⟩)
theorem op_nodes : OpL Tryz.prog 22 fun ls => ∃ l : List Nd, ls = [nds l] ∧ ListIn NdIn l := op_list (f := ndL) Tryz.underlying22 (by kernel_rfl) (by decide) op_node
theorem op_doc : OpL Tryz.prog 24 fun ls => ∃ d : Dc, ls = dcL d ∧ DcIn d := OpL.to (op_struct (gs := [_, _, _]) Tryz.underlying24 ⟨by kernel_rfl, by kernel_rfl, by kernel_rfl, trivial⟩ (by kernel_rfl) ⟨opi, opi, op_nodes, trivial⟩)
  (by rintro ls ⟨_, _, ⟨a, rfl, ha⟩, rfl, _, _, ⟨b, rfl, hb⟩, rfl, _, _, ⟨l, rfl, hl⟩, rfl, rfl⟩; exact ⟨⟨a, b, l⟩, rfl, ha, hb, hl⟩)
end Go.Proofs.YtecnmodeggnjoaaGreat.Ac
set_option linter.unusedVariables false
set_option linter.unusedSimpArgs false
namespace Go.Proofs.YtecnmodeggnjoaaGreat.Ac
open Go.RowKit
theorem op_hold : OpL Tryz.prog 53 fun ls => ∃ x : Ho, ls = hoL x ∧ HoIn x := OpL.to (op_struct (gs := [_, _, _]) Tryz.underlying53 ⟨by kernel_rfl, by kernel_rfl, by kernel_rfl, trivial⟩ (by kernel_rfl) ⟨opi, opi, opi, trivial⟩)
  (by rintro ls ⟨_, _, ⟨a, rfl, ha⟩, rfl, _, _, ⟨b, rfl, hb⟩, rfl, _, _, ⟨c, rfl, hc⟩, rfl, rfl⟩; exact ⟨⟨a, b, c⟩, rfl, ha, hb, hc⟩)
theorem op_holds : OpL Tryz.prog 25 fun ls => ∃ l : List Ho, ls = [hos l] ∧ ListIn HoIn l := op_list (f := hoL) Tryz.underlying25 (by kernel_rfl) (by decide) op_hold
theorem op_table : OpL Tryz.prog 27 fun ls => ∃ x : Tb, ls = tbL x ∧ TbIn x := OpL.to (op_struct (gs := [_, _]) Tryz.underlying27 ⟨by kernel_rfl, by kernel_rfl, trivial⟩ (by kernel_rfl) ⟨op_holds, op_holds, trivial⟩)
  (by rintro ls ⟨_, _, ⟨a, rfl, ha⟩, rfl, _, _, ⟨b, rfl, hb⟩, rfl, rfl⟩; exact ⟨⟨a, b⟩, rfl, ha, hb⟩)
end Go.Proofs.YtecnmodeggnjoaaGreat.Ac
set_option linter.unusedVariables false
set_option linter.unusedSimpArgs false
set_option maxRecDepth 20000
set_option maxHeartbeats 20000000
namespace Go.Proofs.YtecnmodeggnjoaaGreat.Ac
open Go.RowKit
def witF (s : Int) (l : List Ho) : List Ho := l.filter fun x => !decide (x.session = s)
theorem wit_len {s : Int} {l : List Ho} : (witF s l).length ≤ l.length := List.length_filter_le _ _
theorem wit_mem {s : Int} {l : List Ho} {x : Ho} (h : x ∈ witF s l) : x ∈ l := (List.mem_filter.1 h).1
def leaveF (t : Tb) (s : Int) : Tb := ⟨witF s t.holds, witF s t.waits⟩
def cutT (l m u : List Ho) : List Ho := List.replicate (l.length - m.length) (⟨0, 0, 0⟩ : Ho) ++ u
theorem leave_tabG {d : Dc} {t : Tb} (s : Int) (h : TabG d t) : TabG d (leaveF t s) :=
  ⟨⟨by have := h.hg.len; have := wit_len (s := s) (l := t.holds); show (witF s t.holds).length < _; omega, fun x hx => h.hg.has x (wit_mem hx), fun x hx => h.hg.md x (wit_mem hx)⟩, h.rise.sublist List.filter_sublist,
    by have := h.wl; have := wit_len (s := s) (l := t.waits); show (witF s t.waits).length < _; omega, fun x hx => h.wh x (wit_mem hx), fun x hx => h.wm x (wit_mem hx)⟩
theorem leave1_ok (x : Ho) (s : Int) : FC Tryz.prog 172 [(true, hoL x), (false, [.pv [iL s]])] [] [(false, [.f (bL (decide (x.session = s)))])] := by
  by_cases k : x.session = s
  · have q : decide (x.session = s) = true := decide_eq_true k
    refine gr Tryz.func172 Tryz.ntmps172 trivial ?_
    refine ⟨fun h => nx ?_, fun h => absurd h (fun w => w k)⟩
    exact ⟨[], [], don⟩
  · have q : decide (x.session = s) = false := decide_eq_false k
    refine gr Tryz.func172 Tryz.ntmps172 trivial ?_
    refine ⟨fun h => absurd h (k), fun h => nx ?_⟩
    exact ⟨[], [], don⟩
theorem leave_ok (t : Tb) (s : Int) (h1 : t.holds.length < 2 ^ 28) (h2 : t.waits.length < 2 ^ 28) (u v : List Ho) : GCalls Tryz.prog 90 [(1, some ⟨3, 2, [[.row 2 0 t.holds.length, .row 3 0 t.waits.length]]⟩), (2, some ⟨0, 3, (t.holds ++ u).map hoW⟩), (3, some ⟨0, 3, (t.waits ++ v).map hoW⟩)] [(false, [.pt 1 0 0]), (false, [.f (iL s)])]
    [(1, some ⟨3, 2, [[.row 2 0 (leaveF t s).holds.length, .row 3 0 (leaveF t s).waits.length]]⟩), (2, some ⟨0, 3, ((leaveF t s).holds ++ cutT t.holds (witF s t.holds) u).map hoW⟩), (3, some ⟨0, 3, ((leaveF t s).waits ++ cutT t.waits (witF s t.waits) v).map hoW⟩)] [] := by
  have c1 := dlfHo1_ok t.holds 172 (.pv [iL s]) (fun x => decide (x.session = s)) h1 (fun x _ => leave1_ok x s) u
  have c2 := dlfHo1_ok t.waits 172 (.pv [iL s]) (fun x => decide (x.session = s)) h2 (fun x _ => leave1_ok x s) v
  refine gr Tryz.func90 Tryz.ntmps90 (⟨trivial, cl_hos _, cl_hos _, trivial⟩) ?_
  refine ⟨⟨true, [(1, 2)], _, _, _, _⟩, c1, cd ?_⟩
  refine ⟨⟨true, [(1, 3)], _, _, _, _⟩, c2, cd ?_⟩
  exact ⟨[], [], don⟩
theorem wit_take {s : Int} {l : List Ho} {i : Nat} (hi : i < l.length) : witF s (l.take (i + 1)) = if l[i].session = s then witF s (l.take i) else witF s (l.take i) ++ [l[i]] := by
  unfold witF
  rw [List.take_succ_eq_append_getElem hi, List.filter_append]
  by_cases k : l[i].session = s
  · rw [if_pos k, List.filter_cons_of_neg (by simp [k])]; simp
  · rw [if_neg k, List.filter_cons_of_pos (by simp [k])]; simp
theorem l08Without_ok (t : Tb) (s : Int) (h1 : t.holds.length < 2 ^ 28) (h2 : t.waits.length < 2 ^ 28) : FC Tryz.prog 88 [(true, tbL t), (false, [iL s])] [] [(true, [.f (hos (witF s t.holds)), .f (hos (witF s t.waits))])] := by
  refine gr Tryz.func88 Tryz.ntmps88 trivial ?_
  have q0 : ([] : List Ho) = witF s (t.holds.take 0) := rfl
  have q1 : ([] : List Ho) = witF s (t.waits.take 0) := rfl
  (refine ⟨fun m es hs => ∃ (i : Nat) (a : List Ho), (m + i = t.holds.length) ∧ (a = witF s (t.holds.take i)) ∧ es = [(6, .val false [.f (iL i)]), (5, .val false [.pt 96 0 0]), (4, .val false [.pt 80 0 0]), (2, .val false [.pt 48 0 0]), (1, .val false [.f (iL s)])] ∧ hs = [(48, some ⟨3, 2, [(tbL t).map .f]⟩), (80, some ⟨3, 2, [[.nl, .nl]]⟩), (96, some ⟨3, 2, [[.row 3 0 a.length, .row 4 0 0]]⟩), (3, some ⟨0, 3, a.map hoW⟩), (4, some ⟨0, 3, []⟩)], ⟨t.holds.length, [], [(3, 144), (4, 160)], _, _, don, 0, ([]), don, don, rfl, rfl⟩, ?_⟩; rintro m _ _ ⟨i, a, hWIA0, hWIA1, rfl, rfl⟩; refine nx ?_)
  refine ⟨fun h => nx ?_, fun h => nx ?_⟩
  have hi : i < t.holds.length := by simpa using h
  have ht := wit_take (s := s) hi
  have hal : a.length ≤ i := by rw [hWIA1]; have := wit_len (s := s) (l := t.holds.take i); simp at this; omega
  refine ⟨(i, hoL t.holds[i]), ⟨rfl, by simp [hi]⟩, nx ?_⟩
  by_cases k : t.holds[i].session = s
  rw [if_pos k, ← hWIA1] at ht
  have q := ht.symm
  refine ⟨fun h => absurd h (fun w => w k), fun h => nx ?_⟩
  exact ⟨m - 1, [], [], _, _, by omega, don, (i + 1), a, don, don, rfl, rfl⟩
  rw [if_neg k, ← hWIA1] at ht
  have q := ht.symm
  refine ⟨fun h => nx ?_, fun h => absurd h (fun w => w k)⟩
  refine ⟨(i, hoL t.holds[i]), ⟨rfl, by simp [hi]⟩, nx ?_⟩
  refine ⟨(a ++ [t.holds[i]]).map hoW, ⟨app_one hoW a t.holds[i], by simp; omega⟩, nx ?_⟩
  exact ⟨m - 1, [], [(3, 560)], _, _, by omega, don, (i + 1), (a ++ [t.holds[i]]), don, don, rfl, rfl⟩
  have hi' : t.holds.length ≤ i := by simpa using h
  have hi : i = t.holds.length := by omega
  rw [hi, List.take_length] at hWIA1
  rw [hWIA1]
  clear hWIA0 hWIA1 h hi hi'
  (refine ⟨fun m es hs => ∃ (j : Nat) (b : List Ho), (m + j = t.waits.length) ∧ (b = witF s (t.waits.take j)) ∧ es = [(7, .val false [.f (iL j)]), (5, .val false [.pt 96 0 0]), (4, .val false [.pt 80 0 0]), (2, .val false [.pt 48 0 0]), (1, .val false [.f (iL s)])] ∧ hs = [(48, some ⟨3, 2, [(tbL t).map .f]⟩), (80, some ⟨3, 2, [[.nl, .nl]]⟩), (96, some ⟨3, 2, [[.row 3 0 (witF s t.holds).length, .row 4 0 b.length]]⟩), (3, some ⟨0, 3, (witF s t.holds).map hoW⟩), (4, some ⟨0, 3, b.map hoW⟩)], ⟨t.waits.length, [], [], _, _, don, 0, ([]), don, don, rfl, rfl⟩, ?_⟩; rintro m _ _ ⟨j, b, hWIB0, hWIB1, rfl, rfl⟩; refine nx ?_)
  refine ⟨fun h => nx ?_, fun h => nx ?_⟩
  have hi : j < t.waits.length := by simpa using h
  have ht := wit_take (s := s) hi
  have hal : b.length ≤ j := by rw [hWIB1]; have := wit_len (s := s) (l := t.waits.take j); simp at this; omega
  refine ⟨(j, hoL t.waits[j]), ⟨rfl, by simp [hi]⟩, nx ?_⟩
  by_cases k : t.waits[j].session = s
  rw [if_pos k, ← hWIB1] at ht
  have q := ht.symm
  refine ⟨fun h => absurd h (fun w => w k), fun h => nx ?_⟩
  exact ⟨m - 1, [], [], _, _, by omega, don, (j + 1), b, don, don, rfl, rfl⟩
  rw [if_neg k, ← hWIB1] at ht
  have q := ht.symm
  refine ⟨fun h => nx ?_, fun h => absurd h (fun w => w k)⟩
  refine ⟨(j, hoL t.waits[j]), ⟨rfl, by simp [hi]⟩, nx ?_⟩
  refine ⟨(b ++ [t.waits[j]]).map hoW, ⟨app_one hoW b t.waits[j], by simp; omega⟩, nx ?_⟩
  exact ⟨m - 1, [], [(4, 960)], _, _, by omega, don, (j + 1), (b ++ [t.waits[j]]), don, don, rfl, rfl⟩
  have hi : t.waits.length ≤ j := by simpa using h
  rw [List.take_of_length_le hi] at hWIB1
  rw [hWIB1]
  exact ⟨[], [], don⟩
end Go.Proofs.YtecnmodeggnjoaaGreat.Ac
