/- Several of our texts, one behind the other, without what this claim does not need: Row, Aid, Bld, Num, PWirex0, PWirex1, PSrcx1, PReqx0, PReqx2, PReqx1, PReqx4, Wtr, PRdrx1, PDocx0, PDocx1, DocF, DocG, DocH, DocI, DocS, DocJ, DocK, WireP, WireQ. -/
import Derived.Test.YtnppmhijoaeibaaProg
import Derived.Test.YtnppmhijoaeibaaZ6f0d6e67
import Derived.ChangeArms
import Derived.Deep.Slices
import Derived.WalkKit
import Derived.Lib.Strings
import Derived.Lib.Slices
import Derived.Lib.Walk
import Derived.Lib.Builder
import Derived.Lib.AppendStr
import Derived.Lib.UnsafeStr
import Derived.Lib.MakeNoZero
import Derived.Laws.Externs
import Derived.Laws.IdiomCopy
import Derived.Laws.BitsLemmas
import Derived.RegionTactic
import Derived.LoopTactic
import Derived.Lib.Hide
import Derived.Below
import Derived.Deep.Draws
import Derived.Deep.AppendLies
import Derived.Maps.AppendAt
import Derived.OwnWalk
import Derived.Laws.BytesArg
import Derived.Laws.MakeOwn
import Derived.Laws.OwnMore
import Derived.Deep.OwnRows
import Derived.Tactics
import Derived.Lib.ConvBytes
import Derived.Laws.Slices
import Derived.KernelRfl
import Derived.RowKit3
import Derived.Deep.LoopGhost
import Derived.Deep.QuietTactic
import Derived.BigQuiet
import Derived.WideLaws
import Derived.Deep.DeepCutAuto
import Derived.Deep.CutBlock
import Derived.Deep.RegionHeld3
import Derived.Laws.Rows
import Derived.ArgAppend
import Derived.OrdersHeld
import Derived.RowKit
import Derived.Test.YtnppmhijoaeibaaZbe9210b1
import Derived.Test.YtnppmhijoaeibaaZ807aa8ce
import Derived.Test.YtnppmhijoaeibaaZ86dc01b6
import Derived.Test.YtnppmhijoaeibaaZ8618e7a4
import Derived.Test.YtnppmhijoaeibaaZ7d711c95
import Derived.Test.YtnppmhijoaeibaaZ165c0f43
import Derived.Test.YtnppmhijoaeibaaZ53e3eb77
import Derived.Test.YtnppmhijoaeibaaZb8f9ac00
import Derived.Test.YtnppmhijoaeibaaZb60d77bb
import Derived.Test.YtnppmhijoaeibaaZ97fb0a9b
import Derived.Test.YtnppmhijoaeibaaZ8c9421c8
import Derived.Test.YtnppmhijoaeibaaZ23654fb5
import Derived.StillTailTactics
import Derived.Outline
import Derived.IntWalk
import Derived.Shelf.Small.Strs
import Derived.Maps.OwnSet
set_option linter.unusedVariables false
set_option linter.unusedSimpArgs false
namespace Go.Proofs.Ytnppmhijoaeibaa.H
open Go.RowKit Go.Proofs.YtnppmhijoaeibaaW.PrintWords
def Opn (t : TypeId) {α : Type} (d : Kd α) (wf : α → Prop) : Prop :=
  ∀ {H : Type} (enc : TypeId × Value → H) (W : World) (fuel : Nat) (cs : List Value) (x : DataW H × List MemPlace), DataW.trod enc Try.prog W 0 (fun _ => true) true fuel t cs = some x → ∃ y, d.K W y cs ∧ wf y
theorem opn_int {t : TypeId} {k : IntKind} (ht : Try.prog.underlying t = some (.int k)) : Opn t (Kd.int k) (fun n => (Lit.int k n).wf = true) := by
  intro H enc W fuel cs x h
  obtain ⟨n, rfl, _, w⟩ := DataW.trod_int ht h
  exact ⟨n, rfl, w⟩
theorem opn_str {t : TypeId} (ht : Try.prog.underlying t = some .string) : Opn t Kd.string (fun s => s.size ≤ maxLen) := by
  intro H enc W fuel cs x h
  obtain ⟨n, rfl, _, w⟩ := DataW.trod_string ht h
  exact ⟨n, rfl, w⟩
theorem opn_slice {t e : TypeId} {α : Type} {d : Kd α} {wf : α → Prop} (ht : Try.prog.underlying t = some (.slice e)) (hs : Try.prog.cellsOf e = d.sz) (he : Opn e d wf) : Opn t (Kd.slice e d) (fun ys => ys.length ≤ maxLen ∧ ∀ y ∈ ys, wf y) := by
  intro H enc W fuel cs x h
  rcases Go.Deep.open_slice ht h with ⟨rfl, _⟩ | ⟨a, len, cap, m, n, D, Pl, rfl, _, hl, hm, hmm, _, hel⟩
  · exact ⟨[], ⟨none, 0, rfl, Nat.le_refl _, rfl, by simp, fun hn => absurd hn (by simp)⟩, by simp, by simp⟩
  · have hmlen : len ≤ m := by rw [hmm]; simp; exact hl
    have key : ∀ i, i < len → ∃ cs' y, W.cells? 0 (a.add (i * Try.prog.cellsOf e)) (Try.prog.cellsOf e) = some cs' ∧ d.K W y cs' ∧ wf y := fun i hi => by
      obtain ⟨cs', h1, h2⟩ := hel i (by omega)
      obtain ⟨y, hy, hw⟩ := he enc W _ _ _ h2
      exact ⟨cs', y, h1, hy, hw⟩
    have build : ∀ L, L ≤ len → ∃ ys : List α, ys.length = L ∧ (∀ y ∈ ys, wf y) ∧ ∀ j y, ys[j]? = some y → ∃ cs', W.cells? 0 (a.add (j * Try.prog.cellsOf e)) (Try.prog.cellsOf e) = some cs' ∧ d.K W y cs' := by
      intro L
      induction L with
      | zero => intro _; exact ⟨[], rfl, by simp, by simp⟩
      | succ L ih =>
        intro hL
        obtain ⟨ys, h1, h2, h3⟩ := ih (by omega)
        obtain ⟨cs', y, g1, g2, g3⟩ := key L (by omega)
        refine ⟨ys ++ [y], by simp [h1], fun z hz => ?_, fun j z hj => ?_⟩
        · rcases List.mem_append.1 hz with hz | hz
          · exact h2 z hz
          · rw [List.mem_singleton.1 hz]; exact g3
        · by_cases g : j < ys.length
          · rw [List.getElem?_append_left g] at hj; exact h3 j z hj
          · rw [List.getElem?_append_right (by omega)] at hj
            obtain ⟨hq, rfl⟩ := List.getElem?_eq_some_iff.1 hj
            have : j = L := by simp at hq; omega
            subst this
            refine ⟨cs', g1, ?_⟩
            simpa using g2
    obtain ⟨ys, h1, h2, h3⟩ := build len (Nat.le_refl _)
    refine ⟨ys, ⟨some a, cap, by rw [h1], by rw [h1]; exact hl, rfl, ?_, fun _ => ⟨a, rfl, fun j p hj => ?_⟩⟩, by rw [h1]; exact Nat.le_trans hl hm, h2⟩
    · rw [h1]; have := Nat.le_trans hl hm; simpa [maxLen] using this
    · obtain ⟨cs', g1, g2⟩ := h3 j p hj
      obtain ⟨_, g3, g4⟩ := World.cells?_some g1
      refine ⟨cs', by rw [g3, hs], g2, fun i u hu => ?_⟩
      have hi : i < Try.prog.cellsOf e := by rw [← g3]; exact (List.getElem?_eq_some_iff.1 hu).1
      have := g4 i hi
      rw [hu, Addr.add_add, hs] at this
      exact this
theorem cons_of {l : List Value} {n : Nat} (h : l.length = n + 1) : ∃ q t, l = q :: t ∧ t.length = n := by
  cases l with
  | nil => simp at h
  | cons q t => exact ⟨q, t, rfl, by simpa using h⟩
theorem cut_ (l : List Value) (a b : Nat) : l.drop a = (l.drop a).take b ++ l.drop (a + b) := by rw [← List.drop_drop, List.take_append_drop]
end Go.Proofs.Ytnppmhijoaeibaa.H
set_option linter.unusedVariables false
namespace Go.Proofs.Ytnppmhijoaeibaa.H
open Go.RowKit Go.Proofs.YtnppmhijoaeibaaW.PrintWords
theorem wid {x : Int} (h1 : -9223372036854775808 ≤ x) (h2 : x ≤ 9223372036854775807) : wrap64 x = x := by unfold wrap64; omega
end Go.Proofs.Ytnppmhijoaeibaa.H
set_option linter.unusedVariables false
set_option linter.unusedSimpArgs false
namespace Go.Proofs.Ytnppmhijoaeibaa.H
open Go.RowKit
theorem infoByte : (Try.prog.info? 5).map (fun i => (i.zero, i.size, i.bytes)) = some (some (.int .u8 0), 1, 1) := by kernel_rfl
theorem sizeBuilder : (Try.prog.info? 73).map (·.size) = some 2 := by kernel_rfl
def IsB (T : TypeId) : Prop := liesAt Try.prog Try.prog.depth T (2 / Try.prog.cellsOf T) 0 73 1 = true ∧ T ≠ 5
theorem isB : IsB 73 := ⟨by kernel_rfl, by decide⟩
theorem isW : IsB 75 := ⟨by kernel_rfl, by decide⟩
set_option maxHeartbeats 1000000 in
set_option maxRecDepth 100000 in
theorem copyCheck_used (b : Nat) (w : World) (h0 : w.cell? ⟨b, 0, none⟩ = some (.pointer (some ⟨b, 0, none⟩))) :
    Calls Try.prog 91 #[.pointer (some ⟨b, 0, none⟩)] w fun e w' => e = .returned (.tuple #[]) ∧ w' = w := by
  obtain ⟨j, hj, _⟩ := Option.map_eq_some_iff.1 sizeBuilder
  have hne := fun W : World => Lib.run_neq_ptr_same (P := Try.prog) W ⟨b, 0, none⟩ Try.underlying71 hj
  go_enter Try.func91, Try.ntmps91
  go_wp2
  go_end0
  exact ⟨rfl, rfl⟩
set_option maxHeartbeats 1000000 in
set_option maxRecDepth 100000 in
theorem copyCheck_fresh {T : TypeId} (hT : IsB T) (b : Nat) (w : World) (h0 : w.cell? ⟨b, 0, none⟩ = some (.pointer none)) (hsh : w.shape? b = some (T, 2)) (hfz : w.frozen? ⟨b, 0, none⟩ = false) :
    Calls Try.prog 91 #[.pointer (some ⟨b, 0, none⟩)] w fun e w' => e = .returned (.tuple #[]) ∧ w' = w.setCell ⟨b, 0, none⟩ (.pointer (some ⟨b, 0, none⟩)) := by
  obtain ⟨j, hj, hjs⟩ := Option.map_eq_some_iff.1 sizeBuilder
  go_enter Try.func91, Try.ntmps91
  go_wp2
  rw [Lib.run_to_unsafe w ⟨b, 0, none⟩ Try.underlying71 Try.underlying120 hj (by rw [hjs]; decide) hsh (Nat.zero_lt_succ 1)]
  simp only [Result.andThen]
  rw [Oper.upon_value]
  go_wp2
  rw [run_callFunc_extern Try.func111 (by kernel_rfl) (by kernel_rfl) (by kernel_rfl) (e := Extern.AbiNoEscape.same) (by kernel_rfl)]
  rw [Lib.run_noEscape]
  simp only [Result.andThen]
  rw [Oper.upon_value]
  go_wp2
  rw [Lib.run_from_unsafe w ⟨b, 0, none⟩ Try.underlying120 Try.underlying71 hj hsh hT.1]
  simp only [Result.andThen]
  rw [Oper.upon_value]
  go_wp2
  go_end0
  exact ⟨rfl, rfl⟩
theorem copyCheck {T : TypeId} (hT : IsB T) (B b : Nat) (bs : List Value) (w : World) (h : Lib.IsBuilder T 5 B b bs w) :
    Calls Try.prog 91 #[.pointer (some ⟨b, 0, none⟩)] w fun e w' => e = .returned (.tuple #[]) ∧ (Lib.BuilderAt T 5 B b (.pointer (some ⟨b, 0, none⟩)) bs w' ∧ Below B w w') := by
  rcases h with h | h
  · refine (copyCheck_fresh hT b w h.cell0 h.shape h.frozen0).mono ?_
    rintro e w' ⟨rfl, rfl⟩
    exact ⟨rfl, h.used _, (Below.refl B w).setCell (p := ⟨b, 0, none⟩) h.1 _⟩
  · refine (copyCheck_used b w h.cell0).mono ?_
    rintro e w' ⟨rfl, rfl⟩
    exact ⟨rfl, h, Below.refl B _⟩
set_option maxHeartbeats 2000000 in
set_option maxRecDepth 100000 in
theorem writeByte {T : TypeId} (hT : IsB T) (B b : Nat) (bs : List Value) (c : Int) (w : World) (h : Lib.IsBuilder T 5 B b bs w) (hlen : bs.length + 1 ≤ 140737488355328) (hBw : B ≤ w.heap.size) :
    Calls Try.prog 82 #[.pointer (some ⟨b, 0, none⟩), .int .u8 c] w fun e w' => e = .returned .nilIface ∧ (Lib.BuilderAt T 5 B b (.pointer (some ⟨b, 0, none⟩)) (bs ++ [.int .u8 c]) w' ∧ Below B w w') := by
  obtain ⟨i0, hi, hz0, hz1, hz2⟩ := info_parts infoByte
  have hcc := copyCheck hT B b bs w h
  go_enter Try.func82, Try.ntmps82
  go_wp2_with (go_at_call 91; refine hcc.mono ?_)
  rintro e w1 ⟨rfl, h1, hb1⟩
  obtain ⟨hB, v, hbk, hown, hne⟩ := h1
  have c0 : w1.cell? ⟨b, 0, none⟩ = some (.pointer (some ⟨b, 0, none⟩)) := by rw [Lib.cell_of_heap hbk]; rfl
  have c1 : w1.cell? ⟨b, 1, none⟩ = some v := by rw [Lib.cell_of_heap hbk]; rfl
  go_wp2_with (at_builtin; refine wpList_append_own _ rfl _ _ 30 rfl B 5 i0 (.int .u8 0) 1 1 Try.underlying30 hi hz0 hz1 hz2 rfl (by decide) _ _ _ rfl (hown.alloc _) ⟨w1.heap.size, 0, none⟩ 1 1 [.int .u8 c] rfl rfl ?c1 ?c2 ?c3 ?c4 ?c5 ?_)
  case c1 =>
    intro j u hj
    match j, hj with
    | 0, hj => simp at hj; subst hj; simp [Addr.add]
  case c2 => intro u hu; simp at hu; subst hu; rfl
  case c3 => unfold maxLen; omega
  case c4 => omega
  case c5 => have := hb1.size; simp; omega
  intro v' w2 hown' hgrow _
  have hlt : b < w1.heap.size := by
    rcases Nat.lt_or_ge b w1.heap.size with h' | h'
    · exact h'
    · simp [Array.getElem?_eq_none h'] at hbk
  have hb2 : w2.heap[b]? = some (.cells #[.pointer (some ⟨b, 0, none⟩), v] T (0, 0)) := by
    rw [hgrow.block b (by simp; omega) (fun e => hne e.symm), Lib.alloc_old w1 _ b hlt]
    exact hbk
  have d0 : w2.cell? ⟨b, 0, none⟩ = some (.pointer (some ⟨b, 0, none⟩)) := by rw [Lib.cell_of_heap hb2]; rfl
  have d1 : w2.cell? ⟨b, 1, none⟩ = some v := by rw [Lib.cell_of_heap hb2]; rfl
  have f1 : w2.frozen? ⟨b, 1, none⟩ = false := Lib.frozen_of_heap hb2 1
  obtain ⟨g, cap, rfl⟩ : ∃ g cap, v' = .slice (some ⟨g, 0, none⟩) (bs.length + 1) cap := by
    rcases hown'.2 with ⟨_, h0⟩ | ⟨g, cap, cur, hv, _⟩
    · omega
    · exact ⟨g, cap, hv⟩
  go_wp2
  go_ret
  refine ⟨rfl, ?_, ?_⟩
  · exact Lib.BuilderAt.put (T := T) (e := 5) hB hb2 (bs' := bs ++ [.int .u8 c]) (by simpa using hown') hT.2
  · exact ((hb1.alloc (by have := hb1.size; omega) _).grown hgrow (by have := hb1.size; simp; omega) (fun k hk => (hown.lt k hk).1)).setCell (p := ⟨b, 1, none⟩) hB _
set_option maxHeartbeats 1000000 in
set_option maxRecDepth 100000 in
theorem string_ {T : TypeId} (hT : IsB T) (B b : Nat) (l : List UInt8) (w : World) (h : Lib.IsBuilder T 5 B b (Lib.byteCells l) w) (h0 : l ≠ []) :
    Calls Try.prog 66 #[.pointer (some ⟨b, 0, none⟩)] w fun e w' => e = .returned (.string ⟨l.toArray⟩) ∧ Below B w w' := by
  obtain ⟨p, hB, v, hbk, hown, hne⟩ : ∃ p, Lib.BuilderAt T 5 B b p (Lib.byteCells l) w := by
    rcases h with h | h
    · exact ⟨_, h⟩
    · exact ⟨_, h⟩
  have hl0 : l.length ≠ 0 := by simpa using h0
  rw [Lib.byteCells_length] at hown
  obtain ⟨g, cap, cur, rfl, hbg, hg, hnc, hcm, hcs, htake⟩ : ∃ g cap cur, v = .slice (some ⟨g, 0, none⟩) l.length cap ∧ B ≤ g ∧ w.heap[g]? = some (.cells cur 5 (0, 0)) ∧ l.length ≤ cap ∧ cap ≤ maxLen ∧ cur.size = cap * 1 ∧ cur.toList.take (l.length * 1) = Lib.byteCells l := by
    rcases hown.2 with ⟨_, hz⟩ | ⟨g, cap, cur, hv, r⟩
    · exact absurd hz hl0
    · exact ⟨g, cap, cur, hv, r⟩
  have c1 : w.drew.cell? ⟨b, 1, none⟩ = some (.slice (some ⟨g, 0, none⟩) l.length cap) := by
    have : w.drew.heap[b]? = some (.cells #[p, .slice (some ⟨g, 0, none⟩) l.length cap] T (0, 0)) := hbk
    rw [Lib.cell_of_heap this]; rfl
  have hSD : (Builtin.unsafeSliceData_ #[30] 102 #[.slice (some ⟨g, 0, none⟩) l.length cap]).run Try.prog w.drew = .ok (.pointer (some ⟨g, 0, none⟩)) w.drew :=
    Lib.run_unsafeSliceData_row _ _ _ _ _ _ (by omega)
  have hUS : (Builtin.unsafeString_ #[102, 3] 9 #[.pointer (some ⟨g, 0, none⟩), .int .i64 l.length]).run Try.prog w.drew = .ok (.string ⟨l.toArray⟩) (w.drew.freeze ⟨g, 0, none⟩ l.length) := by
    refine Lib.run_unsafeString_row w.drew 102 3 9 5 Try.underlying102 (by kernel_rfl) g cur.size (by have hg' : w.drew.heap[g]? = some (.cells cur 5 (0, 0)) := hg; simp [World.shape?, hg']) l h0 (by omega) (by unfold maxLen at hcm; omega) ?_
    intro j x hx
    have := hown.cells (g := g) rfl j (.int .u8 x.toNat) (by simp [Lib.byteCells, hx])
    exact this
  go_enter Try.func66, Try.ntmps66
  go_wp2
  go_region
  all_goals (go_wp2; go_ret; exact ⟨rfl, Lib.below_freeze (Below.drew (Below.refl B w)) (p := ⟨g, 0, none⟩) hbg _⟩)
end Go.Proofs.Ytnppmhijoaeibaa.H
set_option linter.unusedVariables false
set_option linter.unusedSimpArgs false
namespace Go.Proofs.Ytnppmhijoaeibaa.H
open Go.RowKit Go.Proofs.YtnppmhijoaeibaaW.PrintWords
def putL (n : Int) : List Int := if 16383 < n then [n % 128 + 128, n / 128 % 128 + 128, n / 16384] else if 127 < n then [n % 128 + 128, n / 128] else [n % 256]
theorem putL_step {m : Int} (h : 127 < m) (h2 : m < 2097152) : putL m = (m % 128 + 128) :: putL (m / 128) := by
  unfold putL
  by_cases h3 : 16383 < m
  · rw [if_pos h3, if_neg (by omega), if_pos (by omega), show m / 128 / 128 = m / 16384 by omega]
  · rw [if_neg h3, if_pos h, if_neg (by omega), if_neg (by omega), show m / 128 % 256 = m / 128 by omega]
theorem putL_len (m : Int) : (putL m).length ≤ 3 := by
  unfold putL; split
  · simp
  · split <;> simp
theorem putL_range {m : Int} (h2 : m < 2097152) : ∀ x ∈ putL m, 0 ≤ x ∧ x ≤ 255 := by
  unfold putL; intro x hx
  split at hx
  · simp at hx; omega
  · split at hx
    · simp at hx; omega
    · simp at hx; omega
theorem putL_ne (m : Int) : putL m ≠ [] := by
  unfold putL; split
  · simp
  · split <;> simp
def impl_number.f (a0 : Int) : Option ByteArray := if a0 < 2097152 then some (strOfNums (putL a0)) else none
theorem nums_cells (xs : List Int) (h : ∀ x ∈ xs, 0 ≤ x ∧ x ≤ 255) : nums .u8 xs = Lib.byteCells (xs.map fun x => UInt8.ofNat x.toNat) := by
  induction xs with
  | nil => rfl
  | cons x xs ih =>
    have hx := h x (by simp)
    have hi := ih (fun y hy => h y (by simp [hy]))
    simp only [nums, Lib.byteCells, List.map_cons] at hi ⊢
    rw [hi]
    congr 1
    have : (UInt8.ofNat x.toNat).toNat = x.toNat := by simp [UInt8.toNat_ofNat']; omega
    rw [this]; congr 1; omega
def NumRel (w : World) (a0 : Int) (n : Value) (wr : World) : Prop :=
  ∃ (m : Int) (bs : List Int), n = .int .i64 m ∧ m < 2097152 ∧ bs ++ putL m = putL a0 ∧ Lib.IsBuilder 73 5 w.heap.size w.heap.size (nums .u8 bs) wr ∧ Below w.heap.size w wr
set_option maxHeartbeats 2000000 in
set_option maxRecDepth 100000 in
theorem impl_number.calls (a0 : Int) (r : ByteArray) (w : World) (h : impl_number.f a0 = some r) :
    Calls Try.prog 46 #[.int .i64 a0] w fun e w' => e = .returned (.string r) ∧ Below w.heap.size w w' := by
  unfold impl_number.f at h
  by_cases h0 : a0 < 2097152
  · rw [if_pos h0] at h
    obtain rfl := Option.some.inj h
    clear h
    go_enter Try.func46, Try.ntmps46
    go_wp2
    go_loopw [0] (fun n wr => NumRel w a0 n wr) (fun n _ => (intOf n).toNat)
    case atStart =>
      exact ⟨a0, [], rfl, h0, rfl, .inl ⟨Nat.le_refl _, .slice none 0 0, by rw [heap_alloc_new], own_nil _ _ _ _, by simp [Value.ownBlock]⟩, (Below.refl _ _).alloc (Nat.le_refl _) _⟩
    case round =>
      obtain ⟨m, bs, rfl, hm, hbs, hB, hb⟩ := hrel
      have hl : (nums .u8 bs).length + 1 ≤ 140737488355328 := by
        have h1 := congrArg List.length hbs
        have h2 := putL_len a0
        rw [List.length_append] at h1
        rw [nums_length]; omega
      by_cases hlt : 127 < m
      · have hs := Lib.hid (putL_step hlt hm)
        have HBS := Lib.hid hbs
        clear hbs
        go_wp2_with fail
        refine (writeByte isB w.heap.size w.heap.size _ _ _ hB hl hb.size).mono ?_
        rintro e w1 ⟨rfl, h1, hb1⟩
        go_wp2
        go_roundw
        case rel =>
          refine ⟨m / 128, bs ++ [m % 128 + 128], rfl, by omega, ?_, .inr ?_, hb.trans hb1⟩
          · rw [List.append_assoc, ← HBS.out, hs.out]; rfl
          · rw [nums_append]; exact h1
        case measure => simp [intOf]; omega
      · have hs : putL m = [m % 256] := by unfold putL; rw [if_neg (by omega), if_neg hlt]
        have HS := Lib.hid hs
        have HBS := Lib.hid hbs
        clear hs hbs
        go_wp2_with fail
        refine (writeByte isB w.heap.size w.heap.size _ _ _ hB hl hb.size).mono ?_
        rintro e w1 ⟨rfl, h1, hb1⟩
        go_wp2_with fail
        have he : nums .u8 bs ++ [Value.int .u8 (m % 256)] = Lib.byteCells ((putL a0).map fun x => UInt8.ofNat x.toNat) := by
          rw [← nums_cells _ (putL_range h0), ← HBS.out, HS.out, nums_append]; rfl
        rw [he] at h1
        refine (string_ isB w.heap.size w.heap.size _ _ (.inr h1) (by simpa using putL_ne a0)).mono ?_
        rintro e w2 ⟨rfl, hb2⟩
        go_wp2
        go_ret
        exact ⟨rfl, (hb.trans hb1).trans hb2⟩
  · rw [if_neg h0] at h; cases h
end Go.Proofs.Ytnppmhijoaeibaa.H
namespace Go.Proofs.Ytnppmhijoaeibaa.Q
open Go.RowKit Go.Proofs.YtnppmhijoaeibaaW.PrintWords Go.Proofs.YtnppmhijoaeibaaW.PrintLast Go.Proofs.YtnppmhijoaeibaaW.PrintMore
open Go.Proofs.Ytnppmhijoaeibaa.H
attribute [local go_sem] max2_int min2_int max_two min_two max_three min_three max_four min_four
set_option linter.unusedVariables false
set_option linter.unusedSimpArgs false
def errW : Option Int → Value
  | none => .nilIface
  | some c => .iface 0 (.int .i64 c)
theorem errW_none : errW none = .nilIface := rfl
theorem errW_some (c : Int) : errW (some c) = .iface 0 (.int .i64 c) := rfl
theorem info5 : (Try.prog.info? 5).map (fun i => (i.zero, i.size, i.bytes)) = some (some (.int .u8 0), 1, 1) := by kernel_rfl
end Go.Proofs.Ytnppmhijoaeibaa.Q
namespace Go.Proofs.Ytnppmhijoaeibaa.Q
open Go.RowKit Go.Proofs.YtnppmhijoaeibaaW.PrintWords Go.Proofs.YtnppmhijoaeibaaW.PrintLast Go.Proofs.YtnppmhijoaeibaaW.PrintMore
open Go.Proofs.Ytnppmhijoaeibaa.H
attribute [local go_sem] max2_int min2_int max_two min_two max_three min_three max_four min_four
set_option linter.unusedVariables false
set_option linter.unusedSimpArgs false
def spec_l01In.f (a0 : Int) (a1 : Int) (a2 : Int) : Option (Bool) := if a0 ≥ a1 then (some (decide (a0 ≤ a2))) else (some false)
set_option maxHeartbeats 8000000 in
set_option maxRecDepth 100000 in
theorem spec_l01In.calls (a0 : Int) (a1 : Int) (a2 : Int) (r : Bool) (w : World) (h : spec_l01In.f a0 a1 a2 = some r) :
    Calls Try.prog 43 #[.int .i64 a0, .int .i64 a1, .int .i64 a2] w fun e w' => e = .returned (.bool r) ∧ Drawn0 w w' := by
  have H : (if a0 ≥ a1 then (some (decide (a0 ≤ a2))) else (some false)) = some r := h
  clear h
  by_cases c4 : a0 ≥ a1
  · rw [if_pos c4] at H
    have c4b0 : decide (a1 ≤ a0) = true := decide_eq_true c4
    clear c4
    obtain rfl := Option.some.inj H
    go_enter Try.func43, Try.ntmps43
    go_wp2
    go_ret
    exact ⟨by first | rfl | (simp; done) | (simp [*]; done), by repeat (first | exact Drawn0.refl _ | apply Drawn0.step)⟩
  · rw [if_neg c4] at H
    have c4b0 : decide (a1 ≤ a0) = false := decide_eq_false c4
    clear c4
    obtain rfl := Option.some.inj H
    go_enter Try.func43, Try.ntmps43
    go_wp2
    go_ret
    exact ⟨by first | rfl | (simp; done) | (simp [*]; done), by repeat (first | exact Drawn0.refl _ | apply Drawn0.step)⟩
def spec_l01Put.l0 : Nat → Int → List Int → Option (ByteArray)
  | 0, _, _ => none
  | k + 1, x0, x3 => if x0 ≥ 128 then (if x3.length < 140737488355328 then (spec_l01Put.l0 k (wrap64 (Int.tdiv x0 128)) (x3 ++ [(wrap64 (128 + (Int.tmod x0 128))) % 256])) else (none)) else (if x3.length < 140737488355328 then (some (strOfNums (x3 ++ [(x0) % 256]))) else (none))
def spec_l01Put.f (k : Nat) (a0 : Int) : Option (ByteArray) := spec_l01Put.l0 k a0 (([] : List Int))
theorem spec_l01Put.mono_l : ∀ k, (∀ y0 y1, LeO (spec_l01Put.l0 k y0 y1) (spec_l01Put.l0 (k + 1) y0 y1))
  | 0 => fun _ _ r h => by simp [spec_l01Put.l0] at h
  | k + 1 => by
    have ih0 := spec_l01Put.mono_l k
    · intro y0 y1
      unfold spec_l01Put.l0
      repeat' first
      | (with_reducible exact ih0 _ _)
      | (with_reducible exact LeO.refl _)
      | (with_reducible exact LeO.none _)
      | (with_reducible refine LeO.ite ?_ ?_)
      | (with_reducible refine LeO.bind ?_ (fun _ => ?_))
      | exact ih0 _ _
      | exact LeO.none _
      | refine LeO.ite ?_ ?_
      | refine LeO.bind ?_ (fun _ => ?_)
theorem spec_l01Put.mono : ∀ a0 k, LeO (spec_l01Put.f k a0) (spec_l01Put.f (k + 1) a0) := by
  intro a0 k
  have ih0 := spec_l01Put.mono_l k
  unfold spec_l01Put.f
  repeat' first
      | (with_reducible exact ih0 _ _)
      | (with_reducible exact LeO.refl _)
      | (with_reducible exact LeO.none _)
      | (with_reducible refine LeO.ite ?_ ?_)
      | (with_reducible refine LeO.bind ?_ (fun _ => ?_))
      | exact ih0 _ _
      | exact LeO.none _
      | refine LeO.ite ?_ ?_
      | refine LeO.bind ?_ (fun _ => ?_)
set_option maxHeartbeats 8000000 in
set_option maxRecDepth 100000 in
theorem spec_l01Put.calls (k : Nat) (a0 : Int) (r : ByteArray) (w : World) (h : spec_l01Put.f k a0 = some r) :
    Calls Try.prog 44 #[.int .i64 a0] w fun e w' => e = .returned (.string r) ∧ Below w.heap.size w w' := by
  have HB := Aside0.mk (Below.refl w.heap.size w)
  have H : (spec_l01Put.l0 k a0 (([] : List Int))) = some r := h
  clear h
  obtain ⟨y101, hy101⟩ : ∃ y_ : List Int, y_ = (([] : List Int)) := ⟨_, rfl⟩
  replace H : (spec_l01Put.l0 k a0 y101) = some r := by first | (rw [hy101]; with_reducible exact H) | (have H2_ := (Option.bind_some _ _).symm.trans H; rw [hy101]; with_reducible exact H2_) | (have H2_ := (Option.bind_some _ _).symm.trans H; with_reducible exact H2_) | with_reducible exact H | (rw [hy101]; exact H) | exact H
  have Ny101 := Aside0.mk hy101
  clear hy101
  have H' := Aside0.mk H
  clear H
  go_enter Try.func44, Try.ntmps44
  go_wp2_with (first | ((with_reducible refine gate_dst (N := 4) rfl ?_); refine Kd.R_lit (Kd.int .u8) _ 5 ?hg (N := 4) ?hd (xs := ([] : List Int)) (inner := []) (ok := fun _ => True) (okp := fun _ => True) ?hr ?hp (fun _ hk => hk) trivial (Below.refl _ _) (Nat.le_refl _) (by simp) ?_; (case hd => rfl); (case hg => rfl); (case hr => first | (go_simp; done) | (go_simp; rfl)); (case hp => exact (Reps.none _ _)); intro v102 w2 ho3 hb hg_ hnew_; clear hg_ hnew_; (first | rw [← Ny101.out] at ho3 | (simp only [Int.reduceToNat] at ho3; rw [← Ny101.out] at ho3)); have n0_ := Aside0.mk (Kd.R_lower ho3 (below_size (by repeat (first | (with_reducible first | exact HB.out | apply below_alloc | apply pw_below_drewN | apply below_drew1) | exact HB.out)))); have n1_ := Aside0.mk (below_step (by repeat (first | (with_reducible first | exact HB.out | apply below_alloc | apply pw_below_drewN | apply below_drew1) | exact HB.out)) hb); clear HB; have HO103 := n0_; have HB := n1_; clear n0_ n1_; clear hb ho3))
  go_loopg [0, 3] k (fun kq v0 v3 w' => ∃ (x0_1 : Int) (x3_1 : List Int), v0 = .int .i64 x0_1 ∧ Aside0 (spec_l01Put.l0 kq x0_1 x3_1 = some r) ∧ Aside0 (kq ≤ k) ∧ Aside0 (Kd.R (Kd.int .u8) 5 w' w.heap.size (fun _ => True) v3 x3_1) ∧ Aside0 (Below w.heap.size w w'))
  case atStart => exact ⟨(a0), (y101), (by first | rfl | (simp; done) | (simp [*]; done)), H', ⟨Nat.le_refl _⟩, ⟨by (with_reducible repeat (first | apply Kd.R_alloc | apply Kd.R_drewN | apply Kd.R_drew)); exact HO103.out⟩, ⟨by repeat (first | (with_reducible first | exact HB.out | apply below_alloc | apply pw_below_drewN | apply below_drew1) | exact HB.out)⟩⟩
  case round =>
    clear H'
    try clear p2
    obtain ⟨x0_1, x3_1, rfl, HA, HK1, HO_3, HB⟩ := hrel
    cases gk with
    | zero => exact absurd HA.out (by simp [spec_l01Put.l0])
    | succ k1 =>
      have H := HA.out
      clear HA
      simp only [spec_l01Put.l0] at H
      by_cases c4 : x0_1 ≥ 128
      · rw [if_pos c4] at H
        have c4b0 : decide (128 ≤ x0_1) = true := decide_eq_true c4
        clear c4
        by_cases c5 : x3_1.length < 140737488355328
        · rw [if_pos c5] at H
          have LMc5 := Aside0.mk c5
          clear c5
          obtain ⟨y104, hy104⟩ : ∃ y_ : List Int, y_ = (x3_1 ++ [(wrap64 (128 + (Int.tmod x0_1 128))) % 256]) := ⟨_, rfl⟩
          replace H : (spec_l01Put.l0 k1 (wrap64 (Int.tdiv x0_1 128)) y104) = some r := by first | (rw [hy104]; with_reducible exact H) | (have H2_ := (Option.bind_some _ _).symm.trans H; rw [hy104]; with_reducible exact H2_) | (have H2_ := (Option.bind_some _ _).symm.trans H; with_reducible exact H2_) | with_reducible exact H | (rw [hy104]; exact H) | exact H
          have Ny104 := Aside0.mk hy104
          clear hy104
          have H' := Aside0.mk H
          clear H
          go_wp2_with (first | ((with_reducible refine gate_builtin (b := .append) (xs := #[.tmp 7, .tmp 12]) rfl ?_); at_builtin; refine Kd.R_append (Kd.int .u8) (w0 := w) w.heap.size rfl (.tmp 7) (.tmp 12) 30 5 (.int .u8 0) 1 rfl Try.underlying30 info5 rfl (by decide) (by omega) u3 x3_1 ((wrap64 (128 + (Int.tmod x0_1 128))) % 256) [.int .u8 ((wrap64 (128 + (Int.tmod x0_1 128))) % 256)] (fun _ => True) (fun _ => False) rfl rfl ?aP (fun _ hk => hk.elim) ?aF ?aO ?aB ?aS ?aL ?_; (case aP => exact rfl); (case aB => exact (by repeat (first | (with_reducible first | exact HB.out | apply below_alloc | apply pw_below_drewN | apply below_drew1) | exact HB.out))); (case aF => exact (fun _ _ => trivial)); (case aO => exact (by (with_reducible repeat (first | apply Kd.R_alloc | apply Kd.R_drewN | apply Kd.R_drew)); exact HO_3.out)); (case aS => exact (below_size (by repeat (first | (with_reducible first | exact HB.out | apply below_alloc | apply pw_below_drewN | apply below_drew1) | exact HB.out)))); (case aL => have := LMc5.out; omega); intro v105 w6 ho hb hg hat; rw [← Ny104.out] at ho; have n0_ := Aside0.mk (hb); have n1_ := Aside0.mk (ho); clear HB; clear HO_3; have HB := n0_; have HO106 := n1_; clear n0_ n1_; clear ho hb hg hat))
          go_roundg k1
          case measure => have := HK1.out; omega
          case rel => exact ⟨(wrap64 (Int.tdiv x0_1 128)), (y104), (by first | rfl | (simp; done) | (simp [*]; done)), H', ⟨by have := HK1.out; omega⟩, ⟨by (with_reducible repeat (first | apply Kd.R_alloc | apply Kd.R_drewN | apply Kd.R_drew)); exact HO106.out⟩, ⟨by repeat (first | (with_reducible first | exact HB.out | apply below_alloc | apply pw_below_drewN | apply below_drew1) | exact HB.out)⟩⟩
        · rw [if_neg c5] at H
          exact absurd H (by simp)
      · rw [if_neg c4] at H
        have c4b0 : decide (128 ≤ x0_1) = false := decide_eq_false c4
        clear c4
        by_cases c7 : x3_1.length < 140737488355328
        · rw [if_pos c7] at H
          have LMc7 := Aside0.mk c7
          clear c7
          obtain ⟨y107, hy107⟩ : ∃ y_ : List Int, y_ = (x3_1 ++ [(x0_1) % 256]) := ⟨_, rfl⟩
          replace H : (some (strOfNums y107)) = some r := by first | (rw [hy107]; with_reducible exact H) | (have H2_ := (Option.bind_some _ _).symm.trans H; rw [hy107]; with_reducible exact H2_) | (have H2_ := (Option.bind_some _ _).symm.trans H; with_reducible exact H2_) | with_reducible exact H | (rw [hy107]; exact H) | exact H
          have Ny107 := Aside0.mk hy107
          clear hy107
          obtain rfl := Option.some.inj H
          go_wp2_with (first | ((with_reducible refine gate_builtin (b := .append) (xs := #[.tmp 16, .tmp 19]) rfl ?_); at_builtin; refine Kd.R_append (Kd.int .u8) (w0 := w) w.heap.size rfl (.tmp 16) (.tmp 19) 30 5 (.int .u8 0) 1 rfl Try.underlying30 info5 rfl (by decide) (by omega) u3 x3_1 ((x0_1) % 256) [.int .u8 ((x0_1) % 256)] (fun _ => True) (fun _ => False) rfl rfl ?aP (fun _ hk => hk.elim) ?aF ?aO ?aB ?aS ?aL ?_; (case aP => exact rfl); (case aB => exact (by repeat (first | (with_reducible first | exact HB.out | apply below_alloc | apply pw_below_drewN | apply below_drew1) | exact HB.out))); (case aF => exact (fun _ _ => trivial)); (case aO => exact (by (with_reducible repeat (first | apply Kd.R_alloc | apply Kd.R_drewN | apply Kd.R_drew)); exact HO_3.out)); (case aS => exact (below_size (by repeat (first | (with_reducible first | exact HB.out | apply below_alloc | apply pw_below_drewN | apply below_drew1) | exact HB.out)))); (case aL => have := LMc7.out; omega); intro v108 w8 ho hb hg hat; rw [← Ny107.out] at ho; have n0_ := Aside0.mk (hb); have n1_ := Aside0.mk (ho); clear HB; clear HO_3; have HB := n0_; have HO109 := n1_; clear n0_ n1_; clear ho hb hg hat; have hcv9 := own_string (P := Try.prog) Try.underlying30 Try.underlying5 Try.underlying9 (Kd.own_of_R HO109.out)))
          go_ret
          exact ⟨by first | rfl | (simp [errW_none, errW_some] <;> rfl) | (simp [*, errW_none, errW_some] <;> rfl), by repeat (first | (with_reducible first | exact HB.out | apply below_alloc | apply pw_below_drewN | apply below_drew1) | exact HB.out)⟩
        · rw [if_neg c7] at H
          exact absurd H (by simp)
def impl_within.f (a0 : Int) (a1 : Int) (a2 : Int) : Option (Bool) := if a0 ≥ a1 then (some (decide (a0 ≤ a2))) else (some false)
set_option maxHeartbeats 8000000 in
set_option maxRecDepth 100000 in
theorem impl_within.calls (a0 : Int) (a1 : Int) (a2 : Int) (r : Bool) (w : World) (h : impl_within.f a0 a1 a2 = some r) :
    Calls Try.prog 45 #[.int .i64 a0, .int .i64 a1, .int .i64 a2] w fun e w' => e = .returned (.bool r) ∧ Drawn0 w w' := by
  have H : (if a0 ≥ a1 then (some (decide (a0 ≤ a2))) else (some false)) = some r := h
  clear h
  by_cases c4 : a0 ≥ a1
  · rw [if_pos c4] at H
    have c4b0 : decide (a1 ≤ a0) = true := decide_eq_true c4
    clear c4
    obtain rfl := Option.some.inj H
    go_enter Try.func45, Try.ntmps45
    go_wp2
    go_ret
    exact ⟨by first | rfl | (simp; done) | (simp [*]; done), by repeat (first | exact Drawn0.refl _ | apply Drawn0.step)⟩
  · rw [if_neg c4] at H
    have c4b0 : decide (a1 ≤ a0) = false := decide_eq_false c4
    clear c4
    obtain rfl := Option.some.inj H
    go_enter Try.func45, Try.ntmps45
    go_wp2
    go_ret
    exact ⟨by first | rfl | (simp; done) | (simp [*]; done), by repeat (first | exact Drawn0.refl _ | apply Drawn0.step)⟩
def spec_l01PutText.f (k : Nat) (a0 : ByteArray) : Option (ByteArray) := (spec_l01Put.f k (a0.size : Int)).bind fun t114 => (if t114.size + a0.size ≤ 9223372036854775807 then (some (t114 ++ a0)) else (none))
theorem spec_l01PutText.mono : ∀ a0 k, LeO (spec_l01PutText.f k a0) (spec_l01PutText.f (k + 1) a0) := by
  intro a0 k
  unfold spec_l01PutText.f
  repeat' first
      | (with_reducible exact spec_l01Put.mono _ _)
      | (with_reducible exact LeO.refl _)
      | (with_reducible exact LeO.none _)
      | (with_reducible refine LeO.ite ?_ ?_)
      | (with_reducible refine LeO.bind ?_ (fun _ => ?_))
      | exact spec_l01Put.mono _ _
      | exact LeO.none _
      | refine LeO.ite ?_ ?_
      | refine LeO.bind ?_ (fun _ => ?_)
set_option maxHeartbeats 8000000 in
set_option maxRecDepth 100000 in
theorem spec_l01PutText.calls (k : Nat) (a0 : ByteArray) (r : ByteArray) (w : World) (h : spec_l01PutText.f k a0 = some r) :
    Calls Try.prog 47 #[.string a0] w fun e w' => e = .returned (.string r) ∧ Below w.heap.size w w' := by
  have HB := Aside0.mk (Below.refl w.heap.size w)
  have H : ((spec_l01Put.f k (a0.size : Int)).bind fun t114 => (if t114.size + a0.size ≤ 9223372036854775807 then (some (t114 ++ a0)) else (none))) = some r := h
  clear h
  replace H := Option.bind_eq_some_iff.mp H
  obtain ⟨t114, A20, H⟩ := H
  replace H : (if t114.size + a0.size ≤ 9223372036854775807 then (some (t114 ++ a0)) else (none)) = some r := H
  have A2 := Aside0.mk A20
  clear A20
  by_cases c3 : t114.size + a0.size ≤ 9223372036854775807
  · rw [if_pos c3] at H
    have c3b0 := eq_true c3
    have c3b1 : decide (t114.size + a0.size ≤ 9223372036854775807) = true := decide_eq_true c3
    try have c3b2 : (9223372036854775807 < t114.size + a0.size) = False := eq_false (Nat.not_lt.2 c3)
    obtain rfl := Option.some.inj H
    go_enter Try.func47, Try.ntmps47
    go_wp2_with (first | ((with_reducible refine gate_callee (f := 44) rfl ?_); refine goesL_ (some 5) rfl rfl Try.func44 (by kernel_rfl) rfl #[.int .i64 (a0.size : Int)] rfl (by (try simp only [List.map_toArray, List.map_cons, List.map_nil]); first | done | rfl | (simp only [List.length_drop, List.length_take]; rfl)) ?_; (with_reducible refine (spec_l01Put.calls k (a0.size : Int) t114 _ A2.out).mono ?_); rintro e w4 ⟨rfl, hb⟩; refine ⟨_, rfl, ?_⟩; have n0_ := Aside0.mk (below_step (by repeat (first | (with_reducible first | exact HB.out | apply below_alloc | apply pw_below_drewN | apply below_drew1) | exact HB.out)) hb); clear HB; have HB := n0_; clear n0_; (try clear hb); (try clear hb2); (try clear hk); (try clear hi)))
    go_ret
    exact ⟨by first | rfl | (simp [errW_none, errW_some] <;> rfl) | (simp [*, errW_none, errW_some] <;> rfl), by repeat (first | (with_reducible first | exact HB.out | apply below_alloc | apply pw_below_drewN | apply below_drew1) | exact HB.out)⟩
  · rw [if_neg c3] at H
    exact absurd H (by simp)
def impl_text.f (a0 : ByteArray) : Option (ByteArray) := (impl_number.f (a0.size : Int)).bind fun t116 => (if t116.size + a0.size ≤ 9223372036854775807 then (some (t116 ++ a0)) else (none))
set_option maxHeartbeats 8000000 in
set_option maxRecDepth 100000 in
theorem impl_text.calls (a0 : ByteArray) (r : ByteArray) (w : World) (h : impl_text.f a0 = some r) :
    Calls Try.prog 49 #[.string a0] w fun e w' => e = .returned (.string r) ∧ Below w.heap.size w w' := by
  have HB := Aside0.mk (Below.refl w.heap.size w)
  have H : ((impl_number.f (a0.size : Int)).bind fun t116 => (if t116.size + a0.size ≤ 9223372036854775807 then (some (t116 ++ a0)) else (none))) = some r := h
  clear h
  replace H := Option.bind_eq_some_iff.mp H
  obtain ⟨t116, A20, H⟩ := H
  replace H : (if t116.size + a0.size ≤ 9223372036854775807 then (some (t116 ++ a0)) else (none)) = some r := H
  have A2 := Aside0.mk A20
  clear A20
  by_cases c3 : t116.size + a0.size ≤ 9223372036854775807
  · rw [if_pos c3] at H
    have c3b0 := eq_true c3
    have c3b1 : decide (t116.size + a0.size ≤ 9223372036854775807) = true := decide_eq_true c3
    try have c3b2 : (9223372036854775807 < t116.size + a0.size) = False := eq_false (Nat.not_lt.2 c3)
    obtain rfl := Option.some.inj H
    go_enter Try.func49, Try.ntmps49
    go_wp2_with (first | ((with_reducible refine gate_callee (f := 46) rfl ?_); refine goesL_ (some 5) rfl rfl Try.func46 (by kernel_rfl) rfl #[.int .i64 (a0.size : Int)] rfl (by (try simp only [List.map_toArray, List.map_cons, List.map_nil]); first | done | rfl | (simp only [List.length_drop, List.length_take]; rfl)) ?_; (with_reducible refine (impl_number.calls (a0.size : Int) t116 _ A2.out).mono ?_); rintro e w4 ⟨rfl, hb⟩; refine ⟨_, rfl, ?_⟩; have n0_ := Aside0.mk (below_step (by repeat (first | (with_reducible first | exact HB.out | apply below_alloc | apply pw_below_drewN | apply below_drew1) | exact HB.out)) hb); clear HB; have HB := n0_; clear n0_; (try clear hb); (try clear hb2); (try clear hk); (try clear hi)))
    go_ret
    exact ⟨by first | rfl | (simp [errW_none, errW_some] <;> rfl) | (simp [*, errW_none, errW_some] <;> rfl), by repeat (first | (with_reducible first | exact HB.out | apply below_alloc | apply pw_below_drewN | apply below_drew1) | exact HB.out)⟩
  · rw [if_neg c3] at H
    exact absurd H (by simp)
def spec_l01Sum.l0 : Nat → ByteArray → Int → Int → Option (Int)
  | 0, _, _, _ => none
  | k + 1, x0, x3, x4 => if x4 < (x0.size : Int) then (if 0 ≤ x4 then (spec_l01Sum.l0 k x0 (Int.tmod (wrap64 ((wrap64 (31 * x3)) + (wrap64 (bt x0 x4)))) 65521) (wrap64 (x4 + 1))) else (none)) else (some x3)
def spec_l01Sum.f (k : Nat) (a0 : ByteArray) : Option (Int) := spec_l01Sum.l0 k a0 1 0
theorem spec_l01Sum.mono_l : ∀ k, (∀ y0 y1 y2, LeO (spec_l01Sum.l0 k y0 y1 y2) (spec_l01Sum.l0 (k + 1) y0 y1 y2))
  | 0 => fun _ _ _ r h => by simp [spec_l01Sum.l0] at h
  | k + 1 => by
    have ih0 := spec_l01Sum.mono_l k
    · intro y0 y1 y2
      unfold spec_l01Sum.l0
      repeat' first
      | (with_reducible exact ih0 _ _ _)
      | (with_reducible exact LeO.refl _)
      | (with_reducible exact LeO.none _)
      | (with_reducible refine LeO.ite ?_ ?_)
      | (with_reducible refine LeO.bind ?_ (fun _ => ?_))
      | exact ih0 _ _ _
      | exact LeO.none _
      | refine LeO.ite ?_ ?_
      | refine LeO.bind ?_ (fun _ => ?_)
theorem spec_l01Sum.mono : ∀ a0 k, LeO (spec_l01Sum.f k a0) (spec_l01Sum.f (k + 1) a0) := by
  intro a0 k
  have ih0 := spec_l01Sum.mono_l k
  unfold spec_l01Sum.f
  repeat' first
      | (with_reducible exact ih0 _ _ _)
      | (with_reducible exact LeO.refl _)
      | (with_reducible exact LeO.none _)
      | (with_reducible refine LeO.ite ?_ ?_)
      | (with_reducible refine LeO.bind ?_ (fun _ => ?_))
      | exact ih0 _ _ _
      | exact LeO.none _
      | refine LeO.ite ?_ ?_
      | refine LeO.bind ?_ (fun _ => ?_)
set_option maxHeartbeats 8000000 in
set_option maxRecDepth 100000 in
theorem spec_l01Sum.calls (k : Nat) (a0 : ByteArray) (r : Int) (w : World) (h : spec_l01Sum.f k a0 = some r) :
    Calls Try.prog 70 #[.string a0] w fun e w' => e = .returned (.int .i64 r) ∧ Drawn0 w w' := by
  have H : (spec_l01Sum.l0 k a0 1 0) = some r := h
  clear h
  have H' := Aside0.mk H
  clear H
  go_enter Try.func70, Try.ntmps70
  go_wp2
  go_loopg [3, 4] k (fun kq v3 v4 w' => ∃ (x3_1 : Int) (x4_1 : Int), v3 = .int .i64 x3_1 ∧ v4 = .int .i64 x4_1 ∧ Aside0 (spec_l01Sum.l0 kq a0 x3_1 x4_1 = some r) ∧ Aside0 (kq ≤ k) ∧ Drawn0 w w')
  case atStart => exact ⟨(1), (0), (by first | rfl | (simp; done) | (simp [*]; done)), (by first | rfl | (simp; done) | (simp [*]; done)), H', ⟨Nat.le_refl _⟩, by repeat (first | exact Drawn0.refl _ | apply Drawn0.step)⟩
  case round =>
    clear H'
    obtain ⟨x3_1, x4_1, rfl, rfl, HA, HK1, ⟨m1, rfl⟩⟩ := hrel
    cases gk with
    | zero => exact absurd HA.out (by simp [spec_l01Sum.l0])
    | succ k1 =>
      have H := HA.out
      clear HA
      simp only [spec_l01Sum.l0] at H
      by_cases c2 : x4_1 < (a0.size : Int)
      · rw [if_pos c2] at H
        have c2b0 : decide (x4_1 < (a0.size : Int)) = true := decide_eq_true c2
        clear c2
        by_cases c3 : 0 ≤ x4_1
        · rw [if_pos c3] at H
          have c3b0 : decide (0 ≤ x4_1) = true := decide_eq_true c3
          clear c3
          have H' := Aside0.mk H
          clear H
          have p4 : 0 ≤ (x4_1 : Int) := of_decide_eq_true (by first | (with_reducible assumption) | assumption)
          have q4 : x4_1 < (a0.size : Int) := of_decide_eq_true (by first | (with_reducible assumption) | assumption)
          have hx4 := bt_at a0 x4_1
          replace p4 := eq_true p4
          replace q4 := eq_true q4
          go_wp2
          go_roundg k1
          case measure => have := HK1.out; omega
          case rel => exact ⟨(Int.tmod (wrap64 ((wrap64 (31 * x3_1)) + (wrap64 (bt a0 x4_1)))) 65521), (wrap64 (x4_1 + 1)), (by first | rfl | (simp; done) | (simp [*]; done)), (by first | rfl | (simp; done) | (simp [*]; done)), H', ⟨by have := HK1.out; omega⟩, by repeat (first | exact Drawn0.refl _ | apply Drawn0.step)⟩
        · rw [if_neg c3] at H
          exact absurd H (by simp)
      · rw [if_neg c2] at H
        have c2b0 : decide (x4_1 < (a0.size : Int)) = false := decide_eq_false c2
        clear c2
        obtain rfl := Option.some.inj H
        go_wp2
        go_ret
        exact ⟨by first | rfl | (simp; done) | (simp [*]; done), by repeat (first | exact Drawn0.refl _ | apply Drawn0.step)⟩
def spec_l01Frame.f (k : Nat) (a0 : ByteArray) : Option (ByteArray) := (spec_l01PutText.f k a0).bind fun t119 => (if 2 + t119.size ≤ 9223372036854775807 then ((spec_l01Sum.f k ((⟨#[67, 79]⟩ : ByteArray) ++ t119)).bind fun t120 => ((some (([(Int.tmod t120 256) % 256, (wrap64 (Int.tdiv t120 256)) % 256] : List Int) : List Int)).bind fun y121 => (if ((⟨#[67, 79]⟩ : ByteArray) ++ t119).size + (strOfNums y121).size ≤ 9223372036854775807 then (some (((⟨#[67, 79]⟩ : ByteArray) ++ t119) ++ (strOfNums y121))) else (none)))) else (none))
theorem spec_l01Frame.mono : ∀ a0 k, LeO (spec_l01Frame.f k a0) (spec_l01Frame.f (k + 1) a0) := by
  intro a0 k
  unfold spec_l01Frame.f
  repeat' first
      | (with_reducible exact spec_l01PutText.mono _ _)
      | (with_reducible exact spec_l01Sum.mono _ _)
      | (with_reducible exact LeO.refl _)
      | (with_reducible exact LeO.none _)
      | (with_reducible refine LeO.ite ?_ ?_)
      | (with_reducible refine LeO.bind ?_ (fun _ => ?_))
      | exact spec_l01PutText.mono _ _
      | exact spec_l01Sum.mono _ _
      | exact LeO.none _
      | refine LeO.ite ?_ ?_
      | refine LeO.bind ?_ (fun _ => ?_)
set_option maxHeartbeats 8000000 in
set_option maxRecDepth 100000 in
theorem spec_l01Frame.calls (k : Nat) (a0 : ByteArray) (r : ByteArray) (w : World) (h : spec_l01Frame.f k a0 = some r) :
    Calls Try.prog 50 #[.string a0] w fun e w' => e = .returned (.string r) ∧ Below w.heap.size w w' := by
  have HB := Aside0.mk (Below.refl w.heap.size w)
  have H : ((spec_l01PutText.f k a0).bind fun t119 => (if 2 + t119.size ≤ 9223372036854775807 then ((spec_l01Sum.f k ((⟨#[67, 79]⟩ : ByteArray) ++ t119)).bind fun t120 => ((some (([(Int.tmod t120 256) % 256, (wrap64 (Int.tdiv t120 256)) % 256] : List Int) : List Int)).bind fun y121 => (if ((⟨#[67, 79]⟩ : ByteArray) ++ t119).size + (strOfNums y121).size ≤ 9223372036854775807 then (some (((⟨#[67, 79]⟩ : ByteArray) ++ t119) ++ (strOfNums y121))) else (none)))) else (none))) = some r := h
  clear h
  replace H := Option.bind_eq_some_iff.mp H
  obtain ⟨t119, A20, H⟩ := H
  replace H : (if 2 + t119.size ≤ 9223372036854775807 then ((spec_l01Sum.f k ((⟨#[67, 79]⟩ : ByteArray) ++ t119)).bind fun t120 => ((some (([(Int.tmod t120 256) % 256, (wrap64 (Int.tdiv t120 256)) % 256] : List Int) : List Int)).bind fun y121 => (if ((⟨#[67, 79]⟩ : ByteArray) ++ t119).size + (strOfNums y121).size ≤ 9223372036854775807 then (some (((⟨#[67, 79]⟩ : ByteArray) ++ t119) ++ (strOfNums y121))) else (none)))) else (none)) = some r := H
  have A2 := Aside0.mk A20
  clear A20
  by_cases c3 : 2 + t119.size ≤ 9223372036854775807
  · rw [if_pos c3] at H
    have c3b0 := eq_true c3
    have c3b1 : decide (2 + t119.size ≤ 9223372036854775807) = true := decide_eq_true c3
    try have c3b2 : (9223372036854775807 < 2 + t119.size) = False := eq_false (Nat.not_lt.2 c3)
    replace H := Option.bind_eq_some_iff.mp H
    obtain ⟨t120, A40, H⟩ := H
    replace H : ((some (([(Int.tmod t120 256) % 256, (wrap64 (Int.tdiv t120 256)) % 256] : List Int) : List Int)).bind fun y121 => (if ((⟨#[67, 79]⟩ : ByteArray) ++ t119).size + (strOfNums y121).size ≤ 9223372036854775807 then (some (((⟨#[67, 79]⟩ : ByteArray) ++ t119) ++ (strOfNums y121))) else (none))) = some r := H
    have A4 := Aside0.mk A40
    clear A40
    obtain ⟨y121, hy121⟩ : ∃ y_ : List Int, y_ = (([(Int.tmod t120 256) % 256, (wrap64 (Int.tdiv t120 256)) % 256] : List Int)) := ⟨_, rfl⟩
    replace H : (if ((⟨#[67, 79]⟩ : ByteArray) ++ t119).size + (strOfNums y121).size ≤ 9223372036854775807 then (some (((⟨#[67, 79]⟩ : ByteArray) ++ t119) ++ (strOfNums y121))) else (none)) = some r := by first | (rw [hy121]; with_reducible exact H) | (have H2_ := (Option.bind_some _ _).symm.trans H; rw [hy121]; with_reducible exact H2_) | (have H2_ := (Option.bind_some _ _).symm.trans H; with_reducible exact H2_) | with_reducible exact H | (rw [hy121]; exact H) | exact H
    have Ny121 := Aside0.mk hy121
    clear hy121
    by_cases c5 : ((⟨#[67, 79]⟩ : ByteArray) ++ t119).size + (strOfNums y121).size ≤ 9223372036854775807
    · rw [if_pos c5] at H
      have c5b0 := eq_true c5
      have c5b1 : decide (((⟨#[67, 79]⟩ : ByteArray) ++ t119).size + (strOfNums y121).size ≤ 9223372036854775807) = true := decide_eq_true c5
      try have c5b2 : (9223372036854775807 < ((⟨#[67, 79]⟩ : ByteArray) ++ t119).size + (strOfNums y121).size) = False := eq_false (Nat.not_lt.2 c5)
      try (have c5s := c5; simp only [ByteArray.size_append, show (⟨#[67, 79]⟩ : ByteArray).size = 2 from rfl] at c5s)
      try have c5t := eq_false (Nat.not_lt.2 c5s)
      obtain rfl := Option.some.inj H
      go_enter Try.func50, Try.ntmps50
      go_wp2_with (first | ((with_reducible refine gate_callee (f := 47) rfl ?_); refine goesL_ (some 6) rfl rfl Try.func47 (by kernel_rfl) rfl #[.string a0] rfl (by (try simp only [List.map_toArray, List.map_cons, List.map_nil]); first | done | rfl | (simp only [List.length_drop, List.length_take]; rfl)) ?_; (with_reducible refine (spec_l01PutText.calls k a0 t119 _ A2.out).mono ?_); rintro e w6 ⟨rfl, hb⟩; refine ⟨_, rfl, ?_⟩; have n0_ := Aside0.mk (below_step (by repeat (first | (with_reducible first | exact HB.out | apply below_alloc | apply pw_below_drewN | apply below_drew1) | exact HB.out)) hb); clear HB; have HB := n0_; clear n0_; (try clear hb); (try clear hb2); (try clear hk); (try clear hi)) | ((with_reducible refine gate_callee (f := 70) rfl ?_); refine goesL_ (some 9) rfl rfl Try.func70 (by kernel_rfl) rfl #[.string ((⟨#[67, 79]⟩ : ByteArray) ++ t119)] rfl (by (try simp only [List.map_toArray, List.map_cons, List.map_nil]); first | done | rfl | (simp only [List.length_drop, List.length_take]; rfl)) ?_; (with_reducible refine (spec_l01Sum.calls k ((⟨#[67, 79]⟩ : ByteArray) ++ t119) t120 _ A4.out).mono ?_); rintro e w' ⟨rfl, ⟨nd, rfl⟩⟩; refine ⟨_, rfl, ?_⟩) | ((with_reducible refine gate_dst (N := 17) rfl ?_); refine Kd.R_lit (Kd.int .u8) _ 5 ?hg (N := 17) ?hd (xs := ([(Int.tmod t120 256) % 256, (wrap64 (Int.tdiv t120 256)) % 256] : List Int)) (inner := [.int .u8 ((Int.tmod t120 256) % 256), .int .u8 ((wrap64 (Int.tdiv t120 256)) % 256)]) (ok := fun _ => True) (okp := fun _ => True) ?hr ?hp (fun _ hk => hk) trivial (Below.refl _ _) (Nat.le_refl _) (by simp) ?_; (case hd => rfl); (case hg => rfl); (case hr => first | (go_simp; done) | (go_simp; rfl)); (case hp => exact (Reps.one (show Kd.M (Kd.int .u8) _ _ _ ((Int.tmod t120 256) % 256) [.int .u8 ((Int.tmod t120 256) % 256)] from rfl) (Reps.one (show Kd.M (Kd.int .u8) _ _ _ ((wrap64 (Int.tdiv t120 256)) % 256) [.int .u8 ((wrap64 (Int.tdiv t120 256)) % 256)] from rfl) (Reps.none _ _)))); intro v122 w7 ho8 hb hg_ hnew_; clear hg_ hnew_; (first | rw [← Ny121.out] at ho8 | (simp only [Int.reduceToNat] at ho8; rw [← Ny121.out] at ho8)); have n0_ := Aside0.mk (Kd.R_lower ho8 (below_size (by repeat (first | (with_reducible first | exact HB.out | apply below_alloc | apply pw_below_drewN | apply below_drew1) | exact HB.out)))); have n1_ := Aside0.mk (below_step (by repeat (first | (with_reducible first | exact HB.out | apply below_alloc | apply pw_below_drewN | apply below_drew1) | exact HB.out)) hb); clear HB; have HO123 := n0_; have HB := n1_; clear n0_ n1_; clear hb ho8; have hcv9 := own_string (P := Try.prog) Try.underlying30 Try.underlying5 Try.underlying9 (Kd.own_of_R HO123.out)))
      go_ret
      exact ⟨by first | rfl | (simp [errW_none, errW_some] <;> rfl) | (simp [*, errW_none, errW_some] <;> rfl), by repeat (first | (with_reducible first | exact HB.out | apply below_alloc | apply pw_below_drewN | apply below_drew1) | exact HB.out)⟩
    · rw [if_neg c5] at H
      exact absurd H (by simp)
  · rw [if_neg c3] at H
    exact absurd H (by simp)
def impl_sumOf.l0 : Nat → ByteArray → Int → Int → Int → Option (Int)
  | 0, _, _, _, _ => none
  | k + 1, x0, x3, x6, x7 => if x7 < x6 then (if 0 ≤ x7 then (if x7 < (x0.size : Int) then (impl_sumOf.l0 k x0 (Int.tmod (wrap64 ((wrap64 (31 * x3)) + (wrap64 (bt x0 x7)))) 65521) x6 (wrap64 (x7 + 1))) else (none)) else (none)) else (some x3)
def impl_sumOf.f (k : Nat) (a0 : ByteArray) : Option (Int) := impl_sumOf.l0 k a0 1 (a0.size : Int) 0
theorem impl_sumOf.mono_l : ∀ k, (∀ y0 y1 y2 y3, LeO (impl_sumOf.l0 k y0 y1 y2 y3) (impl_sumOf.l0 (k + 1) y0 y1 y2 y3))
  | 0 => fun _ _ _ _ r h => by simp [impl_sumOf.l0] at h
  | k + 1 => by
    have ih0 := impl_sumOf.mono_l k
    · intro y0 y1 y2 y3
      unfold impl_sumOf.l0
      repeat' first
      | (with_reducible exact ih0 _ _ _ _)
      | (with_reducible exact LeO.refl _)
      | (with_reducible exact LeO.none _)
      | (with_reducible refine LeO.ite ?_ ?_)
      | (with_reducible refine LeO.bind ?_ (fun _ => ?_))
      | exact ih0 _ _ _ _
      | exact LeO.none _
      | refine LeO.ite ?_ ?_
      | refine LeO.bind ?_ (fun _ => ?_)
theorem impl_sumOf.mono : ∀ a0 k, LeO (impl_sumOf.f k a0) (impl_sumOf.f (k + 1) a0) := by
  intro a0 k
  have ih0 := impl_sumOf.mono_l k
  unfold impl_sumOf.f
  repeat' first
      | (with_reducible exact ih0 _ _ _ _)
      | (with_reducible exact LeO.refl _)
      | (with_reducible exact LeO.none _)
      | (with_reducible refine LeO.ite ?_ ?_)
      | (with_reducible refine LeO.bind ?_ (fun _ => ?_))
      | exact ih0 _ _ _ _
      | exact LeO.none _
      | refine LeO.ite ?_ ?_
      | refine LeO.bind ?_ (fun _ => ?_)
set_option maxHeartbeats 8000000 in
set_option maxRecDepth 100000 in
theorem impl_sumOf.calls (k : Nat) (a0 : ByteArray) (r : Int) (w : World) (h : impl_sumOf.f k a0 = some r) :
    Calls Try.prog 69 #[.string a0] w fun e w' => e = .returned (.int .i64 r) ∧ Drawn0 w w' := by
  have H : (impl_sumOf.l0 k a0 1 (a0.size : Int) 0) = some r := h
  clear h
  have H' := Aside0.mk H
  clear H
  go_enter Try.func69, Try.ntmps69
  go_wp2
  go_loopg [3, 7] k (fun kq v3 v7 w' => ∃ (x3_1 : Int) (x7_1 : Int), v3 = .int .i64 x3_1 ∧ v7 = .int .i64 x7_1 ∧ Aside0 (impl_sumOf.l0 kq a0 x3_1 (a0.size : Int) x7_1 = some r) ∧ Aside0 (kq ≤ k) ∧ Drawn0 w w')
  case atStart => exact ⟨(1), (0), (by first | rfl | (simp; done) | (simp [*]; done)), (by first | rfl | (simp; done) | (simp [*]; done)), H', ⟨Nat.le_refl _⟩, by repeat (first | exact Drawn0.refl _ | apply Drawn0.step)⟩
  case round =>
    clear H'
    obtain ⟨x3_1, x7_1, rfl, rfl, HA, HK1, ⟨m1, rfl⟩⟩ := hrel
    cases gk with
    | zero => exact absurd HA.out (by simp [impl_sumOf.l0])
    | succ k1 =>
      have H := HA.out
      clear HA
      simp only [impl_sumOf.l0] at H
      by_cases c2 : x7_1 < (a0.size : Int)
      · rw [if_pos c2] at H
        have c2b0 : decide (x7_1 < (a0.size : Int)) = true := decide_eq_true c2
        clear c2
        by_cases c3 : 0 ≤ x7_1
        · rw [if_pos c3] at H
          have c3b0 : decide (0 ≤ x7_1) = true := decide_eq_true c3
          clear c3
          by_cases c4 : x7_1 < (a0.size : Int)
          · rw [if_pos c4] at H
            have c4b0 : decide (x7_1 < (a0.size : Int)) = true := decide_eq_true c4
            clear c4
            have H' := Aside0.mk H
            clear H
            have p5 : 0 ≤ (x7_1 : Int) := of_decide_eq_true (by first | (with_reducible assumption) | assumption)
            have q5 : x7_1 < (a0.size : Int) := of_decide_eq_true (by first | (with_reducible assumption) | assumption)
            have hx5 := bt_at a0 x7_1
            replace p5 := eq_true p5
            replace q5 := eq_true q5
            go_wp2
            go_roundg k1
            case measure => have := HK1.out; omega
            case rel => exact ⟨(Int.tmod (wrap64 ((wrap64 (31 * x3_1)) + (wrap64 (bt a0 x7_1)))) 65521), (wrap64 (x7_1 + 1)), (by first | rfl | (simp; done) | (simp [*]; done)), (by first | rfl | (simp; done) | (simp [*]; done)), H', ⟨by have := HK1.out; omega⟩, by repeat (first | exact Drawn0.refl _ | apply Drawn0.step)⟩
          · rw [if_neg c4] at H
            exact absurd H (by simp)
        · rw [if_neg c3] at H
          exact absurd H (by simp)
      · rw [if_neg c2] at H
        have c2b0 : decide (x7_1 < (a0.size : Int)) = false := decide_eq_false c2
        clear c2
        obtain rfl := Option.some.inj H
        go_wp2
        go_ret
        exact ⟨by first | rfl | (simp; done) | (simp [*]; done), by repeat (first | exact Drawn0.refl _ | apply Drawn0.step)⟩
def impl_sumText.f (k : Nat) (a0 : ByteArray) : Option (ByteArray) := (impl_sumOf.f k a0).bind fun t125 => (some (strOfNums (([(Int.tmod t125 256) % 256, (wrap64 (Int.tdiv t125 256)) % 256] : List Int))))
theorem impl_sumText.mono : ∀ a0 k, LeO (impl_sumText.f k a0) (impl_sumText.f (k + 1) a0) := by
  intro a0 k
  unfold impl_sumText.f
  repeat' first
      | (with_reducible exact impl_sumOf.mono _ _)
      | (with_reducible exact LeO.refl _)
      | (with_reducible exact LeO.none _)
      | (with_reducible refine LeO.ite ?_ ?_)
      | (with_reducible refine LeO.bind ?_ (fun _ => ?_))
      | exact impl_sumOf.mono _ _
      | exact LeO.none _
      | refine LeO.ite ?_ ?_
      | refine LeO.bind ?_ (fun _ => ?_)
set_option maxHeartbeats 8000000 in
set_option maxRecDepth 100000 in
theorem impl_sumText.calls (k : Nat) (a0 : ByteArray) (r : ByteArray) (w : World) (h : impl_sumText.f k a0 = some r) :
    Calls Try.prog 83 #[.string a0] w fun e w' => e = .returned (.string r) ∧ Below w.heap.size w w' := by
  have HB := Aside0.mk (Below.refl w.heap.size w)
  have H : ((impl_sumOf.f k a0).bind fun t125 => (some (strOfNums (([(Int.tmod t125 256) % 256, (wrap64 (Int.tdiv t125 256)) % 256] : List Int))))) = some r := h
  clear h
  replace H := Option.bind_eq_some_iff.mp H
  obtain ⟨t125, A20, H⟩ := H
  replace H : (some (strOfNums (([(Int.tmod t125 256) % 256, (wrap64 (Int.tdiv t125 256)) % 256] : List Int)))) = some r := H
  have A2 := Aside0.mk A20
  clear A20
  obtain ⟨y126, hy126⟩ : ∃ y_ : List Int, y_ = (([(Int.tmod t125 256) % 256, (wrap64 (Int.tdiv t125 256)) % 256] : List Int)) := ⟨_, rfl⟩
  replace H : (some (strOfNums y126)) = some r := by first | (rw [hy126]; with_reducible exact H) | (have H2_ := (Option.bind_some _ _).symm.trans H; rw [hy126]; with_reducible exact H2_) | (have H2_ := (Option.bind_some _ _).symm.trans H; with_reducible exact H2_) | with_reducible exact H | (rw [hy126]; exact H) | exact H
  have Ny126 := Aside0.mk hy126
  clear hy126
  obtain rfl := Option.some.inj H
  go_enter Try.func83, Try.ntmps83
  go_wp2_with (first | ((with_reducible refine gate_callee (f := 69) rfl ?_); refine goesL_ (some 5) rfl rfl Try.func69 (by kernel_rfl) rfl #[.string a0] rfl (by (try simp only [List.map_toArray, List.map_cons, List.map_nil]); first | done | rfl | (simp only [List.length_drop, List.length_take]; rfl)) ?_; (with_reducible refine (impl_sumOf.calls k a0 t125 _ A2.out).mono ?_); rintro e w' ⟨rfl, ⟨nd, rfl⟩⟩; refine ⟨_, rfl, ?_⟩) | ((with_reducible refine gate_dst (N := 12) rfl ?_); refine Kd.R_lit (Kd.int .u8) _ 5 ?hg (N := 12) ?hd (xs := ([(Int.tmod t125 256) % 256, (wrap64 (Int.tdiv t125 256)) % 256] : List Int)) (inner := [.int .u8 ((Int.tmod t125 256) % 256), .int .u8 ((wrap64 (Int.tdiv t125 256)) % 256)]) (ok := fun _ => True) (okp := fun _ => True) ?hr ?hp (fun _ hk => hk) trivial (Below.refl _ _) (Nat.le_refl _) (by simp) ?_; (case hd => rfl); (case hg => rfl); (case hr => first | (go_simp; done) | (go_simp; rfl)); (case hp => exact (Reps.one (show Kd.M (Kd.int .u8) _ _ _ ((Int.tmod t125 256) % 256) [.int .u8 ((Int.tmod t125 256) % 256)] from rfl) (Reps.one (show Kd.M (Kd.int .u8) _ _ _ ((wrap64 (Int.tdiv t125 256)) % 256) [.int .u8 ((wrap64 (Int.tdiv t125 256)) % 256)] from rfl) (Reps.none _ _)))); intro v127 w3 ho4 hb hg_ hnew_; clear hg_ hnew_; (first | rw [← Ny126.out] at ho4 | (simp only [Int.reduceToNat] at ho4; rw [← Ny126.out] at ho4)); have n0_ := Aside0.mk (Kd.R_lower ho4 (below_size (by repeat (first | (with_reducible first | exact HB.out | apply below_alloc | apply pw_below_drewN | apply below_drew1) | exact HB.out)))); have n1_ := Aside0.mk (below_step (by repeat (first | (with_reducible first | exact HB.out | apply below_alloc | apply pw_below_drewN | apply below_drew1) | exact HB.out)) hb); clear HB; have HO128 := n0_; have HB := n1_; clear n0_ n1_; clear hb ho4; have hcv5 := own_string (P := Try.prog) Try.underlying30 Try.underlying5 Try.underlying9 (Kd.own_of_R HO128.out)))
  go_ret
  exact ⟨by first | rfl | (simp [errW_none, errW_some] <;> rfl) | (simp [*, errW_none, errW_some] <;> rfl), by repeat (first | (with_reducible first | exact HB.out | apply below_alloc | apply pw_below_drewN | apply below_drew1) | exact HB.out)⟩
def impl_frame.f (k : Nat) (a0 : ByteArray) : Option (ByteArray) := (impl_text.f a0).bind fun t129 => (if 2 + t129.size ≤ 9223372036854775807 then ((impl_sumText.f k ((⟨#[67, 79]⟩ : ByteArray) ++ t129)).bind fun t130 => (if ((⟨#[67, 79]⟩ : ByteArray) ++ t129).size + t130.size ≤ 9223372036854775807 then (some (((⟨#[67, 79]⟩ : ByteArray) ++ t129) ++ t130)) else (none))) else (none))
theorem impl_frame.mono : ∀ a0 k, LeO (impl_frame.f k a0) (impl_frame.f (k + 1) a0) := by
  intro a0 k
  unfold impl_frame.f
  repeat' first
      | (with_reducible exact impl_sumText.mono _ _)
      | (with_reducible exact LeO.refl _)
      | (with_reducible exact LeO.none _)
      | (with_reducible refine LeO.ite ?_ ?_)
      | (with_reducible refine LeO.bind ?_ (fun _ => ?_))
      | exact impl_sumText.mono _ _
      | exact LeO.none _
      | refine LeO.ite ?_ ?_
      | refine LeO.bind ?_ (fun _ => ?_)
set_option maxHeartbeats 8000000 in
set_option maxRecDepth 100000 in
theorem impl_frame.calls (k : Nat) (a0 : ByteArray) (r : ByteArray) (w : World) (h : impl_frame.f k a0 = some r) :
    Calls Try.prog 51 #[.string a0] w fun e w' => e = .returned (.string r) ∧ Below w.heap.size w w' := by
  have HB := Aside0.mk (Below.refl w.heap.size w)
  have H : ((impl_text.f a0).bind fun t129 => (if 2 + t129.size ≤ 9223372036854775807 then ((impl_sumText.f k ((⟨#[67, 79]⟩ : ByteArray) ++ t129)).bind fun t130 => (if ((⟨#[67, 79]⟩ : ByteArray) ++ t129).size + t130.size ≤ 9223372036854775807 then (some (((⟨#[67, 79]⟩ : ByteArray) ++ t129) ++ t130)) else (none))) else (none))) = some r := h
  clear h
  replace H := Option.bind_eq_some_iff.mp H
  obtain ⟨t129, A20, H⟩ := H
  replace H : (if 2 + t129.size ≤ 9223372036854775807 then ((impl_sumText.f k ((⟨#[67, 79]⟩ : ByteArray) ++ t129)).bind fun t130 => (if ((⟨#[67, 79]⟩ : ByteArray) ++ t129).size + t130.size ≤ 9223372036854775807 then (some (((⟨#[67, 79]⟩ : ByteArray) ++ t129) ++ t130)) else (none))) else (none)) = some r := H
  have A2 := Aside0.mk A20
  clear A20
  by_cases c3 : 2 + t129.size ≤ 9223372036854775807
  · rw [if_pos c3] at H
    have c3b0 := eq_true c3
    have c3b1 : decide (2 + t129.size ≤ 9223372036854775807) = true := decide_eq_true c3
    try have c3b2 : (9223372036854775807 < 2 + t129.size) = False := eq_false (Nat.not_lt.2 c3)
    replace H := Option.bind_eq_some_iff.mp H
    obtain ⟨t130, A40, H⟩ := H
    replace H : (if ((⟨#[67, 79]⟩ : ByteArray) ++ t129).size + t130.size ≤ 9223372036854775807 then (some (((⟨#[67, 79]⟩ : ByteArray) ++ t129) ++ t130)) else (none)) = some r := H
    have A4 := Aside0.mk A40
    clear A40
    by_cases c5 : ((⟨#[67, 79]⟩ : ByteArray) ++ t129).size + t130.size ≤ 9223372036854775807
    · rw [if_pos c5] at H
      have c5b0 := eq_true c5
      have c5b1 : decide (((⟨#[67, 79]⟩ : ByteArray) ++ t129).size + t130.size ≤ 9223372036854775807) = true := decide_eq_true c5
      try have c5b2 : (9223372036854775807 < ((⟨#[67, 79]⟩ : ByteArray) ++ t129).size + t130.size) = False := eq_false (Nat.not_lt.2 c5)
      try (have c5s := c5; simp only [ByteArray.size_append, show (⟨#[67, 79]⟩ : ByteArray).size = 2 from rfl] at c5s)
      try have c5t := eq_false (Nat.not_lt.2 c5s)
      obtain rfl := Option.some.inj H
      go_enter Try.func51, Try.ntmps51
      go_wp2_with (first | ((with_reducible refine gate_callee (f := 49) rfl ?_); refine goesL_ (some 5) rfl rfl Try.func49 (by kernel_rfl) rfl #[.string a0] rfl (by (try simp only [List.map_toArray, List.map_cons, List.map_nil]); first | done | rfl | (simp only [List.length_drop, List.length_take]; rfl)) ?_; (with_reducible refine (impl_text.calls a0 t129 _ A2.out).mono ?_); rintro e w6 ⟨rfl, hb⟩; refine ⟨_, rfl, ?_⟩; have n0_ := Aside0.mk (below_step (by repeat (first | (with_reducible first | exact HB.out | apply below_alloc | apply pw_below_drewN | apply below_drew1) | exact HB.out)) hb); clear HB; have HB := n0_; clear n0_; (try clear hb); (try clear hb2); (try clear hk); (try clear hi)) | ((with_reducible refine gate_callee (f := 83) rfl ?_); refine goesL_ (some 9) rfl rfl Try.func83 (by kernel_rfl) rfl #[.string ((⟨#[67, 79]⟩ : ByteArray) ++ t129)] rfl (by (try simp only [List.map_toArray, List.map_cons, List.map_nil]); first | done | rfl | (simp only [List.length_drop, List.length_take]; rfl)) ?_; (with_reducible refine (impl_sumText.calls k ((⟨#[67, 79]⟩ : ByteArray) ++ t129) t130 _ A4.out).mono ?_); rintro e w7 ⟨rfl, hb⟩; refine ⟨_, rfl, ?_⟩; have n0_ := Aside0.mk (below_step (by repeat (first | (with_reducible first | exact HB.out | apply below_alloc | apply pw_below_drewN | apply below_drew1) | exact HB.out)) hb); clear HB; have HB := n0_; clear n0_; (try clear hb); (try clear hb2); (try clear hk); (try clear hi)))
      go_ret
      exact ⟨by first | rfl | (simp [errW_none, errW_some] <;> rfl) | (simp [*, errW_none, errW_some] <;> rfl), by repeat (first | (with_reducible first | exact HB.out | apply below_alloc | apply pw_below_drewN | apply below_drew1) | exact HB.out)⟩
    · rw [if_neg c5] at H
      exact absurd H (by simp)
  · rw [if_neg c3] at H
    exact absurd H (by simp)
end Go.Proofs.Ytnppmhijoaeibaa.Q
namespace Go.Proofs.Ytnppmhijoaeibaa.Q
open Go.RowKit Go.Proofs.YtnppmhijoaeibaaW.PrintWords Go.Proofs.YtnppmhijoaeibaaW.PrintLast Go.Proofs.YtnppmhijoaeibaaW.PrintMore
open Go.Proofs.Ytnppmhijoaeibaa.H
attribute [local go_sem] max2_int min2_int max_two min_two max_three min_three max_four min_four
set_option linter.unusedVariables false
set_option linter.unusedSimpArgs false
def IsS95 (w0 W : World) (g : Nat) (f0 : List Int) (f1 : Int) (f2 : Int) : Prop := ∃ A0 c0, W.heap[g]? = some (.cells #[.slice A0 f0.length c0, .int .i64 f1, .int .i64 f2] 95 (0, 0)) ∧ w0.heap.size ≤ g ∧ Kd.C (Kd.int .u8) w0 A0 f0.length f0
theorem IsS95.grown {w0 W : World} {g : Nat} {f0 : List Int} {f1 : Int} {f2 : Int} {W1 : World} {row : Option Nat} (h : IsS95 w0 W g f0 f1 f2) (hw : W.grownBy W1 row) (hne : some g ≠ row) : IsS95 w0 W1 g f0 f1 f2 := by
  obtain ⟨A0, c0, hb, hg, hr0⟩ := h
  exact ⟨A0, c0, blk_grown hb hw hne, hg, hr0⟩
theorem IsS95.kept {w0 W : World} {g : Nat} {f0 : List Int} {f1 : Int} {f2 : Int} {W1 : World} {S : Nat → Prop} (h : IsS95 w0 W g f0 f1 f2) (hk : Kept W W1 S) (hne : ¬ S g) : IsS95 w0 W1 g f0 f1 f2 := by
  obtain ⟨A0, c0, hb, hg, hr0⟩ := h
  exact ⟨A0, c0, blk_kept hb hk hne, hg, hr0⟩
theorem IsS95.below {w0 W : World} {g : Nat} {f0 : List Int} {f1 : Int} {f2 : Int} {W1 : World} (h : IsS95 w0 W g f0 f1 f2) (hw : Below W.heap.size W W1) : IsS95 w0 W1 g f0 f1 f2 := h.grown (grown_of_below hw none) (by simp)
theorem IsS95.alloc {w0 W : World} {g : Nat} {f0 : List Int} {f1 : Int} {f2 : Int} (h : IsS95 w0 W g f0 f1 f2) (o : Obj) : IsS95 w0 (W.alloc o) g f0 f1 f2 := h.below (below_alloc (Below.refl _ _) o)
theorem IsS95.drewN {w0 W : World} {g : Nat} {f0 : List Int} {f1 : Int} {f2 : Int} (h : IsS95 w0 W g f0 f1 f2) (m : Nat) : IsS95 w0 (W.drewN m) g f0 f1 f2 := h
theorem IsS95.drew {w0 W : World} {g : Nat} {f0 : List Int} {f1 : Int} {f2 : Int} (h : IsS95 w0 W g f0 f1 f2) : IsS95 w0 W.drew g f0 f1 f2 := h
theorem IsS95.at_ {w0 W : World} {g : Nat} {f0 : List Int} {f1 : Int} {f2 : Int} {w' : World} {m : Nat} (hq : W.drewN m = w') (h : IsS95 w0 W g f0 f1 f2) : IsS95 w0 w' g f0 f1 f2 := by subst hq; exact IsS95.drewN h m
theorem IsS95.apart {w0 W : World} {g : Nat} {f0 : List Int} {f1 : Int} {f2 : Int} {α : Type} {d : Kd α} {e : Nat} {base : Nat} {ok : Nat → Prop} {v : Value} {xs : List α} (h : IsS95 w0 W g f0 f1 f2) (ho : d.R e W base ok v xs) (ht : ∀ q, q ∈ e :: d.E → q ≠ 95) : d.R e W base (fun k => ok k ∧ k ≠ g) v xs := by
  obtain ⟨A0, c0, hb, hg, hr0⟩ := h
  exact Kd.R_types ho hb ht
theorem IsS95.own_ne {w0 W : World} {g : Nat} {f0 : List Int} {f1 : Int} {f2 : Int} {α : Type} {d : Kd α} {e : Nat} {base : Nat} {ok : Nat → Prop} {v : Value} {xs : List α} (h : IsS95 w0 W g f0 f1 f2) (ho : d.R e W base ok v xs) (ht : e ≠ 95) : some g ≠ v.ownBlock := by
  obtain ⟨A0, c0, hb, hg, hr0⟩ := h
  exact Kd.R_ne ho hb ht
theorem IsS95.lt {w0 W : World} {g : Nat} {f0 : List Int} {f1 : Int} {f2 : Int} (h : IsS95 w0 W g f0 f1 f2) : g < W.heap.size := by
  obtain ⟨A0, c0, hb, hg, hr0⟩ := h
  exact blk_lt hb
end Go.Proofs.Ytnppmhijoaeibaa.Q
namespace Go.Proofs.Ytnppmhijoaeibaa.Q
open Go.RowKit Go.Proofs.YtnppmhijoaeibaaW.PrintWords Go.Proofs.YtnppmhijoaeibaaW.PrintLast Go.Proofs.YtnppmhijoaeibaaW.PrintMore
open Go.Proofs.Ytnppmhijoaeibaa.H
attribute [local go_sem] max2_int min2_int max_two min_two max_three min_three max_four min_four
set_option linter.unusedVariables false
set_option linter.unusedSimpArgs false
theorem info3 : (Try.prog.info? 3).map (fun i => (i.zero, i.size, i.bytes)) = some (some (.int .i64 0), 1, 8) := by kernel_rfl
end Go.Proofs.Ytnppmhijoaeibaa.Q
namespace Go.Proofs.Ytnppmhijoaeibaa.Q
open Go.RowKit Go.Proofs.YtnppmhijoaeibaaW.PrintWords Go.Proofs.YtnppmhijoaeibaaW.PrintLast Go.Proofs.YtnppmhijoaeibaaW.PrintMore
open Go.Proofs.Ytnppmhijoaeibaa.H
attribute [local go_sem] max2_int min2_int max_two min_two max_three min_three max_four min_four
set_option linter.unusedVariables false
set_option linter.unusedSimpArgs false
def spec_l02Kind.f (a0 : Int) : Option (Bool) := (spec_l01In.f a0 1 8).bind fun t102 => (some t102)
set_option maxHeartbeats 8000000 in
set_option maxRecDepth 100000 in
theorem spec_l02Kind.calls (a0 : Int) (r : Bool) (w : World) (h : spec_l02Kind.f a0 = some r) :
    Calls Try.prog 110 #[.int .i64 a0] w fun e w' => e = .returned (.bool r) ∧ Drawn0 w w' := by
  have H : ((spec_l01In.f a0 1 8).bind fun t102 => (some t102)) = some r := h
  clear h
  replace H := Option.bind_eq_some_iff.mp H
  obtain ⟨t102, A20, H⟩ := H
  replace H : (some t102) = some r := H
  have A2 := Aside0.mk A20
  clear A20
  obtain rfl := Option.some.inj H
  go_enter Try.func110, Try.ntmps110
  go_wp2_with (first | ((with_reducible refine gate_callee (f := 43) rfl ?_); refine goesL_ (some 4) rfl rfl Try.func43 (by kernel_rfl) rfl #[.int .i64 a0, .int .i64 1, .int .i64 8] rfl (by (try simp only [List.map_toArray, List.map_cons, List.map_nil]); first | done | rfl | (simp only [List.length_drop, List.length_take]; rfl)) ?_; (with_reducible refine (spec_l01In.calls a0 1 8 t102 _ A2.out).mono ?_); rintro e w' ⟨rfl, ⟨nd, rfl⟩⟩; refine ⟨_, rfl, ?_⟩))
  go_ret
  exact ⟨by first | rfl | (simp; done) | (simp [*]; done), by repeat (first | exact Drawn0.refl _ | apply Drawn0.step)⟩
end Go.Proofs.Ytnppmhijoaeibaa.Q
namespace Go.Proofs.Ytnppmhijoaeibaa.Q
open Go.RowKit Go.Proofs.YtnppmhijoaeibaaW.PrintWords Go.Proofs.YtnppmhijoaeibaaW.PrintLast Go.Proofs.YtnppmhijoaeibaaW.PrintMore
open Go.Proofs.Ytnppmhijoaeibaa.H
attribute [local go_sem] max2_int min2_int max_two min_two max_three min_three max_four min_four
set_option linter.unusedVariables false
set_option linter.unusedSimpArgs false
theorem eqA42 (d : Nat) (w : World) (x0 y0 : Int) (x1 y1 : Int) (x2 y2 : Int) (x3 y3 : Int) (x4 y4 : ByteArray) :
    (Op.equalIn (d + 2) 42 (.agg #[.int .i64 x0, .int .i64 x1, .int .i64 x2, .int .i64 x3, .string x4]) (.agg #[.int .i64 y0, .int .i64 y1, .int .i64 y2, .int .i64 y3, .string y4])).run Try.prog w = .ok (x0 == y0 && (x1 == y1 && (x2 == y2 && (x3 == y3 && (x4.toList == y4.toList))))) w := by
  refine eqA_of Try.underlying42 (by kernel_rfl) ?_
  refine eqf_cons (by rfl) (by go_simp; rfl) (by go_simp; rfl) (by go_simp) ?_
  refine eqf_cons (by rfl) (by go_simp; rfl) (by go_simp; rfl) (by go_simp) ?_
  refine eqf_cons (by rfl) (by go_simp; rfl) (by go_simp; rfl) (by go_simp) ?_
  refine eqf_cons (by rfl) (by go_simp; rfl) (by go_simp; rfl) (by go_simp) ?_
  exact eqf_last (by rfl) (by go_simp; rfl) (by go_simp; rfl) (by go_simp)
end Go.Proofs.Ytnppmhijoaeibaa.Q
namespace Go.Proofs.Ytnppmhijoaeibaa.Q
open Go.RowKit Go.Proofs.YtnppmhijoaeibaaW.PrintWords Go.Proofs.YtnppmhijoaeibaaW.PrintLast Go.Proofs.YtnppmhijoaeibaaW.PrintMore
open Go.Proofs.Ytnppmhijoaeibaa.H
attribute [local go_sem] max2_int min2_int max_two min_two max_three min_three max_four min_four
set_option linter.unusedVariables false
set_option linter.unusedSimpArgs false
def spec_l10Numbers.l0 : Nat → List Int → ByteArray → Int → Option (ByteArray)
  | 0, _, _, _ => none
  | k + 1, x0, x3, x4 => if x4 < (x0.length : Int) then (if 0 ≤ x4 then ((spec_l01Put.f k (rd x0 x4)).bind fun t120 => (if x3.size + t120.size ≤ 9223372036854775807 then (spec_l10Numbers.l0 k x0 (x3 ++ t120) (wrap64 (x4 + 1))) else (none))) else (none)) else (some x3)
def spec_l10Numbers.f (k : Nat) (l0 : List Int) : Option (ByteArray) := spec_l10Numbers.l0 k l0 (⟨#[]⟩ : ByteArray) 0
theorem spec_l10Numbers.mono_l : ∀ k, (∀ y0 y1 y2, LeO (spec_l10Numbers.l0 k y0 y1 y2) (spec_l10Numbers.l0 (k + 1) y0 y1 y2))
  | 0 => fun _ _ _ r h => by simp [spec_l10Numbers.l0] at h
  | k + 1 => by
    have ih0 := spec_l10Numbers.mono_l k
    · intro y0 y1 y2
      unfold spec_l10Numbers.l0
      repeat' first
      | (with_reducible exact ih0 _ _ _)
      | (with_reducible exact spec_l01Put.mono _ _)
      | (with_reducible exact LeO.refl _)
      | (with_reducible exact LeO.none _)
      | (with_reducible refine LeO.ite ?_ ?_)
      | (with_reducible refine LeO.bind ?_ (fun _ => ?_))
      | exact ih0 _ _ _
      | exact spec_l01Put.mono _ _
      | exact LeO.none _
      | refine LeO.ite ?_ ?_
      | refine LeO.bind ?_ (fun _ => ?_)
theorem spec_l10Numbers.mono : ∀ a0 k, LeO (spec_l10Numbers.f k a0) (spec_l10Numbers.f (k + 1) a0) := by
  intro a0 k
  have ih0 := spec_l10Numbers.mono_l k
  unfold spec_l10Numbers.f
  repeat' first
      | (with_reducible exact ih0 _ _ _)
      | (with_reducible exact spec_l01Put.mono _ _)
      | (with_reducible exact LeO.refl _)
      | (with_reducible exact LeO.none _)
      | (with_reducible refine LeO.ite ?_ ?_)
      | (with_reducible refine LeO.bind ?_ (fun _ => ?_))
      | exact ih0 _ _ _
      | exact spec_l01Put.mono _ _
      | exact LeO.none _
      | refine LeO.ite ?_ ?_
      | refine LeO.bind ?_ (fun _ => ?_)
set_option maxHeartbeats 8000000 in
set_option maxRecDepth 100000 in
theorem spec_l10Numbers.calls (k : Nat) (A0 : Option Addr) (c0 : Nat) (l0 : List Int) (r : ByteArray) (w : World) (hr0 : Kd.C (Kd.int .i64) w A0 l0.length l0) (hc0 : l0.length ≤ c0) (h : spec_l10Numbers.f k l0 = some r) :
    Calls Try.prog 89 #[.slice A0 l0.length c0] w fun e w' => e = .returned (.string r) ∧ Below w.heap.size w w' := by
  have HR0 := Aside0.mk hr0
  have HC0 := Aside0.mk hc0
  clear hr0 hc0
  have HB := Aside0.mk (Below.refl w.heap.size w)
  have H : (spec_l10Numbers.l0 k l0 (⟨#[]⟩ : ByteArray) 0) = some r := h
  clear h
  have H' := Aside0.mk H
  clear H
  go_enter Try.func89, Try.ntmps89
  go_wp2
  go_loopg [3, 4] k (fun kq v3 v4 w' => ∃ (x3_1 : ByteArray) (x4_1 : Int), v3 = .string x3_1 ∧ v4 = .int .i64 x4_1 ∧ Aside0 (spec_l10Numbers.l0 kq l0 x3_1 x4_1 = some r) ∧ Aside0 (kq ≤ k) ∧ Aside0 (Below w.heap.size w w'))
  case atStart => exact ⟨((⟨#[]⟩ : ByteArray)), (0), (by first | rfl | (simp; done) | (simp [*]; done)), (by first | rfl | (simp; done) | (simp [*]; done)), H', ⟨Nat.le_refl _⟩, ⟨by repeat (first | (with_reducible first | exact HB.out | apply below_alloc | apply pw_below_drewN | apply below_drew1) | exact HB.out)⟩⟩
  case round =>
    clear H'
    obtain ⟨x3_1, x4_1, rfl, rfl, HA, HK1, HB⟩ := hrel
    cases gk with
    | zero => exact absurd HA.out (by simp [spec_l10Numbers.l0])
    | succ k1 =>
      have H := HA.out
      clear HA
      simp only [spec_l10Numbers.l0] at H
      by_cases c2 : x4_1 < (l0.length : Int)
      · rw [if_pos c2] at H
        have c2b0 : decide (x4_1 < (l0.length : Int)) = true := decide_eq_true c2
        clear c2
        by_cases c3 : 0 ≤ x4_1
        · rw [if_pos c3] at H
          have c3b0 : decide (0 ≤ x4_1) = true := decide_eq_true c3
          clear c3
          replace H := Option.bind_eq_some_iff.mp H
          obtain ⟨t120, A40, H⟩ := H
          replace H : (if x3_1.size + t120.size ≤ 9223372036854775807 then (spec_l10Numbers.l0 k1 l0 (x3_1 ++ t120) (wrap64 (x4_1 + 1))) else (none)) = some r := H
          have A4 := Aside0.mk A40
          clear A40
          by_cases c5 : x3_1.size + t120.size ≤ 9223372036854775807
          · rw [if_pos c5] at H
            have c5b0 := eq_true c5
            have c5b1 : decide (x3_1.size + t120.size ≤ 9223372036854775807) = true := decide_eq_true c5
            try have c5b2 : (9223372036854775807 < x3_1.size + t120.size) = False := eq_false (Nat.not_lt.2 c5)
            have H' := Aside0.mk H
            clear H
            have p119 : 0 ≤ (x4_1 : Int) := of_decide_eq_true (by first | (with_reducible assumption) | assumption)
            have q119 : x4_1 < (l0.length : Int) := of_decide_eq_true (by first | (with_reducible assumption) | assumption)
            obtain ⟨ad119, e119, hx119_0⟩ := Kd.at_int HR0.out x4_1 p119 q119
            cases e119
            replace hx119_0 := (HB.out.cell (World.block_lt_of_cell? w _ hx119_0)).trans hx119_0
            replace p119 := eq_true p119
            replace q119 := eq_true q119
            go_wp2_with (first | ((with_reducible refine gate_callee (f := 44) rfl ?_); refine goesL_ (some 16) rfl rfl Try.func44 (by kernel_rfl) rfl #[.int .i64 (rd l0 x4_1)] rfl (by (try simp only [List.map_toArray, List.map_cons, List.map_nil]); first | done | rfl | (simp only [List.length_drop, List.length_take]; rfl)) ?_; (with_reducible refine (spec_l01Put.calls k1 (rd l0 x4_1) t120 _ A4.out).mono ?_); rintro e w6 ⟨rfl, hb⟩; refine ⟨_, rfl, ?_⟩; have n0_ := Aside0.mk (below_step (by repeat (first | (with_reducible first | exact HB.out | apply below_alloc | apply pw_below_drewN | apply below_drew1) | exact HB.out)) hb); clear HB; have HB := n0_; clear n0_; (try clear hb); (try clear hb2); (try clear hk); (try clear hi)))
            go_roundg k1
            case measure => have := HK1.out; omega
            case rel => exact ⟨(x3_1 ++ t120), (wrap64 (x4_1 + 1)), (by first | rfl | (simp; done) | (simp [*]; done)), (by first | rfl | (simp; done) | (simp [*]; done)), H', ⟨by have := HK1.out; omega⟩, ⟨by repeat (first | (with_reducible first | exact HB.out | apply below_alloc | apply pw_below_drewN | apply below_drew1) | exact HB.out)⟩⟩
          · rw [if_neg c5] at H
            exact absurd H (by simp)
        · rw [if_neg c3] at H
          exact absurd H (by simp)
      · rw [if_neg c2] at H
        have c2b0 : decide (x4_1 < (l0.length : Int)) = false := decide_eq_false c2
        clear c2
        obtain rfl := Option.some.inj H
        go_wp2
        go_ret
        exact ⟨by first | rfl | (simp [errW_none, errW_some] <;> rfl) | (simp [*, errW_none, errW_some] <;> rfl), by repeat (first | (with_reducible first | exact HB.out | apply below_alloc | apply pw_below_drewN | apply below_drew1) | exact HB.out)⟩
end Go.Proofs.Ytnppmhijoaeibaa.Q
set_option linter.unusedVariables false
set_option linter.unusedSimpArgs false
namespace Go.Proofs.Ytnppmhijoaeibaa.H
open Go.RowKit Go.Proofs.YtnppmhijoaeibaaW.PrintWords Go.Proofs.YtnppmhijoaeibaaW.PrintLast
structure Kp (w w' : World) : Prop where
  size : w.heap.size ≤ w'.heap.size
  blk : ∀ (i : Nat) (cs : Array Value) (q : TypeId) (fr : Nat × Nat), w.heap[i]? = some (Obj.cells cs q fr) → q ≠ 75 → q ≠ 5 → w'.heap[i]? = w.heap[i]?
theorem Kp.refl (w : World) : Kp w w := ⟨Nat.le_refl _, fun _ _ _ _ _ _ _ => rfl⟩
theorem Kp.trans {w w1 w2 : World} (h : Kp w w1) (k : Kp w1 w2) : Kp w w2 :=
  ⟨Nat.le_trans h.size k.size, fun i cs q fr hi h1 h2 => (k.blk i cs q fr ((h.blk i cs q fr hi h1 h2).trans hi) h1 h2).trans (h.blk i cs q fr hi h1 h2)⟩
theorem Kp.below {w w' : World} (h : Below w.heap.size w w') : Kp w w' :=
  ⟨h.size, fun i cs q fr hi _ _ => h.block i (by rcases Nat.lt_or_ge i w.heap.size with h' | h'; exact h'; simp [Array.getElem?_eq_none h'] at hi)⟩
theorem Kp.grown {w w1 : World} {row : Option Nat} (h : w.grownBy w1 row) (hr : ∀ k, row = some k → ∃ (cs : Array Value) (fr : Nat × Nat), w.heap[k]? = some (Obj.cells cs 5 fr)) : Kp w w1 :=
  ⟨h.size, fun i cs q fr hi h1 h2 => h.block i (by rcases Nat.lt_or_ge i w.heap.size with h' | h'; exact h'; simp [Array.getElem?_eq_none h'] at hi) (fun e => by
    obtain ⟨cs', fr', hk⟩ := hr i e.symm
    rw [hk] at hi
    injection hi with hi
    injection hi with _ hq _
    exact h2 hq.symm)⟩
theorem Kp.setCell {w : World} {b : Nat} {cs : Array Value} {fr : Nat × Nat} (hb : w.heap[b]? = some (.cells cs 75 fr)) (j : Nat) (u : Value) : Kp w (w.setCell ⟨b, j, none⟩ u) :=
  ⟨by simp [World.setCell], fun i cs' q fr' hi h1 h2 => Below.heap_setCell w ⟨b, j, none⟩ u i (fun e => by
    have e : i = b := e
    subst e
    rw [hb] at hi
    injection hi with hi
    injection hi with _ hq _
    exact h1 hq.symm)⟩
set_option maxHeartbeats 1000000 in
theorem copyCheckK (B b : Nat) (bs : List Value) (w : World) (h : Lib.IsBuilder 75 5 B b bs w) :
    Calls Try.prog 91 #[.pointer (some ⟨b, 0, none⟩)] w fun e w' => e = .returned (.tuple #[]) ∧ (Lib.BuilderAt 75 5 B b (.pointer (some ⟨b, 0, none⟩)) bs w' ∧ Below B w w') ∧ Kp w w' := by
  rcases h with h | h
  · refine (copyCheck_fresh isW b w h.cell0 h.shape h.frozen0).mono ?_
    rintro e w' ⟨rfl, rfl⟩
    obtain ⟨hB, v, hbk, _⟩ := h
    exact ⟨rfl, ⟨Lib.BuilderAt.used ⟨hB, v, hbk, ‹_›⟩ _, (Below.refl B w).setCell (p := ⟨b, 0, none⟩) hB _⟩, Kp.setCell hbk 0 _⟩
  · refine (copyCheck_used b w h.cell0).mono ?_
    rintro e w' ⟨rfl, rfl⟩
    exact ⟨rfl, ⟨h, Below.refl B _⟩, Kp.refl _⟩
set_option maxHeartbeats 2000000 in
set_option maxRecDepth 100000 in
theorem writeStringK (B b : Nat) (bs : List Value) (s : ByteArray) (w : World) (h : Lib.IsBuilder 75 5 B b bs w) (hlen : bs.length + s.size ≤ 140737488355328) (hBw : B ≤ w.heap.size) :
    Calls Try.prog 65 #[.pointer (some ⟨b, 0, none⟩), .string s] w fun e w' => e = .returned (.tuple #[.int .i64 s.size, .nilIface]) ∧ (Lib.IsBuilder 75 5 B b (bs ++ Lib.strCells s) w' ∧ Below B w w') ∧ Kp w w' := by
  obtain ⟨i0, hi, hz0, hz1, hz2⟩ := info_parts infoByte
  have hcc := copyCheckK B b bs w h
  go_enter Try.func65, Try.ntmps65
  go_wp2_with (go_at_call 91; refine hcc.mono ?_)
  rintro e w1 ⟨rfl, ⟨h1, hb1⟩, hk1⟩
  obtain ⟨hB, v, hbk, hown, hne⟩ := h1
  have c0 : w1.cell? ⟨b, 0, none⟩ = some (.pointer (some ⟨b, 0, none⟩)) := by rw [Lib.cell_of_heap hbk]; rfl
  have c1 : w1.cell? ⟨b, 1, none⟩ = some v := by rw [Lib.cell_of_heap hbk]; rfl
  go_wp2_with (at_builtin; refine Lib.wpList_append_own_string _ rfl _ _ 30 9 rfl B 5 i0 Try.underlying30 Try.underlying9 hi hz0 hz1 hz2 _ _ _ rfl hown s rfl ?c3 ?c4 ?c5 ?_)
  case c3 => unfold maxLen; omega
  case c4 => omega
  case c5 => have := hb1.size; omega
  intro v' w2 hown' hgrow _
  have hlt : b < w1.heap.size := by
    rcases Nat.lt_or_ge b w1.heap.size with h' | h'
    · exact h'
    · simp [Array.getElem?_eq_none h'] at hbk
  have hb2 : w2.heap[b]? = some (.cells #[.pointer (some ⟨b, 0, none⟩), v] 75 (0, 0)) := by
    rw [hgrow.block b hlt (fun e => hne e.symm)]
    exact hbk
  have d0 : w2.cell? ⟨b, 0, none⟩ = some (.pointer (some ⟨b, 0, none⟩)) := by rw [Lib.cell_of_heap hb2]; rfl
  have d1 : w2.cell? ⟨b, 1, none⟩ = some v := by rw [Lib.cell_of_heap hb2]; rfl
  have f1 : w2.frozen? ⟨b, 1, none⟩ = false := Lib.frozen_of_heap hb2 1
  have hkk : Kp w w2 := hk1.trans (Kp.grown hgrow (fun k hk => by obtain ⟨cells, hc⟩ := own_typed hown k hk; exact ⟨_, _, hc⟩))
  obtain ⟨ao, n', cap, rfl⟩ : ∃ ao n' cap, v' = .slice ao n' cap := by
    rcases hown'.2 with ⟨hv, _⟩ | ⟨g, cap, cur, hv, _⟩
    · exact ⟨_, _, _, hv⟩
    · exact ⟨_, _, _, hv⟩
  go_wp2
  go_ret2
  refine ⟨rfl, ⟨.inr ?_, ?_⟩, hkk.trans (Kp.setCell hb2 1 _)⟩
  · exact Lib.BuilderAt.put (T := 75) (e := 5) hB hb2 (bs' := bs ++ Lib.strCells s) (by simpa [Lib.strCells_length] using hown') isW.2
  · exact (hb1.grown hgrow (by have := hb1.size; omega) (fun k hk => (hown.lt k hk).1)).setCell (p := ⟨b, 1, none⟩) hB _
def IsW (w : World) (B g : Nat) (l : List Int) : Prop := Lib.IsBuilder 75 5 B g (nums .u8 l) w
def numsL (xs : List Int) : List Int := xs.flatMap putL
theorem numsL_len (xs : List Int) : (numsL xs).length ≤ 3 * xs.length := by
  induction xs with
  | nil => simp [numsL]
  | cons x xs ih => have := putL_len x; unfold numsL at ih ⊢; rw [List.flatMap_cons, List.length_append, List.length_cons]; omega
theorem numsL_range {xs : List Int} (h : ∀ x ∈ xs, x < 2097152) : ∀ x ∈ numsL xs, 0 ≤ x ∧ x ≤ 255 := fun x hx => by
  obtain ⟨b, hb, hx⟩ := List.mem_flatMap.1 hx
  exact putL_range (h b hb) x hx
theorem strOfNums_len (xs : List Int) : (strOfNums xs).size = xs.length := by simp [strOfNums, ByteArray.size]
theorem strCells_nums (l : List Int) (h : ∀ x ∈ l, 0 ≤ x ∧ x ≤ 255) : Lib.strCells (strOfNums l) = nums .u8 l := by
  rw [nums_cells l h]; rfl
theorem IsW.mono {w w' : World} {B g : Nat} {l : List Int} (h : IsW w B g l) (hb : w'.heap[g]? = w.heap[g]?) (hr : ∀ (k : Nat) (cs : Array Value) (fr : Nat × Nat), w.heap[k]? = some (Obj.cells cs 5 fr) → w'.heap[k]? = w.heap[k]?) : IsW w' B g l := by
  rcases h with ⟨h0, v, h1, h2, h3⟩ | ⟨h0, v, h1, h2, h3⟩
  · exact .inl ⟨h0, v, hb.trans h1, own_move h2 (fun k hk => by obtain ⟨cs, hc⟩ := own_typed h2 k hk; exact hr k cs _ hc), h3⟩
  · exact .inr ⟨h0, v, hb.trans h1, own_move h2 (fun k hk => by obtain ⟨cs, hc⟩ := own_typed h2 k hk; exact hr k cs _ hc), h3⟩
theorem IsW.lt {w : World} {B g : Nat} {l : List Int} (h : IsW w B g l) : g < w.heap.size := by
  rcases h with h | h
  · exact h.lt
  · exact h.lt
theorem IsW.below {w w' : World} {B g : Nat} {l : List Int} (h : IsW w B g l) (hb : Below w.heap.size w w') : IsW w' B g l :=
  h.mono (hb.block g h.lt) (fun k cs fr hk => hb.block k (by rcases Nat.lt_or_ge k w.heap.size with h' | h'; exact h'; simp [Array.getElem?_eq_none h'] at hk))
def NumsRel (w : World) (B g : Nat) (l xs : List Int) (n : Value) (wr : World) : Prop :=
  ∃ i : Int, n = .int .i64 i ∧ 0 ≤ i ∧ i ≤ xs.length ∧ IsW wr B g (l ++ numsL (xs.take i.toNat)) ∧ Below B w wr ∧ Kp w wr
set_option maxHeartbeats 2000000 in
set_option maxRecDepth 100000 in
theorem numbers (B g : Nat) (l xs : List Int) (A : Option Addr) (c : Nat) (w : World) (hW : IsW w B g l) (hB : B ≤ w.heap.size) (hS : ∀ w', Kp w w' → Below B w w' → Kd.C (Kd.int .i64) w' A xs.length xs) (hx : ∀ x ∈ xs, x < 2097152) (hl : l.length + 3 * xs.length ≤ 140737488355328) :
    Calls Try.prog 64 #[.pointer (some ⟨g, 0, none⟩), .slice A xs.length c] w fun e w' => e = .returned (.tuple #[]) ∧ IsW w' B g (l ++ numsL xs) ∧ Below B w w' ∧ Kp w w' := by
  have hS := Lib.hid hS
  have hx := Lib.hid hx
  go_enter Try.func64, Try.ntmps64
  go_wp2
  go_loopw [8] (fun n wr => NumsRel w B g l xs n wr) (fun n _ => ((xs.length : Int) - intOf n).toNat)
  case atStart => exact ⟨0, rfl, by omega, by omega, by simpa [numsL] using hW, Below.refl _ _, Kp.refl _⟩
  case round =>
    obtain ⟨i, rfl, h0, h1, hWi, hb, hk⟩ := hrel
    by_cases c : i < (xs.length : Int)
    · have cb : decide (i < (xs.length : Int)) = true := decide_eq_true c
      obtain ⟨ad, rfl, hc0⟩ := Kd.at_int (hS.out wr hk hb) i h0 c
      have hv : rd xs i < 2097152 := hx.out _ (by unfold rd; rw [List.getD_eq_getElem?_getD, List.getElem?_eq_getElem (by omega)]; exact List.getElem_mem _)
      have hf : impl_number.f (rd xs i) = some (strOfNums (putL (rd xs i))) := by unfold impl_number.f; rw [if_pos hv]
      have p1 : 0 ≤ i := h0
      replace p1 := eq_true p1
      replace c := eq_true c
      go_wp2_with fail
      refine start_ (n := 6) (S := fun w' => True) (ds := []) #[false, false, false, false, false, false] (by kernel_rfl) rfl rfl trivial (fun hHeld => ?_)
      refine pure_ (i := 0) (N := (some 12)) (v := ?_) (a' := ?_) #[true, false, false, false, false, false] rfl rfl (by kernel_rfl) (fun _ _ _ h => h) (Or.inl ⟨by rfl, ?_⟩) ?_ ?_
      rotate_left
      · intro w'
        go_simp
        with_reducible rfl
      rotate_left
      · simp only [Act.put, List.setIfInBounds_toArray, List.set_cons_zero, List.set_cons_succ, i64_w, i32_w]
        rfl
      refine pure_ (i := 1) (N := (some 13)) (v := ?_) (a' := ?_) #[true, true, false, false, false, false] rfl rfl (by kernel_rfl) (fun _ _ _ h => h) (Or.inl ⟨by rfl, ?_⟩) ?_ ?_
      rotate_left
      · intro w'
        go_simp
        with_reducible rfl
      rotate_left
      · simp only [Act.put, List.setIfInBounds_toArray, List.set_cons_zero, List.set_cons_succ, i64_w, i32_w]
        rfl
      refine pure_ (i := 2) (N := (some 14)) (v := ?_) (a' := ?_) #[true, true, true, false, false, false] rfl rfl (by kernel_rfl) (fun _ _ _ h => h) (Or.inl ⟨by rfl, ?_⟩) ?_ ?_
      rotate_left
      · intro w'
        go_simp
        with_reducible rfl
      rotate_left
      · simp only [Act.put, List.setIfInBounds_toArray, List.set_cons_zero, List.set_cons_succ, i64_w, i32_w]
        rfl
      refine pure_ (i := 3) (N := (some 15)) (v := ?_) (a' := ?_) #[true, true, true, true, false, false] rfl rfl (by kernel_rfl) (fun _ _ _ h => h) (Or.inl ⟨by rfl, ?_⟩) ?_ ?_
      rotate_left
      · intro w'
        go_simp
        with_reducible rfl
      rotate_left
      · simp only [Act.put, List.setIfInBounds_toArray, List.set_cons_zero, List.set_cons_succ, i64_w, i32_w]
        rfl
      refine one_ (i := 4) (N := (some 16)) #[true, true, true, true, true, false] rfl rfl (by kernel_rfl) (by decide) (fun K hK => ?_)
      refine goes_ Try.func46 (by kernel_rfl) rfl #[.int .i64 (rd xs i)] (by rfl) rfl rfl (by simp only [List.map_toArray, List.map_cons, List.map_nil]; rfl) ?_
      refine (impl_number.calls (rd xs i) _ _ hf).mono ?_
      rintro e w6 ⟨rfl, hb6⟩
      refine ⟨_, rfl, ?_⟩
      refine hK.out _ _ trivial (fun _ => ?_)
      clear hK K
      refine norm_ (a' := ?_) ?_ ?_
      rotate_left
      · show Act.put _ (some 16) _ = _
        simp only [Act.put, List.setIfInBounds_toArray, List.set_cons_zero, List.set_cons_succ, i64_w, i32_w]
        rfl
      refine one_ (i := 5) (N := (some 17)) #[true, true, true, true, true, true] rfl rfl (by kernel_rfl) (by decide) (fun K hK => ?_)
      refine goes_ Try.func65 (by kernel_rfl) rfl #[.pointer (some ⟨g, 0, none⟩), .string (strOfNums (putL (rd xs i)))] (by rfl) rfl rfl (by simp only [List.map_toArray, List.map_cons, List.map_nil]; rfl) ?_
      have clt := of_eq_true c
      have hW6 : IsW w6 B g (l ++ numsL (xs.take i.toNat)) := IsW.below (w := wr.drew) hWi hb6
      have hB6 : B ≤ w6.heap.size := Nat.le_trans hB (Nat.le_trans hb.size hb6.size)
      have hl6 : (nums .u8 (l ++ numsL (xs.take i.toNat))).length + (strOfNums (putL (rd xs i))).size ≤ 140737488355328 := by
        have h1 := numsL_len (xs.take i.toNat)
        have h2 := putL_len (rd xs i)
        rw [nums_length, List.length_append, strOfNums_len]
        rw [List.length_take] at h1
        omega
      refine (writeStringK B g _ _ _ hW6 hl6 hB6).mono ?_
      rintro e w7 ⟨rfl, ⟨hI7, hb7⟩, hk7⟩
      refine ⟨_, rfl, ?_⟩
      refine hK.out _ _ trivial (fun _ => ?_)
      clear hK K
      refine norm_ (a' := ?_) ?_ ?_
      rotate_left
      · show Act.put _ (some 17) _ = _
        simp only [Act.put, List.setIfInBounds_toArray, List.set_cons_zero, List.set_cons_succ, i64_w, i32_w]
        rfl
      refine done_ (by kernel_rfl) ?_
      have hW7 : IsW w7 B g (l ++ numsL (xs.take (i + 1).toNat)) := by
        have e : (i + 1).toNat = i.toNat + 1 := by omega
        have hr : rd xs i = xs[i.toNat]'(by omega) := by unfold rd; rw [List.getD_eq_getElem?_getD, List.getElem?_eq_getElem (by omega)]; rfl
        rw [strCells_nums _ (putL_range hv), ← nums_append, hr] at hI7
        rw [e, List.take_succ_eq_append_getElem (by omega)]
        unfold numsL
        rw [List.flatMap_append, List.flatMap_singleton, ← List.append_assoc]
        exact hI7
      have hb8 : Below B w w7 := (hb.trans (Below.mono (B := wr.heap.size) (w := wr) ⟨hb6.os, hb6.tape, hb6.output, hb6.size, hb6.block⟩ (Nat.le_trans hB hb.size))).trans hb7
      have hk8 : Kp w w7 := (hk.trans (show Kp wr w6 from ⟨(Kp.below hb6).size, (Kp.below hb6).blk⟩)).trans hk7
      go_wp2
      go_roundw
      case rel => exact ⟨i + 1, rfl, by omega, by omega, hW7, hb8, hk8⟩
      case measure => simp [intOf]; omega
    · have cb : decide (i < (xs.length : Int)) = false := decide_eq_false c
      have he : i.toNat = xs.length := by omega
      rw [he, List.take_length] at hWi
      go_wp2
      go_end0
      exact ⟨rfl, hWi, hb, hk⟩
theorem C_lit {w w' : World} {g : Nat} {xs : List Int} {fr : Nat × Nat} (hb : w'.heap[g]? = some (.cells (nums .i64 xs).toArray 3 fr)) (hl : xs.length ≤ 9223372036854775807) : Kd.C (Kd.int .i64) w' (some ⟨g, 0, none⟩) xs.length xs := by
  refine Kd.C_of_reads (d := (0 : Int)) (h1 := fun _ => rfl) ⟨rfl, hl, fun hn => ⟨_, rfl, fun j hj => ?_⟩⟩
  have : w'.cell? ((⟨g, 0, none⟩ : Addr).add j) = (nums .i64 xs).toArray[j]? := by
    cases j with
    | zero => simp [Addr.add, World.cell?, hb]
    | succ j => simp [Addr.add, World.cell?, hb]
  rw [this, List.getElem?_toArray, nums, List.getElem?_map, List.getElem?_eq_getElem hj, List.getD_eq_getElem?_getD, List.getElem?_eq_getElem hj]; rfl
theorem numbers_lit (B g : Nat) (l xs : List Int) (w : World) (hW : IsW w B g l) (hB : B ≤ w.heap.size) (hx : ∀ x ∈ xs, x < 2097152) (hl : l.length + 3 * xs.length ≤ 140737488355328) :
    Calls Try.prog 64 #[.pointer (some ⟨g, 0, none⟩), .slice (some ⟨w.heap.size, 0, none⟩) xs.length xs.length] (w.alloc (.cells (nums .i64 xs).toArray 3)) fun e w' => e = .returned (.tuple #[]) ∧ IsW w' B g (l ++ numsL xs) ∧ Below B w w' ∧ Kp w w' := by
  have hb0 : Below w.heap.size w (w.alloc (.cells (nums .i64 xs).toArray 3)) := (Below.refl _ _).alloc (Nat.le_refl _) _
  have hW1 : IsW (w.alloc (.cells (nums .i64 xs).toArray 3)) B g l := hW.below hb0
  have hn : (w.alloc (.cells (nums .i64 xs).toArray 3)).heap[w.heap.size]? = some (.cells (nums .i64 xs).toArray 3 (0, 0)) := heap_alloc_new _ _
  refine (numbers B g l xs _ _ _ hW1 (Nat.le_trans hB hb0.size) (fun w' hk _ => C_lit (w := w) ((hk.blk _ _ _ _ hn (by decide) (by decide)).trans hn) (by omega)) hx hl).mono ?_
  rintro e w' ⟨rfl, h1, h2, h3⟩
  exact ⟨rfl, h1, (hb0.mono hB).trans h2, (Kp.below hb0).trans h3⟩
theorem stringW (B g : Nat) (l : List Int) (w : World) (hW : IsW w B g l) (hl : ∀ x ∈ l, 0 ≤ x ∧ x ≤ 255) (h0 : l ≠ []) :
    Calls Try.prog 66 #[.pointer (some ⟨g, 0, none⟩)] w fun e w' => e = .returned (.string (strOfNums l)) ∧ Below B w w' := by
  unfold IsW at hW
  rw [nums_cells l hl] at hW
  refine (string_ isW B g _ w hW (by simpa using h0)).mono ?_
  rintro e w' ⟨rfl, h⟩
  exact ⟨rfl, h⟩
theorem writeW (B g : Nat) (l : List Int) (s : ByteArray) (w : World) (hW : IsW w B g l) (hlen : l.length + s.size ≤ 140737488355328) (hBw : B ≤ w.heap.size) :
    Calls Try.prog 65 #[.pointer (some ⟨g, 0, none⟩), .string s] w fun e w' => e = .returned (.tuple #[.int .i64 s.size, .nilIface]) ∧ IsW w' B g (l ++ bytesOf s) ∧ Below B w w' ∧ Kp w w' := by
  refine (writeStringK B g _ s w hW (by rw [nums_length]; exact hlen) hBw).mono ?_
  rintro e w' ⟨rfl, ⟨h1, h2⟩, h3⟩
  refine ⟨rfl, ?_, h2, h3⟩
  have e : nums .u8 l ++ Lib.strCells s = nums .u8 (l ++ bytesOf s) := by
    rw [nums_append]; congr 1; simp [nums, bytesOf, Lib.strCells]
  rw [e] at h1
  exact h1
theorem bytesOf_range (s : ByteArray) : ∀ x ∈ bytesOf s, 0 ≤ x ∧ x ≤ 255 := fun x hx => by
  simp [bytesOf] at hx
  obtain ⟨b, _, rfl⟩ := hx
  have := b.toNat_lt
  omega
theorem strOfNums_bytes (l : List Int) (s : ByteArray) : strOfNums (l ++ bytesOf s) = strOfNums l ++ s := by
  apply ByteArray.ext
  apply Array.ext'
  rw [ByteArray.data_append, Array.toList_append]
  simp only [strOfNums, bytesOf, List.map_append, List.map_map]
  congr 1
  rw [show ((fun n : Int => UInt8.ofNat n.toNat) ∘ fun b : UInt8 => (b.toNat : Int)) = id from by funext b; simp]
  simp
end Go.Proofs.Ytnppmhijoaeibaa.H
namespace Go.Proofs.Ytnppmhijoaeibaa.Q
open Go.RowKit Go.Proofs.YtnppmhijoaeibaaW.PrintWords Go.Proofs.YtnppmhijoaeibaaW.PrintLast Go.Proofs.YtnppmhijoaeibaaW.PrintMore
open Go.Proofs.Ytnppmhijoaeibaa.H
attribute [local go_sem] max2_int min2_int max_two min_two max_three min_three max_four min_four
set_option linter.unusedVariables false
set_option linter.unusedSimpArgs false
def IsS116 (w0 W : World) (g : Nat) (f0 : ByteArray) (f1 : Int) (f2 : Int) : Prop := W.heap[g]? = some (.cells #[.string f0, .int .i64 f1, .int .i64 f2] 116 (0, 0)) ∧ w0.heap.size ≤ g
theorem IsS116.grown {w0 W : World} {g : Nat} {f0 : ByteArray} {f1 : Int} {f2 : Int} {W1 : World} {row : Option Nat} (h : IsS116 w0 W g f0 f1 f2) (hw : W.grownBy W1 row) (hne : some g ≠ row) : IsS116 w0 W1 g f0 f1 f2 := by
  obtain ⟨hb, hg⟩ := h
  exact ⟨blk_grown hb hw hne, hg⟩
theorem IsS116.kept {w0 W : World} {g : Nat} {f0 : ByteArray} {f1 : Int} {f2 : Int} {W1 : World} {S : Nat → Prop} (h : IsS116 w0 W g f0 f1 f2) (hk : Kept W W1 S) (hne : ¬ S g) : IsS116 w0 W1 g f0 f1 f2 := by
  obtain ⟨hb, hg⟩ := h
  exact ⟨blk_kept hb hk hne, hg⟩
theorem IsS116.below {w0 W : World} {g : Nat} {f0 : ByteArray} {f1 : Int} {f2 : Int} {W1 : World} (h : IsS116 w0 W g f0 f1 f2) (hw : Below W.heap.size W W1) : IsS116 w0 W1 g f0 f1 f2 := h.grown (grown_of_below hw none) (by simp)
theorem IsS116.alloc {w0 W : World} {g : Nat} {f0 : ByteArray} {f1 : Int} {f2 : Int} (h : IsS116 w0 W g f0 f1 f2) (o : Obj) : IsS116 w0 (W.alloc o) g f0 f1 f2 := h.below (below_alloc (Below.refl _ _) o)
theorem IsS116.drewN {w0 W : World} {g : Nat} {f0 : ByteArray} {f1 : Int} {f2 : Int} (h : IsS116 w0 W g f0 f1 f2) (m : Nat) : IsS116 w0 (W.drewN m) g f0 f1 f2 := h
theorem IsS116.drew {w0 W : World} {g : Nat} {f0 : ByteArray} {f1 : Int} {f2 : Int} (h : IsS116 w0 W g f0 f1 f2) : IsS116 w0 W.drew g f0 f1 f2 := h
theorem IsS116.at_ {w0 W : World} {g : Nat} {f0 : ByteArray} {f1 : Int} {f2 : Int} {w' : World} {m : Nat} (hq : W.drewN m = w') (h : IsS116 w0 W g f0 f1 f2) : IsS116 w0 w' g f0 f1 f2 := by subst hq; exact IsS116.drewN h m
theorem IsS116.apart {w0 W : World} {g : Nat} {f0 : ByteArray} {f1 : Int} {f2 : Int} {α : Type} {d : Kd α} {e : Nat} {base : Nat} {ok : Nat → Prop} {v : Value} {xs : List α} (h : IsS116 w0 W g f0 f1 f2) (ho : d.R e W base ok v xs) (ht : ∀ q, q ∈ e :: d.E → q ≠ 116) : d.R e W base (fun k => ok k ∧ k ≠ g) v xs := by
  obtain ⟨hb, hg⟩ := h
  exact Kd.R_types ho hb ht
theorem IsS116.own_ne {w0 W : World} {g : Nat} {f0 : ByteArray} {f1 : Int} {f2 : Int} {α : Type} {d : Kd α} {e : Nat} {base : Nat} {ok : Nat → Prop} {v : Value} {xs : List α} (h : IsS116 w0 W g f0 f1 f2) (ho : d.R e W base ok v xs) (ht : e ≠ 116) : some g ≠ v.ownBlock := by
  obtain ⟨hb, hg⟩ := h
  exact Kd.R_ne ho hb ht
theorem IsS116.lt {w0 W : World} {g : Nat} {f0 : ByteArray} {f1 : Int} {f2 : Int} (h : IsS116 w0 W g f0 f1 f2) : g < W.heap.size := by
  obtain ⟨hb, hg⟩ := h
  exact blk_lt hb
def IsS133 (w0 W : World) (g : Nat) (f0 : ByteArray) (f1 : Int) (f2 : Int) : Prop := W.heap[g]? = some (.cells #[.string f0, .int .i64 f1, .int .i64 f2] 133 (0, 0)) ∧ w0.heap.size ≤ g
theorem IsS133.grown {w0 W : World} {g : Nat} {f0 : ByteArray} {f1 : Int} {f2 : Int} {W1 : World} {row : Option Nat} (h : IsS133 w0 W g f0 f1 f2) (hw : W.grownBy W1 row) (hne : some g ≠ row) : IsS133 w0 W1 g f0 f1 f2 := by
  obtain ⟨hb, hg⟩ := h
  exact ⟨blk_grown hb hw hne, hg⟩
theorem IsS133.kept {w0 W : World} {g : Nat} {f0 : ByteArray} {f1 : Int} {f2 : Int} {W1 : World} {S : Nat → Prop} (h : IsS133 w0 W g f0 f1 f2) (hk : Kept W W1 S) (hne : ¬ S g) : IsS133 w0 W1 g f0 f1 f2 := by
  obtain ⟨hb, hg⟩ := h
  exact ⟨blk_kept hb hk hne, hg⟩
theorem IsS133.below {w0 W : World} {g : Nat} {f0 : ByteArray} {f1 : Int} {f2 : Int} {W1 : World} (h : IsS133 w0 W g f0 f1 f2) (hw : Below W.heap.size W W1) : IsS133 w0 W1 g f0 f1 f2 := h.grown (grown_of_below hw none) (by simp)
theorem IsS133.alloc {w0 W : World} {g : Nat} {f0 : ByteArray} {f1 : Int} {f2 : Int} (h : IsS133 w0 W g f0 f1 f2) (o : Obj) : IsS133 w0 (W.alloc o) g f0 f1 f2 := h.below (below_alloc (Below.refl _ _) o)
theorem IsS133.drewN {w0 W : World} {g : Nat} {f0 : ByteArray} {f1 : Int} {f2 : Int} (h : IsS133 w0 W g f0 f1 f2) (m : Nat) : IsS133 w0 (W.drewN m) g f0 f1 f2 := h
theorem IsS133.drew {w0 W : World} {g : Nat} {f0 : ByteArray} {f1 : Int} {f2 : Int} (h : IsS133 w0 W g f0 f1 f2) : IsS133 w0 W.drew g f0 f1 f2 := h
theorem IsS133.at_ {w0 W : World} {g : Nat} {f0 : ByteArray} {f1 : Int} {f2 : Int} {w' : World} {m : Nat} (hq : W.drewN m = w') (h : IsS133 w0 W g f0 f1 f2) : IsS133 w0 w' g f0 f1 f2 := by subst hq; exact IsS133.drewN h m
theorem IsS133.apart {w0 W : World} {g : Nat} {f0 : ByteArray} {f1 : Int} {f2 : Int} {α : Type} {d : Kd α} {e : Nat} {base : Nat} {ok : Nat → Prop} {v : Value} {xs : List α} (h : IsS133 w0 W g f0 f1 f2) (ho : d.R e W base ok v xs) (ht : ∀ q, q ∈ e :: d.E → q ≠ 133) : d.R e W base (fun k => ok k ∧ k ≠ g) v xs := by
  obtain ⟨hb, hg⟩ := h
  exact Kd.R_types ho hb ht
theorem IsS133.own_ne {w0 W : World} {g : Nat} {f0 : ByteArray} {f1 : Int} {f2 : Int} {α : Type} {d : Kd α} {e : Nat} {base : Nat} {ok : Nat → Prop} {v : Value} {xs : List α} (h : IsS133 w0 W g f0 f1 f2) (ho : d.R e W base ok v xs) (ht : e ≠ 133) : some g ≠ v.ownBlock := by
  obtain ⟨hb, hg⟩ := h
  exact Kd.R_ne ho hb ht
theorem IsS133.lt {w0 W : World} {g : Nat} {f0 : ByteArray} {f1 : Int} {f2 : Int} (h : IsS133 w0 W g f0 f1 f2) : g < W.heap.size := by
  obtain ⟨hb, hg⟩ := h
  exact blk_lt hb
end Go.Proofs.Ytnppmhijoaeibaa.Q
namespace Go.Proofs.Ytnppmhijoaeibaa.Q
open Go.RowKit Go.Proofs.YtnppmhijoaeibaaW.PrintWords Go.Proofs.YtnppmhijoaeibaaW.PrintLast Go.Proofs.YtnppmhijoaeibaaW.PrintMore
open Go.Proofs.Ytnppmhijoaeibaa.H
attribute [local go_sem] max2_int min2_int max_two min_two max_three min_three max_four min_four
set_option linter.unusedVariables false
set_option linter.unusedSimpArgs false
theorem info108 : (Try.prog.info? 108).map (fun i => (i.zero, i.size, i.bytes)) = some (some (.agg #[(.int .i64 0), (.int .i64 0), (.int .i64 0), (.string ⟨#[]⟩), (.slice none 0 0)]), 5, 64) := by kernel_rfl
structure S108 where
  f0 : Int
  f1 : Int
  f2 : Int
  f3 : ByteArray
  f4 : (List Int)
def z108 : S108 := ⟨(0 : Int), (0 : Int), (0 : Int), (⟨#[]⟩ : ByteArray), ([] : List Int)⟩
def k108 : Kd S108 := Kd.iso (Kd.pair (Kd.int .i64) (Kd.pair (Kd.int .i64) (Kd.pair (Kd.int .i64) (Kd.pair Kd.string (Kd.slice 3 (Kd.int .i64)))))) (fun x : S108 => (x.f0, x.f1, x.f2, x.f3, x.f4))
theorem k108_open {w : World} {x : S108} {cs : List Value} (h : k108.K w x cs) : ∃ A4 c4, cs = [.int .i64 x.f0, .int .i64 x.f1, .int .i64 x.f2, .string x.f3, .slice A4 x.f4.length c4] ∧ x.f4.length ≤ c4 ∧ (Kd.int .i64).C w A4 x.f4.length x.f4 := by
  obtain ⟨_, _, rfl, rfl, ⟨_, _, rfl, rfl, ⟨_, _, rfl, rfl, ⟨_, _, rfl, rfl, ⟨A4, c4, rfl, l4, g4⟩⟩⟩⟩⟩ := h
  exact ⟨A4, c4, rfl, l4, g4⟩
theorem k108_openM {w : World} {base : Nat} {ok : Nat → Prop} {x : S108} {cs : List Value} (h : k108.M w base ok x cs) : ∃ v4, cs = [.int .i64 x.f0, .int .i64 x.f1, .int .i64 x.f2, .string x.f3, v4] ∧ (Kd.int .i64).R 3 w base ok v4 x.f4 := by
  obtain ⟨_, _, rfl, rfl, ⟨_, _, rfl, rfl, ⟨_, _, rfl, rfl, ⟨_, _, rfl, rfl, ⟨v4, rfl, g4⟩⟩⟩⟩⟩ := h
  exact ⟨v4, rfl, g4⟩
theorem k108_mkM (w : World) (base : Nat) (ok : Nat → Prop) (x : S108) {v4 : Value} (g4 : (Kd.int .i64).R 3 w base ok v4 x.f4) : k108.M w base ok x [.int .i64 x.f0, .int .i64 x.f1, .int .i64 x.f2, .string x.f3, v4] := ⟨[.int .i64 x.f0], [.int .i64 x.f1, .int .i64 x.f2, .string x.f3, v4], rfl, rfl, ⟨[.int .i64 x.f1], [.int .i64 x.f2, .string x.f3, v4], rfl, rfl, ⟨[.int .i64 x.f2], [.string x.f3, v4], rfl, rfl, ⟨[.string x.f3], [v4], rfl, rfl, ⟨v4, rfl, g4⟩⟩⟩⟩⟩
def rd_T108 (xs : List S108) (i : Int) : S108 := xs.getD i.toNat z108
theorem at_T108 {w : World} {A : Option Addr} {n : Nat} {xs : List S108} (h : Kd.C k108 w A n xs) (i : Int) (h0 : 0 ≤ i) (h1 : i < n) : ∃ ad A4 c4, A = some ad ∧ w.cell? (ad.add (i.toNat * 5)) = some (.int .i64 (rd_T108 xs i).f0) ∧ w.cell? ⟨(ad.add (i.toNat * 5)).block, (ad.add (i.toNat * 5)).off + 1, none⟩ = some (.int .i64 (rd_T108 xs i).f1) ∧ w.cell? ⟨(ad.add (i.toNat * 5)).block, (ad.add (i.toNat * 5)).off + 2, none⟩ = some (.int .i64 (rd_T108 xs i).f2) ∧ w.cell? ⟨(ad.add (i.toNat * 5)).block, (ad.add (i.toNat * 5)).off + 3, none⟩ = some (.string (rd_T108 xs i).f3) ∧ w.cell? ⟨(ad.add (i.toNat * 5)).block, (ad.add (i.toNat * 5)).off + 4, none⟩ = some (.slice A4 (rd_T108 xs i).f4.length c4) ∧ (rd_T108 xs i).f4.length ≤ c4 ∧ (Kd.int .i64).C w A4 (rd_T108 xs i).f4.length (rd_T108 xs i).f4 := by
  obtain ⟨ad, c, e, _, hK, hc0⟩ := Kd.C_get h z108 i h0 h1
  have hc : ∀ j u, c[j]? = some u → w.cell? (ad.add (i.toNat * 5 + j)) = some u := hc0
  obtain ⟨A4, c4, rfl, l4, g4⟩ := k108_open hK
  exact ⟨ad, A4, c4, e, hc 0 _ rfl, by rw [← add_field _ _ 1 (by omega)]; exact hc 1 _ rfl, by rw [← add_field _ _ 2 (by omega)]; exact hc 2 _ rfl, by rw [← add_field _ _ 3 (by omega)]; exact hc 3 _ rfl, by rw [← add_field _ _ 4 (by omega)]; exact hc 4 _ rfl, l4, g4⟩
structure S106 where
  f0 : Int
  f1 : Int
  f2 : Int
  f3 : ByteArray
  f4 : (List Int)
def z106 : S106 := ⟨(0 : Int), (0 : Int), (0 : Int), (⟨#[]⟩ : ByteArray), ([] : List Int)⟩
def k106 : Kd S106 := Kd.iso (Kd.pair (Kd.int .i64) (Kd.pair (Kd.int .i64) (Kd.pair (Kd.int .i64) (Kd.pair Kd.string (Kd.slice 3 (Kd.int .i64)))))) (fun x : S106 => (x.f0, x.f1, x.f2, x.f3, x.f4))
theorem k106_open {w : World} {x : S106} {cs : List Value} (h : k106.K w x cs) : ∃ A4 c4, cs = [.int .i64 x.f0, .int .i64 x.f1, .int .i64 x.f2, .string x.f3, .slice A4 x.f4.length c4] ∧ x.f4.length ≤ c4 ∧ (Kd.int .i64).C w A4 x.f4.length x.f4 := by
  obtain ⟨_, _, rfl, rfl, ⟨_, _, rfl, rfl, ⟨_, _, rfl, rfl, ⟨_, _, rfl, rfl, ⟨A4, c4, rfl, l4, g4⟩⟩⟩⟩⟩ := h
  exact ⟨A4, c4, rfl, l4, g4⟩
def rd_T106 (xs : List S106) (i : Int) : S106 := xs.getD i.toNat z106
theorem at_T106 {w : World} {A : Option Addr} {n : Nat} {xs : List S106} (h : Kd.C k106 w A n xs) (i : Int) (h0 : 0 ≤ i) (h1 : i < n) : ∃ ad A4 c4, A = some ad ∧ w.cell? (ad.add (i.toNat * 5)) = some (.int .i64 (rd_T106 xs i).f0) ∧ w.cell? ⟨(ad.add (i.toNat * 5)).block, (ad.add (i.toNat * 5)).off + 1, none⟩ = some (.int .i64 (rd_T106 xs i).f1) ∧ w.cell? ⟨(ad.add (i.toNat * 5)).block, (ad.add (i.toNat * 5)).off + 2, none⟩ = some (.int .i64 (rd_T106 xs i).f2) ∧ w.cell? ⟨(ad.add (i.toNat * 5)).block, (ad.add (i.toNat * 5)).off + 3, none⟩ = some (.string (rd_T106 xs i).f3) ∧ w.cell? ⟨(ad.add (i.toNat * 5)).block, (ad.add (i.toNat * 5)).off + 4, none⟩ = some (.slice A4 (rd_T106 xs i).f4.length c4) ∧ (rd_T106 xs i).f4.length ≤ c4 ∧ (Kd.int .i64).C w A4 (rd_T106 xs i).f4.length (rd_T106 xs i).f4 := by
  obtain ⟨ad, c, e, _, hK, hc0⟩ := Kd.C_get h z106 i h0 h1
  have hc : ∀ j u, c[j]? = some u → w.cell? (ad.add (i.toNat * 5 + j)) = some u := hc0
  obtain ⟨A4, c4, rfl, l4, g4⟩ := k106_open hK
  exact ⟨ad, A4, c4, e, hc 0 _ rfl, by rw [← add_field _ _ 1 (by omega)]; exact hc 1 _ rfl, by rw [← add_field _ _ 2 (by omega)]; exact hc 2 _ rfl, by rw [← add_field _ _ 3 (by omega)]; exact hc 3 _ rfl, by rw [← add_field _ _ 4 (by omega)]; exact hc 4 _ rfl, l4, g4⟩
end Go.Proofs.Ytnppmhijoaeibaa.Q
namespace Go.Proofs.Ytnppmhijoaeibaa.Q
open Go.RowKit Go.Proofs.YtnppmhijoaeibaaW.PrintWords Go.Proofs.YtnppmhijoaeibaaW.PrintLast Go.Proofs.YtnppmhijoaeibaaW.PrintMore
open Go.Proofs.Ytnppmhijoaeibaa.H
attribute [local go_sem] max2_int min2_int max_two min_two max_three min_three max_four min_four
set_option linter.unusedVariables false
set_option linter.unusedSimpArgs false
def spec_l02Node.f (a0_0 : Int) (a0_1 : Int) (a0_2 : Int) (a0_3 : ByteArray) (l0_4 : List Int) (a1 : Int) : Option (Bool) := (spec_l01In.f a0_0 1 (wrap64 (a1 - 1))).bind fun t102 => (if t102 = true then ((spec_l02Kind.f a0_1).bind fun t103 => (if t103 = true then ((spec_l01In.f a0_2 0 99).bind fun t104 => (if t104 = true then (if (a0_3.size : Int) ≤ 20 then (some (decide ((l0_4.length : Int) ≤ 12))) else (some false)) else (some false))) else (some false))) else (some false))
set_option maxHeartbeats 8000000 in
set_option maxRecDepth 100000 in
theorem spec_l02Node.calls (a0_0 : Int) (a0_1 : Int) (a0_2 : Int) (a0_3 : ByteArray) (A0_4 : Option Addr) (c0_4 : Nat) (l0_4 : List Int) (a1 : Int) (r : Bool) (w : World) (hr0_4 : Kd.C (Kd.int .i64) w A0_4 l0_4.length l0_4) (hc0_4 : l0_4.length ≤ c0_4) (h : spec_l02Node.f a0_0 a0_1 a0_2 a0_3 l0_4 a1 = some r) :
    Calls Try.prog 114 #[.agg #[.int .i64 a0_0, .int .i64 a0_1, .int .i64 a0_2, .string a0_3, .slice A0_4 l0_4.length c0_4], .int .i64 a1] w fun e w' => e = .returned (.bool r) ∧ Below w.heap.size w w' := by
  have hu108 := Try.underlying108
  have HR0_4 := Aside0.mk hr0_4
  have HC0_4 := Aside0.mk hc0_4
  clear hr0_4 hc0_4
  have HB := Aside0.mk (Below.refl w.heap.size w)
  have H : ((spec_l01In.f a0_0 1 (wrap64 (a1 - 1))).bind fun t102 => (if t102 = true then ((spec_l02Kind.f a0_1).bind fun t103 => (if t103 = true then ((spec_l01In.f a0_2 0 99).bind fun t104 => (if t104 = true then (if (a0_3.size : Int) ≤ 20 then (some (decide ((l0_4.length : Int) ≤ 12))) else (some false)) else (some false))) else (some false))) else (some false))) = some r := h
  clear h
  replace H := Option.bind_eq_some_iff.mp H
  obtain ⟨t102, A30, H⟩ := H
  replace H : (if t102 = true then ((spec_l02Kind.f a0_1).bind fun t103 => (if t103 = true then ((spec_l01In.f a0_2 0 99).bind fun t104 => (if t104 = true then (if (a0_3.size : Int) ≤ 20 then (some (decide ((l0_4.length : Int) ≤ 12))) else (some false)) else (some false))) else (some false))) else (some false)) = some r := H
  have A3 := Aside0.mk A30
  clear A30
  by_cases c4 : t102 = true
  · subst c4
    have H1 : ((spec_l02Kind.f a0_1).bind fun t103 => (if t103 = true then ((spec_l01In.f a0_2 0 99).bind fun t104 => (if t104 = true then (if (a0_3.size : Int) ≤ 20 then (some (decide ((l0_4.length : Int) ≤ 12))) else (some false)) else (some false))) else (some false))) = some r := by rw [if_pos rfl] at H; exact H
    clear H
    have H := H1
    clear H1
    replace H := Option.bind_eq_some_iff.mp H
    obtain ⟨t103, A50, H⟩ := H
    replace H : (if t103 = true then ((spec_l01In.f a0_2 0 99).bind fun t104 => (if t104 = true then (if (a0_3.size : Int) ≤ 20 then (some (decide ((l0_4.length : Int) ≤ 12))) else (some false)) else (some false))) else (some false)) = some r := H
    have A5 := Aside0.mk A50
    clear A50
    by_cases c6 : t103 = true
    · subst c6
      have H1 : ((spec_l01In.f a0_2 0 99).bind fun t104 => (if t104 = true then (if (a0_3.size : Int) ≤ 20 then (some (decide ((l0_4.length : Int) ≤ 12))) else (some false)) else (some false))) = some r := by rw [if_pos rfl] at H; exact H
      clear H
      have H := H1
      clear H1
      replace H := Option.bind_eq_some_iff.mp H
      obtain ⟨t104, A70, H⟩ := H
      replace H : (if t104 = true then (if (a0_3.size : Int) ≤ 20 then (some (decide ((l0_4.length : Int) ≤ 12))) else (some false)) else (some false)) = some r := H
      have A7 := Aside0.mk A70
      clear A70
      by_cases c8 : t104 = true
      · subst c8
        have H1 : (if (a0_3.size : Int) ≤ 20 then (some (decide ((l0_4.length : Int) ≤ 12))) else (some false)) = some r := by rw [if_pos rfl] at H; exact H
        clear H
        have H := H1
        clear H1
        by_cases c9 : (a0_3.size : Int) ≤ 20
        · rw [if_pos c9] at H
          have c9b0 : decide ((a0_3.size : Int) ≤ 20) = true := decide_eq_true c9
          have c9b1 : decide (a0_3.size ≤ 20) = true := decide_eq_true (by omega)
          clear c9
          obtain rfl := Option.some.inj H
          go_enter Try.func114, Try.ntmps114
          go_wp2_with (first | ((with_reducible refine gate_dst (N := 2) rfl ?_); (try (refine gate_guard (by rfl) ?_; dsimp only)); refine box_event ?hg (N := 2) ?hd (cs := #[.int .i64 a0_0, .int .i64 a0_1, .int .i64 a0_2, .string a0_3, .slice A0_4 l0_4.length c0_4]) (t := 108) ?hr ?_; (case hd => rfl); (case hg => rfl); (case hr => first | (go_simp; done) | (go_simp; rfl)); intro gb101 hg w10 hbox hb; have n0_ := Aside0.mk (below_step (by repeat (first | (with_reducible first | exact HB.out | apply below_alloc | apply pw_below_drewN | apply below_drew1) | exact HB.out)) hb); have n1_ := Aside0.mk (hbox); have n2_ := Aside0.mk ((by rw [hg]; exact (below_size (by repeat (first | (with_reducible first | exact HB.out | apply below_alloc | apply pw_below_drewN | apply below_drew1) | exact HB.out))) : w.heap.size ≤ gb101)); have n3_ := Aside0.mk ((by rw [hg]; exact (below_size (by repeat (first | (with_reducible first | exact HB.out | apply below_alloc | apply pw_below_drewN | apply below_drew1) | exact HB.out))) : w.heap.size ≤ gb101)); clear HB; have HB := n0_; have BK101 := n1_; have GW101 := n2_; have GE101 := n3_; clear n0_ n1_ n2_ n3_; clear hb hbox hg; have hcz11_0 : w10.cell? ⟨gb101, 0, none⟩ = some (.int .i64 a0_0) := (blk_cell BK101.out 0).trans rfl; have hcz11_1 : w10.cell? ⟨gb101, 1, none⟩ = some (.int .i64 a0_1) := (blk_cell BK101.out 1).trans rfl; have hcz11_2 : w10.cell? ⟨gb101, 2, none⟩ = some (.int .i64 a0_2) := (blk_cell BK101.out 2).trans rfl; have hcz11_3 : w10.cell? ⟨gb101, 3, none⟩ = some (.string a0_3) := (blk_cell BK101.out 3).trans rfl; have hcz11_4 : w10.cell? ⟨gb101, 4, none⟩ = some (.slice A0_4 l0_4.length c0_4) := (blk_cell BK101.out 4).trans rfl; have hfz11_0 := blk_frozen BK101.out 0; have hfz11_1 := blk_frozen BK101.out 1; have hfz11_2 := blk_frozen BK101.out 2; have hfz11_3 := blk_frozen BK101.out 3; have hfz11_4 := blk_frozen BK101.out 4) | ((with_reducible refine gate_callee (f := 43) rfl ?_); refine goesL_ (some 9) rfl rfl Try.func43 (by kernel_rfl) rfl #[.int .i64 a0_0, .int .i64 1, .int .i64 (wrap64 (a1 - 1))] rfl (by (try simp only [List.map_toArray, List.map_cons, List.map_nil]); first | done | rfl | (simp only [List.length_drop, List.length_take]; rfl)) ?_; (with_reducible refine (spec_l01In.calls a0_0 1 (wrap64 (a1 - 1)) true _ A3.out).mono ?_); rintro e w' ⟨rfl, ⟨nd, rfl⟩⟩; refine ⟨_, rfl, ?_⟩) | (go_at_call 110; (with_reducible refine (spec_l02Kind.calls a0_1 true _ A5.out).mono ?_); rintro e w' ⟨rfl, ⟨nd, rfl⟩⟩) | (go_at_call 43; (with_reducible refine (spec_l01In.calls a0_2 0 99 true _ A7.out).mono ?_); rintro e w' ⟨rfl, ⟨nd, rfl⟩⟩))
          go_ret
          exact ⟨by first | rfl | (simp [errW_none, errW_some] <;> rfl) | (simp [*, errW_none, errW_some] <;> rfl), by repeat (first | (with_reducible first | exact HB.out | apply below_alloc | apply pw_below_drewN | apply below_drew1 | refine below_set ?_ GE101.out) | exact HB.out)⟩
        · rw [if_neg c9] at H
          have c9b0 : decide ((a0_3.size : Int) ≤ 20) = false := decide_eq_false c9
          have c9b1 : decide (a0_3.size ≤ 20) = false := decide_eq_false (by omega)
          clear c9
          obtain rfl := Option.some.inj H
          go_enter Try.func114, Try.ntmps114
          go_wp2_with (first | ((with_reducible refine gate_dst (N := 2) rfl ?_); (try (refine gate_guard (by rfl) ?_; dsimp only)); refine box_event ?hg (N := 2) ?hd (cs := #[.int .i64 a0_0, .int .i64 a0_1, .int .i64 a0_2, .string a0_3, .slice A0_4 l0_4.length c0_4]) (t := 108) ?hr ?_; (case hd => rfl); (case hg => rfl); (case hr => first | (go_simp; done) | (go_simp; rfl)); intro gb101 hg w12 hbox hb; have n0_ := Aside0.mk (below_step (by repeat (first | (with_reducible first | exact HB.out | apply below_alloc | apply pw_below_drewN | apply below_drew1) | exact HB.out)) hb); have n1_ := Aside0.mk (hbox); have n2_ := Aside0.mk ((by rw [hg]; exact (below_size (by repeat (first | (with_reducible first | exact HB.out | apply below_alloc | apply pw_below_drewN | apply below_drew1) | exact HB.out))) : w.heap.size ≤ gb101)); have n3_ := Aside0.mk ((by rw [hg]; exact (below_size (by repeat (first | (with_reducible first | exact HB.out | apply below_alloc | apply pw_below_drewN | apply below_drew1) | exact HB.out))) : w.heap.size ≤ gb101)); clear HB; have HB := n0_; have BK101 := n1_; have GW101 := n2_; have GE101 := n3_; clear n0_ n1_ n2_ n3_; clear hb hbox hg; have hcz13_0 : w12.cell? ⟨gb101, 0, none⟩ = some (.int .i64 a0_0) := (blk_cell BK101.out 0).trans rfl; have hcz13_1 : w12.cell? ⟨gb101, 1, none⟩ = some (.int .i64 a0_1) := (blk_cell BK101.out 1).trans rfl; have hcz13_2 : w12.cell? ⟨gb101, 2, none⟩ = some (.int .i64 a0_2) := (blk_cell BK101.out 2).trans rfl; have hcz13_3 : w12.cell? ⟨gb101, 3, none⟩ = some (.string a0_3) := (blk_cell BK101.out 3).trans rfl; have hcz13_4 : w12.cell? ⟨gb101, 4, none⟩ = some (.slice A0_4 l0_4.length c0_4) := (blk_cell BK101.out 4).trans rfl; have hfz13_0 := blk_frozen BK101.out 0; have hfz13_1 := blk_frozen BK101.out 1; have hfz13_2 := blk_frozen BK101.out 2; have hfz13_3 := blk_frozen BK101.out 3; have hfz13_4 := blk_frozen BK101.out 4) | ((with_reducible refine gate_callee (f := 43) rfl ?_); refine goesL_ (some 9) rfl rfl Try.func43 (by kernel_rfl) rfl #[.int .i64 a0_0, .int .i64 1, .int .i64 (wrap64 (a1 - 1))] rfl (by (try simp only [List.map_toArray, List.map_cons, List.map_nil]); first | done | rfl | (simp only [List.length_drop, List.length_take]; rfl)) ?_; (with_reducible refine (spec_l01In.calls a0_0 1 (wrap64 (a1 - 1)) true _ A3.out).mono ?_); rintro e w' ⟨rfl, ⟨nd, rfl⟩⟩; refine ⟨_, rfl, ?_⟩) | (go_at_call 110; (with_reducible refine (spec_l02Kind.calls a0_1 true _ A5.out).mono ?_); rintro e w' ⟨rfl, ⟨nd, rfl⟩⟩) | (go_at_call 43; (with_reducible refine (spec_l01In.calls a0_2 0 99 true _ A7.out).mono ?_); rintro e w' ⟨rfl, ⟨nd, rfl⟩⟩))
          go_ret
          exact ⟨by first | rfl | (simp [errW_none, errW_some] <;> rfl) | (simp [*, errW_none, errW_some] <;> rfl), by repeat (first | (with_reducible first | exact HB.out | apply below_alloc | apply pw_below_drewN | apply below_drew1 | refine below_set ?_ GE101.out) | exact HB.out)⟩
      · replace c8 := Bool.eq_false_iff.mpr c8
        subst c8
        have H1 : (some false) = some r := by rw [if_neg (show ¬ (false = true) by decide)] at H; exact H
        clear H
        have H := H1
        clear H1
        obtain rfl := Option.some.inj H
        go_enter Try.func114, Try.ntmps114
        go_wp2_with (first | ((with_reducible refine gate_dst (N := 2) rfl ?_); (try (refine gate_guard (by rfl) ?_; dsimp only)); refine box_event ?hg (N := 2) ?hd (cs := #[.int .i64 a0_0, .int .i64 a0_1, .int .i64 a0_2, .string a0_3, .slice A0_4 l0_4.length c0_4]) (t := 108) ?hr ?_; (case hd => rfl); (case hg => rfl); (case hr => first | (go_simp; done) | (go_simp; rfl)); intro gb101 hg w14 hbox hb; have n0_ := Aside0.mk (below_step (by repeat (first | (with_reducible first | exact HB.out | apply below_alloc | apply pw_below_drewN | apply below_drew1) | exact HB.out)) hb); have n1_ := Aside0.mk (hbox); have n2_ := Aside0.mk ((by rw [hg]; exact (below_size (by repeat (first | (with_reducible first | exact HB.out | apply below_alloc | apply pw_below_drewN | apply below_drew1) | exact HB.out))) : w.heap.size ≤ gb101)); have n3_ := Aside0.mk ((by rw [hg]; exact (below_size (by repeat (first | (with_reducible first | exact HB.out | apply below_alloc | apply pw_below_drewN | apply below_drew1) | exact HB.out))) : w.heap.size ≤ gb101)); clear HB; have HB := n0_; have BK101 := n1_; have GW101 := n2_; have GE101 := n3_; clear n0_ n1_ n2_ n3_; clear hb hbox hg; have hcz15_0 : w14.cell? ⟨gb101, 0, none⟩ = some (.int .i64 a0_0) := (blk_cell BK101.out 0).trans rfl; have hcz15_1 : w14.cell? ⟨gb101, 1, none⟩ = some (.int .i64 a0_1) := (blk_cell BK101.out 1).trans rfl; have hcz15_2 : w14.cell? ⟨gb101, 2, none⟩ = some (.int .i64 a0_2) := (blk_cell BK101.out 2).trans rfl; have hcz15_3 : w14.cell? ⟨gb101, 3, none⟩ = some (.string a0_3) := (blk_cell BK101.out 3).trans rfl; have hcz15_4 : w14.cell? ⟨gb101, 4, none⟩ = some (.slice A0_4 l0_4.length c0_4) := (blk_cell BK101.out 4).trans rfl; have hfz15_0 := blk_frozen BK101.out 0; have hfz15_1 := blk_frozen BK101.out 1; have hfz15_2 := blk_frozen BK101.out 2; have hfz15_3 := blk_frozen BK101.out 3; have hfz15_4 := blk_frozen BK101.out 4) | ((with_reducible refine gate_callee (f := 43) rfl ?_); refine goesL_ (some 9) rfl rfl Try.func43 (by kernel_rfl) rfl #[.int .i64 a0_0, .int .i64 1, .int .i64 (wrap64 (a1 - 1))] rfl (by (try simp only [List.map_toArray, List.map_cons, List.map_nil]); first | done | rfl | (simp only [List.length_drop, List.length_take]; rfl)) ?_; (with_reducible refine (spec_l01In.calls a0_0 1 (wrap64 (a1 - 1)) true _ A3.out).mono ?_); rintro e w' ⟨rfl, ⟨nd, rfl⟩⟩; refine ⟨_, rfl, ?_⟩) | (go_at_call 110; (with_reducible refine (spec_l02Kind.calls a0_1 true _ A5.out).mono ?_); rintro e w' ⟨rfl, ⟨nd, rfl⟩⟩) | (go_at_call 43; (with_reducible refine (spec_l01In.calls a0_2 0 99 false _ A7.out).mono ?_); rintro e w' ⟨rfl, ⟨nd, rfl⟩⟩))
        go_ret
        exact ⟨by first | rfl | (simp [errW_none, errW_some] <;> rfl) | (simp [*, errW_none, errW_some] <;> rfl), by repeat (first | (with_reducible first | exact HB.out | apply below_alloc | apply pw_below_drewN | apply below_drew1 | refine below_set ?_ GE101.out) | exact HB.out)⟩
    · replace c6 := Bool.eq_false_iff.mpr c6
      subst c6
      have H1 : (some false) = some r := by rw [if_neg (show ¬ (false = true) by decide)] at H; exact H
      clear H
      have H := H1
      clear H1
      obtain rfl := Option.some.inj H
      go_enter Try.func114, Try.ntmps114
      go_wp2_with (first | ((with_reducible refine gate_dst (N := 2) rfl ?_); (try (refine gate_guard (by rfl) ?_; dsimp only)); refine box_event ?hg (N := 2) ?hd (cs := #[.int .i64 a0_0, .int .i64 a0_1, .int .i64 a0_2, .string a0_3, .slice A0_4 l0_4.length c0_4]) (t := 108) ?hr ?_; (case hd => rfl); (case hg => rfl); (case hr => first | (go_simp; done) | (go_simp; rfl)); intro gb101 hg w16 hbox hb; have n0_ := Aside0.mk (below_step (by repeat (first | (with_reducible first | exact HB.out | apply below_alloc | apply pw_below_drewN | apply below_drew1) | exact HB.out)) hb); have n1_ := Aside0.mk (hbox); have n2_ := Aside0.mk ((by rw [hg]; exact (below_size (by repeat (first | (with_reducible first | exact HB.out | apply below_alloc | apply pw_below_drewN | apply below_drew1) | exact HB.out))) : w.heap.size ≤ gb101)); have n3_ := Aside0.mk ((by rw [hg]; exact (below_size (by repeat (first | (with_reducible first | exact HB.out | apply below_alloc | apply pw_below_drewN | apply below_drew1) | exact HB.out))) : w.heap.size ≤ gb101)); clear HB; have HB := n0_; have BK101 := n1_; have GW101 := n2_; have GE101 := n3_; clear n0_ n1_ n2_ n3_; clear hb hbox hg; have hcz17_0 : w16.cell? ⟨gb101, 0, none⟩ = some (.int .i64 a0_0) := (blk_cell BK101.out 0).trans rfl; have hcz17_1 : w16.cell? ⟨gb101, 1, none⟩ = some (.int .i64 a0_1) := (blk_cell BK101.out 1).trans rfl; have hcz17_2 : w16.cell? ⟨gb101, 2, none⟩ = some (.int .i64 a0_2) := (blk_cell BK101.out 2).trans rfl; have hcz17_3 : w16.cell? ⟨gb101, 3, none⟩ = some (.string a0_3) := (blk_cell BK101.out 3).trans rfl; have hcz17_4 : w16.cell? ⟨gb101, 4, none⟩ = some (.slice A0_4 l0_4.length c0_4) := (blk_cell BK101.out 4).trans rfl; have hfz17_0 := blk_frozen BK101.out 0; have hfz17_1 := blk_frozen BK101.out 1; have hfz17_2 := blk_frozen BK101.out 2; have hfz17_3 := blk_frozen BK101.out 3; have hfz17_4 := blk_frozen BK101.out 4) | ((with_reducible refine gate_callee (f := 43) rfl ?_); refine goesL_ (some 9) rfl rfl Try.func43 (by kernel_rfl) rfl #[.int .i64 a0_0, .int .i64 1, .int .i64 (wrap64 (a1 - 1))] rfl (by (try simp only [List.map_toArray, List.map_cons, List.map_nil]); first | done | rfl | (simp only [List.length_drop, List.length_take]; rfl)) ?_; (with_reducible refine (spec_l01In.calls a0_0 1 (wrap64 (a1 - 1)) true _ A3.out).mono ?_); rintro e w' ⟨rfl, ⟨nd, rfl⟩⟩; refine ⟨_, rfl, ?_⟩) | (go_at_call 110; (with_reducible refine (spec_l02Kind.calls a0_1 false _ A5.out).mono ?_); rintro e w' ⟨rfl, ⟨nd, rfl⟩⟩))
      go_ret
      exact ⟨by first | rfl | (simp [errW_none, errW_some] <;> rfl) | (simp [*, errW_none, errW_some] <;> rfl), by repeat (first | (with_reducible first | exact HB.out | apply below_alloc | apply pw_below_drewN | apply below_drew1 | refine below_set ?_ GE101.out) | exact HB.out)⟩
  · replace c4 := Bool.eq_false_iff.mpr c4
    subst c4
    have H1 : (some false) = some r := by rw [if_neg (show ¬ (false = true) by decide)] at H; exact H
    clear H
    have H := H1
    clear H1
    obtain rfl := Option.some.inj H
    go_enter Try.func114, Try.ntmps114
    go_wp2_with (first | ((with_reducible refine gate_dst (N := 2) rfl ?_); (try (refine gate_guard (by rfl) ?_; dsimp only)); refine box_event ?hg (N := 2) ?hd (cs := #[.int .i64 a0_0, .int .i64 a0_1, .int .i64 a0_2, .string a0_3, .slice A0_4 l0_4.length c0_4]) (t := 108) ?hr ?_; (case hd => rfl); (case hg => rfl); (case hr => first | (go_simp; done) | (go_simp; rfl)); intro gb101 hg w18 hbox hb; have n0_ := Aside0.mk (below_step (by repeat (first | (with_reducible first | exact HB.out | apply below_alloc | apply pw_below_drewN | apply below_drew1) | exact HB.out)) hb); have n1_ := Aside0.mk (hbox); have n2_ := Aside0.mk ((by rw [hg]; exact (below_size (by repeat (first | (with_reducible first | exact HB.out | apply below_alloc | apply pw_below_drewN | apply below_drew1) | exact HB.out))) : w.heap.size ≤ gb101)); have n3_ := Aside0.mk ((by rw [hg]; exact (below_size (by repeat (first | (with_reducible first | exact HB.out | apply below_alloc | apply pw_below_drewN | apply below_drew1) | exact HB.out))) : w.heap.size ≤ gb101)); clear HB; have HB := n0_; have BK101 := n1_; have GW101 := n2_; have GE101 := n3_; clear n0_ n1_ n2_ n3_; clear hb hbox hg; have hcz19_0 : w18.cell? ⟨gb101, 0, none⟩ = some (.int .i64 a0_0) := (blk_cell BK101.out 0).trans rfl; have hcz19_1 : w18.cell? ⟨gb101, 1, none⟩ = some (.int .i64 a0_1) := (blk_cell BK101.out 1).trans rfl; have hcz19_2 : w18.cell? ⟨gb101, 2, none⟩ = some (.int .i64 a0_2) := (blk_cell BK101.out 2).trans rfl; have hcz19_3 : w18.cell? ⟨gb101, 3, none⟩ = some (.string a0_3) := (blk_cell BK101.out 3).trans rfl; have hcz19_4 : w18.cell? ⟨gb101, 4, none⟩ = some (.slice A0_4 l0_4.length c0_4) := (blk_cell BK101.out 4).trans rfl; have hfz19_0 := blk_frozen BK101.out 0; have hfz19_1 := blk_frozen BK101.out 1; have hfz19_2 := blk_frozen BK101.out 2; have hfz19_3 := blk_frozen BK101.out 3; have hfz19_4 := blk_frozen BK101.out 4) | ((with_reducible refine gate_callee (f := 43) rfl ?_); refine goesL_ (some 9) rfl rfl Try.func43 (by kernel_rfl) rfl #[.int .i64 a0_0, .int .i64 1, .int .i64 (wrap64 (a1 - 1))] rfl (by (try simp only [List.map_toArray, List.map_cons, List.map_nil]); first | done | rfl | (simp only [List.length_drop, List.length_take]; rfl)) ?_; (with_reducible refine (spec_l01In.calls a0_0 1 (wrap64 (a1 - 1)) false _ A3.out).mono ?_); rintro e w' ⟨rfl, ⟨nd, rfl⟩⟩; refine ⟨_, rfl, ?_⟩))
    go_ret
    exact ⟨by first | rfl | (simp [errW_none, errW_some] <;> rfl) | (simp [*, errW_none, errW_some] <;> rfl), by repeat (first | (with_reducible first | exact HB.out | apply below_alloc | apply pw_below_drewN | apply below_drew1 | refine below_set ?_ GE101.out) | exact HB.out)⟩
def spec_l02Has.l0 : Nat → List Int → Int → Int → Option (Bool)
  | 0, _, _, _ => none
  | k + 1, x0, x1, x5 => if x5 < (x0.length : Int) then (if 0 ≤ x5 then (if (rd x0 x5) = x1 then (some true) else (spec_l02Has.l0 k x0 x1 (wrap64 (x5 + 1)))) else (none)) else (some false)
def spec_l02Has.f (k : Nat) (l0 : List Int) (a1 : Int) : Option (Bool) := spec_l02Has.l0 k l0 a1 0
theorem spec_l02Has.mono_l : ∀ k, (∀ y0 y1 y2, LeO (spec_l02Has.l0 k y0 y1 y2) (spec_l02Has.l0 (k + 1) y0 y1 y2))
  | 0 => fun _ _ _ r h => by simp [spec_l02Has.l0] at h
  | k + 1 => by
    have ih0 := spec_l02Has.mono_l k
    · intro y0 y1 y2
      unfold spec_l02Has.l0
      repeat' first
      | (with_reducible exact ih0 _ _ _)
      | (with_reducible exact LeO.refl _)
      | (with_reducible exact LeO.none _)
      | (with_reducible refine LeO.ite ?_ ?_)
      | (with_reducible refine LeO.bind ?_ (fun _ => ?_))
      | exact ih0 _ _ _
      | exact LeO.none _
      | refine LeO.ite ?_ ?_
      | refine LeO.bind ?_ (fun _ => ?_)
theorem spec_l02Has.mono : ∀ a0 a1 k, LeO (spec_l02Has.f k a0 a1) (spec_l02Has.f (k + 1) a0 a1) := by
  intro a0 a1 k
  have ih0 := spec_l02Has.mono_l k
  unfold spec_l02Has.f
  repeat' first
      | (with_reducible exact ih0 _ _ _)
      | (with_reducible exact LeO.refl _)
      | (with_reducible exact LeO.none _)
      | (with_reducible refine LeO.ite ?_ ?_)
      | (with_reducible refine LeO.bind ?_ (fun _ => ?_))
      | exact ih0 _ _ _
      | exact LeO.none _
      | refine LeO.ite ?_ ?_
      | refine LeO.bind ?_ (fun _ => ?_)
set_option maxHeartbeats 8000000 in
set_option maxRecDepth 100000 in
theorem spec_l02Has.calls (k : Nat) (A0 : Option Addr) (c0 : Nat) (l0 : List Int) (a1 : Int) (r : Bool) (w : World) (hr0 : Kd.C (Kd.int .i64) w A0 l0.length l0) (hc0 : l0.length ≤ c0) (h : spec_l02Has.f k l0 a1 = some r) :
    Calls Try.prog 115 #[.slice A0 l0.length c0, .int .i64 a1] w fun e w' => e = .returned (.bool r) ∧ Drawn0 w w' := by
  have HR0 := Aside0.mk hr0
  have HC0 := Aside0.mk hc0
  clear hr0 hc0
  have H : (spec_l02Has.l0 k l0 a1 0) = some r := h
  clear h
  have H' := Aside0.mk H
  clear H
  go_enter Try.func115, Try.ntmps115
  go_wp2
  go_loopg [5] k (fun kq v5 w' => ∃ (x5_1 : Int), v5 = .int .i64 x5_1 ∧ Aside0 (spec_l02Has.l0 kq l0 a1 x5_1 = some r) ∧ Aside0 (kq ≤ k) ∧ Drawn0 w w')
  case atStart => exact ⟨(0), (by first | rfl | (simp; done) | (simp [*]; done)), H', ⟨Nat.le_refl _⟩, by repeat (first | exact Drawn0.refl _ | apply Drawn0.step)⟩
  case round =>
    clear H'
    try clear c1
    try clear p2
    obtain ⟨x5_1, rfl, HA, HK1, ⟨m1, rfl⟩⟩ := hrel
    cases gk with
    | zero => exact absurd HA.out (by simp [spec_l02Has.l0])
    | succ k1 =>
      have H := HA.out
      clear HA
      simp only [spec_l02Has.l0] at H
      by_cases c3 : x5_1 < (l0.length : Int)
      · rw [if_pos c3] at H
        have c3b0 : decide (x5_1 < (l0.length : Int)) = true := decide_eq_true c3
        clear c3
        by_cases c4 : 0 ≤ x5_1
        · rw [if_pos c4] at H
          have c4b0 : decide (0 ≤ x5_1) = true := decide_eq_true c4
          clear c4
          by_cases c5 : (rd l0 x5_1) = a1
          · rw [if_pos c5] at H
            have c5b0 : ((rd l0 x5_1) == a1) = true := beq_iff_eq.mpr c5
            have c5b1 : ((rd l0 x5_1) != a1) = false := bne_eq_false_iff_eq.mpr c5
            clear c5
            obtain rfl := Option.some.inj H
            have p105 : 0 ≤ (x5_1 : Int) := of_decide_eq_true (by first | (with_reducible assumption) | assumption)
            have q105 : x5_1 < (l0.length : Int) := of_decide_eq_true (by first | (with_reducible assumption) | assumption)
            obtain ⟨ad105, e105, hx105_0⟩ := Kd.at_int HR0.out x5_1 p105 q105
            cases e105
            replace p105 := eq_true p105
            replace q105 := eq_true q105
            go_wp2
            go_ret
            exact ⟨by first | rfl | (simp; done) | (simp [*]; done), by repeat (first | exact Drawn0.refl _ | apply Drawn0.step)⟩
          · rw [if_neg c5] at H
            have c5b0 : ((rd l0 x5_1) == a1) = false := beq_eq_false_iff_ne.mpr c5
            have c5b1 : ((rd l0 x5_1) != a1) = true := bne_iff_ne.mpr c5
            have H' := Aside0.mk H
            clear H
            have p105 : 0 ≤ (x5_1 : Int) := of_decide_eq_true (by first | (with_reducible assumption) | assumption)
            have q105 : x5_1 < (l0.length : Int) := of_decide_eq_true (by first | (with_reducible assumption) | assumption)
            obtain ⟨ad105, e105, hx105_0⟩ := Kd.at_int HR0.out x5_1 p105 q105
            cases e105
            replace p105 := eq_true p105
            replace q105 := eq_true q105
            go_wp2
            go_roundg k1
            case measure => have := HK1.out; omega
            case rel => exact ⟨(wrap64 (x5_1 + 1)), (by first | rfl | (simp; done) | (simp [*]; done)), H', ⟨by have := HK1.out; omega⟩, by repeat (first | exact Drawn0.refl _ | apply Drawn0.step)⟩
        · rw [if_neg c4] at H
          exact absurd H (by simp)
      · rw [if_neg c3] at H
        have c3b0 : decide (x5_1 < (l0.length : Int)) = false := decide_eq_false c3
        clear c3
        obtain rfl := Option.some.inj H
        go_wp2
        go_ret
        exact ⟨by first | rfl | (simp; done) | (simp [*]; done), by repeat (first | exact Drawn0.refl _ | apply Drawn0.step)⟩
def spec_l02At.l0 : Nat → Int → Int → Int → Int → List (S108) → Option (Int)
  | 0, _, _, _, _, _ => none
  | k + 1, x1, x5, x107000, x107001, x107002 => if x5 < (x107002.length : Int) then (if 0 ≤ x5 then (if ((rd_T108 x107002 x5).f0) = x1 then (some x5) else (spec_l02At.l0 k x1 (wrap64 (x5 + 1)) x107000 x107001 x107002)) else (none)) else (some (-1))
def spec_l02At.f (k : Nat) (a0_0 : Int) (a0_1 : Int) (l0_2 : List (S108)) (a1 : Int) : Option (Int) := spec_l02At.l0 k a1 0 a0_0 a0_1 l0_2
theorem spec_l02At.mono_l : ∀ k, (∀ y0 y1 y2 y3 y4, LeO (spec_l02At.l0 k y0 y1 y2 y3 y4) (spec_l02At.l0 (k + 1) y0 y1 y2 y3 y4))
  | 0 => fun _ _ _ _ _ r h => by simp [spec_l02At.l0] at h
  | k + 1 => by
    have ih0 := spec_l02At.mono_l k
    · intro y0 y1 y2 y3 y4
      unfold spec_l02At.l0
      repeat' first
      | (with_reducible exact ih0 _ _ _ _ _)
      | (with_reducible exact LeO.refl _)
      | (with_reducible exact LeO.none _)
      | (with_reducible refine LeO.ite ?_ ?_)
      | (with_reducible refine LeO.bind ?_ (fun _ => ?_))
      | exact ih0 _ _ _ _ _
      | exact LeO.none _
      | refine LeO.ite ?_ ?_
      | refine LeO.bind ?_ (fun _ => ?_)
theorem spec_l02At.mono : ∀ a0 a1 a2 a3 k, LeO (spec_l02At.f k a0 a1 a2 a3) (spec_l02At.f (k + 1) a0 a1 a2 a3) := by
  intro a0 a1 a2 a3 k
  have ih0 := spec_l02At.mono_l k
  unfold spec_l02At.f
  repeat' first
      | (with_reducible exact ih0 _ _ _ _ _)
      | (with_reducible exact LeO.refl _)
      | (with_reducible exact LeO.none _)
      | (with_reducible refine LeO.ite ?_ ?_)
      | (with_reducible refine LeO.bind ?_ (fun _ => ?_))
      | exact ih0 _ _ _ _ _
      | exact LeO.none _
      | refine LeO.ite ?_ ?_
      | refine LeO.bind ?_ (fun _ => ?_)
set_option maxHeartbeats 8000000 in
set_option maxRecDepth 100000 in
theorem spec_l02At.calls (k : Nat) (a0_0 : Int) (a0_1 : Int) (A0_2 : Option Addr) (c0_2 : Nat) (l0_2 : List (S108)) (a1 : Int) (r : Int) (w : World) (hr0_2 : Kd.C k108 w A0_2 l0_2.length l0_2) (hc0_2 : l0_2.length ≤ c0_2) (h : spec_l02At.f k a0_0 a0_1 l0_2 a1 = some r) :
    Calls Try.prog 116 #[.agg #[.int .i64 a0_0, .int .i64 a0_1, .slice A0_2 l0_2.length c0_2], .int .i64 a1] w fun e w' => e = .returned (.int .i64 r) ∧ Below w.heap.size w w' := by
  have hu56 := Try.underlying56
  have HR0_2 := Aside0.mk hr0_2
  have HC0_2 := Aside0.mk hc0_2
  clear hr0_2 hc0_2
  have HB := Aside0.mk (Below.refl w.heap.size w)
  have H : (spec_l02At.l0 k a1 0 a0_0 a0_1 l0_2) = some r := h
  clear h
  have H' := Aside0.mk H
  clear H
  go_enter Try.func116, Try.ntmps116
  go_wp2_with (first | ((with_reducible refine gate_dst (N := 2) rfl ?_); refine box_event ?hg (N := 2) ?hd (cs := #[.int .i64 a0_0, .int .i64 a0_1, .slice A0_2 l0_2.length c0_2]) (t := 56) ?hr ?_; (case hd => rfl); (case hg => rfl); (case hr => first | (go_simp; done) | (go_simp; rfl)); intro gb106 hg w3 hbox hb; have n0_ := Aside0.mk (below_step (by repeat (first | (with_reducible first | exact HB.out | apply below_alloc | apply pw_below_drewN | apply below_drew1) | exact HB.out)) hb); have n1_ := Aside0.mk (hbox); have n2_ := Aside0.mk ((by rw [hg]; exact (below_size (by repeat (first | (with_reducible first | exact HB.out | apply below_alloc | apply pw_below_drewN | apply below_drew1) | exact HB.out))) : w.heap.size ≤ gb106)); have n3_ := Aside0.mk ((by rw [hg]; exact (below_size (by repeat (first | (with_reducible first | exact HB.out | apply below_alloc | apply pw_below_drewN | apply below_drew1) | exact HB.out))) : w.heap.size ≤ gb106)); clear HB; have HB := n0_; have BK106 := n1_; have GW106 := n2_; have GE106 := n3_; clear n0_ n1_ n2_ n3_; clear hb hbox hg))
  go_loopg [5] k (fun kq v5 w' => ∃ (x5_1 : Int), v5 = .int .i64 x5_1 ∧ Aside0 (spec_l02At.l0 kq a1 x5_1 a0_0 a0_1 l0_2 = some r) ∧ Aside0 (kq ≤ k) ∧ Aside0 (w'.heap[gb106]? = some (.cells #[.int .i64 a0_0, .int .i64 a0_1, (.slice A0_2 l0_2.length c0_2)] 56 (0, 0))) ∧ Aside0 (Below w.heap.size w w'))
  case atStart => exact ⟨(0), (by first | rfl | (simp; done) | (simp [*]; done)), H', ⟨Nat.le_refl _⟩, ⟨by (with_reducible repeat (first | refine blk_drewN ?_ _ | refine blk_drew ?_ | refine blk_alloc ?_ _)); exact BK106.out⟩, ⟨by repeat (first | (with_reducible first | exact HB.out | apply below_alloc | apply pw_below_drewN | apply below_drew1 | refine below_set ?_ GE106.out) | exact HB.out)⟩⟩
  case round =>
    clear H'
    try clear c1
    try clear p2
    obtain ⟨x5_1, rfl, HA, HK1, BK106, HB⟩ := hrel
    cases gk with
    | zero => exact absurd HA.out (by simp [spec_l02At.l0])
    | succ k1 =>
      have H := HA.out
      clear HA
      simp only [spec_l02At.l0] at H
      by_cases c4 : x5_1 < (l0_2.length : Int)
      · rw [if_pos c4] at H
        have c4b0 : decide (x5_1 < (l0_2.length : Int)) = true := decide_eq_true c4
        clear c4
        by_cases c5 : 0 ≤ x5_1
        · rw [if_pos c5] at H
          have c5b0 : decide (0 ≤ x5_1) = true := decide_eq_true c5
          clear c5
          by_cases c6 : ((rd_T108 l0_2 x5_1).f0) = a1
          · rw [if_pos c6] at H
            have c6b0 : (((rd_T108 l0_2 x5_1).f0) == a1) = true := beq_iff_eq.mpr c6
            have c6b1 : (((rd_T108 l0_2 x5_1).f0) != a1) = false := bne_eq_false_iff_eq.mpr c6
            clear c6
            obtain rfl := Option.some.inj H
            have hcz7_0 : wr.cell? ⟨gb106, 0, none⟩ = some (.int .i64 a0_0) := (blk_cell BK106.out 0).trans rfl
            have hcz7_1 : wr.cell? ⟨gb106, 1, none⟩ = some (.int .i64 a0_1) := (blk_cell BK106.out 1).trans rfl
            have hcz7_2 : wr.cell? ⟨gb106, 2, none⟩ = some (.slice A0_2 l0_2.length c0_2) := (blk_cell BK106.out 2).trans rfl
            have hfz7_0 := blk_frozen BK106.out 0
            have hfz7_1 := blk_frozen BK106.out 1
            have hfz7_2 := blk_frozen BK106.out 2
            have p107 : 0 ≤ (x5_1 : Int) := of_decide_eq_true (by first | (with_reducible assumption) | assumption)
            have q107 : x5_1 < (l0_2.length : Int) := of_decide_eq_true (by first | (with_reducible assumption) | assumption)
            obtain ⟨ad107, A107_4, c107_4, e107, hx107_0, hx107_1, hx107_2, hx107_3, hx107_4, hl107_4, hi107_4⟩ := at_T108 HR0_2.out x5_1 p107 q107
            cases e107
            replace hx107_0 := (HB.out.cell (World.block_lt_of_cell? w _ hx107_0)).trans hx107_0
            replace hx107_1 := (HB.out.cell (World.block_lt_of_cell? w _ hx107_1)).trans hx107_1
            replace hx107_2 := (HB.out.cell (World.block_lt_of_cell? w _ hx107_2)).trans hx107_2
            replace hx107_3 := (HB.out.cell (World.block_lt_of_cell? w _ hx107_3)).trans hx107_3
            replace hx107_4 := (HB.out.cell (World.block_lt_of_cell? w _ hx107_4)).trans hx107_4
            have HR107_4 := Aside0.mk hi107_4
            have HC107_4 := Aside0.mk hl107_4
            clear hi107_4 hl107_4
            replace p107 := eq_true p107
            replace q107 := eq_true q107
            go_wp2
            go_ret
            exact ⟨by first | rfl | (simp [errW_none, errW_some] <;> rfl) | (simp [*, errW_none, errW_some] <;> rfl), by repeat (first | (with_reducible first | exact HB.out | apply below_alloc | apply pw_below_drewN | apply below_drew1 | refine below_set ?_ GE106.out) | exact HB.out)⟩
          · rw [if_neg c6] at H
            have c6b0 : (((rd_T108 l0_2 x5_1).f0) == a1) = false := beq_eq_false_iff_ne.mpr c6
            have c6b1 : (((rd_T108 l0_2 x5_1).f0) != a1) = true := bne_iff_ne.mpr c6
            have H' := Aside0.mk H
            clear H
            have hcz8_0 : wr.cell? ⟨gb106, 0, none⟩ = some (.int .i64 a0_0) := (blk_cell BK106.out 0).trans rfl
            have hcz8_1 : wr.cell? ⟨gb106, 1, none⟩ = some (.int .i64 a0_1) := (blk_cell BK106.out 1).trans rfl
            have hcz8_2 : wr.cell? ⟨gb106, 2, none⟩ = some (.slice A0_2 l0_2.length c0_2) := (blk_cell BK106.out 2).trans rfl
            have hfz8_0 := blk_frozen BK106.out 0
            have hfz8_1 := blk_frozen BK106.out 1
            have hfz8_2 := blk_frozen BK106.out 2
            have p107 : 0 ≤ (x5_1 : Int) := of_decide_eq_true (by first | (with_reducible assumption) | assumption)
            have q107 : x5_1 < (l0_2.length : Int) := of_decide_eq_true (by first | (with_reducible assumption) | assumption)
            obtain ⟨ad107, A107_4, c107_4, e107, hx107_0, hx107_1, hx107_2, hx107_3, hx107_4, hl107_4, hi107_4⟩ := at_T108 HR0_2.out x5_1 p107 q107
            cases e107
            replace hx107_0 := (HB.out.cell (World.block_lt_of_cell? w _ hx107_0)).trans hx107_0
            replace hx107_1 := (HB.out.cell (World.block_lt_of_cell? w _ hx107_1)).trans hx107_1
            replace hx107_2 := (HB.out.cell (World.block_lt_of_cell? w _ hx107_2)).trans hx107_2
            replace hx107_3 := (HB.out.cell (World.block_lt_of_cell? w _ hx107_3)).trans hx107_3
            replace hx107_4 := (HB.out.cell (World.block_lt_of_cell? w _ hx107_4)).trans hx107_4
            have HR107_4 := Aside0.mk hi107_4
            have HC107_4 := Aside0.mk hl107_4
            clear hi107_4 hl107_4
            replace p107 := eq_true p107
            replace q107 := eq_true q107
            go_wp2
            go_roundg k1
            case measure => have := HK1.out; omega
            case rel => exact ⟨(wrap64 (x5_1 + 1)), (by first | rfl | (simp; done) | (simp [*]; done)), H', ⟨by have := HK1.out; omega⟩, ⟨by (with_reducible repeat (first | refine blk_drewN ?_ _ | refine blk_drew ?_ | refine blk_alloc ?_ _)); exact BK106.out⟩, ⟨by repeat (first | (with_reducible first | exact HB.out | apply below_alloc | apply pw_below_drewN | apply below_drew1 | refine below_set ?_ GE106.out) | exact HB.out)⟩⟩
        · rw [if_neg c5] at H
          exact absurd H (by simp)
      · rw [if_neg c4] at H
        have c4b0 : decide (x5_1 < (l0_2.length : Int)) = false := decide_eq_false c4
        clear c4
        obtain rfl := Option.some.inj H
        have hcz9_0 : wr.cell? ⟨gb106, 0, none⟩ = some (.int .i64 a0_0) := (blk_cell BK106.out 0).trans rfl
        have hcz9_1 : wr.cell? ⟨gb106, 1, none⟩ = some (.int .i64 a0_1) := (blk_cell BK106.out 1).trans rfl
        have hcz9_2 : wr.cell? ⟨gb106, 2, none⟩ = some (.slice A0_2 l0_2.length c0_2) := (blk_cell BK106.out 2).trans rfl
        have hfz9_0 := blk_frozen BK106.out 0
        have hfz9_1 := blk_frozen BK106.out 1
        have hfz9_2 := blk_frozen BK106.out 2
        go_wp2
        go_ret
        exact ⟨by first | rfl | (simp [errW_none, errW_some] <;> rfl) | (simp [*, errW_none, errW_some] <;> rfl), by repeat (first | (with_reducible first | exact HB.out | apply below_alloc | apply pw_below_drewN | apply below_drew1 | refine below_set ?_ GE106.out) | exact HB.out)⟩
end Go.Proofs.Ytnppmhijoaeibaa.Q
set_option linter.unusedVariables false
set_option linter.unusedSimpArgs false
namespace Go.Proofs.Ytnppmhijoaeibaa.H
open Go.RowKit Go.Proofs.YtnppmhijoaeibaaW.PrintWords Go.Proofs.YtnppmhijoaeibaaW.PrintLast Go.Proofs.Ytnppmhijoaeibaa.Q
abbrev Nd := S108
abbrev kNd : Kd Nd := k108
abbrev rdN (ns : List Nd) (i : Int) : Nd := rd_T108 ns i
set_option maxHeartbeats 4000000 in
set_option maxRecDepth 100000 in
theorem findCmp (x : Nd) (A : Option Addr) (c : Nat) (id : Int) (w : World) :
    Calls Try.prog 124 #[.agg #[.int .i64 x.f0, .int .i64 x.f1, .int .i64 x.f2, .string x.f3, .slice A x.f4.length c], .int .i64 id] w fun e w' => e = .returned (.int .i64 (wrap64 (x.f0 - id))) ∧ Below w.heap.size w w' := by
  have hu := Try.underlying108
  go_enter Try.func124, Try.ntmps124
  go_wp2_with (first | ((with_reducible refine gate_dst (N := 2) rfl ?_); refine box_event ?hg (N := 2) ?hd (cs := #[.int .i64 x.f0, .int .i64 x.f1, .int .i64 x.f2, .string x.f3, .slice A x.f4.length c]) (t := 108) ?hr ?_; (case hd => rfl); (case hg => rfl); (case hr => first | (go_simp; done) | (go_simp; rfl)); intro g hg w1 hb1 hB1; clear hg; have hz0 : w1.cell? ⟨g, 0, none⟩ = some (.int .i64 x.f0) := (blk_cell hb1 0).trans rfl))
  go_ret
  exact ⟨rfl, hB1⟩
def Found (ns : List Nd) (id : Int) (i : Nat) (b : Bool) : Prop := (b = true ∧ i < ns.length ∧ (rdN ns i).f0 = id) ∨ (b = false ∧ ∀ t : Nat, t < ns.length → (rdN ns t).f0 ≠ id)
def Sorted (ns : List Nd) : Prop := (∀ a b : Nat, a < b → b < ns.length → (rdN ns a).f0 < (rdN ns b).f0) ∧ ∀ a : Nat, a < ns.length → 1 ≤ (rdN ns a).f0 ∧ (rdN ns a).f0 ≤ 999999
theorem cmp_neg {x id : Int} (h1 : 1 ≤ x) (h2 : x ≤ 999999) (g1 : 1 ≤ id) (g2 : id ≤ 999999) : wrap64 (x - id) < 0 ↔ x < id := by unfold wrap64; omega
theorem cmp_zero {x id : Int} (h1 : 1 ≤ x) (h2 : x ≤ 999999) (g1 : -9223372036854775808 ≤ id) (g2 : id ≤ 9223372036854775807) : wrap64 (x - id) = 0 ↔ x = id := by unfold wrap64; omega
set_option maxHeartbeats 4000000 in
set_option maxRecDepth 100000 in
theorem bsearch (ns : List Nd) (A : Option Addr) (c : Nat) (id : Int) (w : World) (hr : kNd.C w A ns.length ns) (hc : ns.length ≤ c) (hn : ns.length ≤ 4096) (hs : Sorted ns) (g1 : -9223372036854775808 ≤ id) (g2 : id ≤ 9223372036854775807) :
    Calls Try.prog 123 #[.slice A ns.length c, .int .i64 id, .func (.func 124) #[] #[]] w fun e w' => (∃ i b, e = .returned (.tuple #[.int .i64 (i : Nat), .bool b]) ∧ Found ns id i b) ∧ Below w.heap.size w w' := by
  have hu := Try.underlying108
  have HR := Lib.hid hr
  have HN := Lib.hid hn
  have HS := Lib.hid hs
  have G1 := Lib.hid (And.intro g1 g2)
  clear hr hs g1 g2
  go_enter Try.func123, Try.ntmps123
  go_wp2
  go_loopg [9, 10] ns.length (fun kx s9 s10 wr => ∃ lo hi : Nat, s9 = .int .i64 lo ∧ s10 = .int .i64 hi ∧ lo ≤ hi ∧ hi ≤ ns.length ∧ hi - lo ≤ kx ∧ Aside0 (Below w.heap.size w wr) ∧
    Aside0 ((1 ≤ id ∧ id ≤ 999999) → (∀ t : Nat, t < lo → (rdN ns t).f0 < id) ∧ (∀ t : Nat, hi ≤ t → t < ns.length → id ≤ (rdN ns t).f0)))
  case atStart => exact ⟨0, ns.length, rfl, rfl, Nat.zero_le _, Nat.le_refl _, by omega, ⟨Below.refl _ _⟩, ⟨fun _ => ⟨fun t ht => absurd ht (Nat.not_lt_zero _), fun t h1 h2 => by omega⟩⟩⟩
  case round =>
    obtain ⟨lo, hi, rfl, rfl, hlh, hin, hg, HB, I⟩ := hrel
    by_cases hlt : lo < hi
    · obtain ⟨ad, A4, c4, e4, hx0, hx1, hx2, hx3, hx4, hl4, hi4⟩ := at_T108 HR.out (((lo + hi) / 2 : Nat) : Int) (by omega) (by omega)
      cases e4
      replace hx0 := (HB.out.cell (World.block_lt_of_cell? w _ hx0)).trans hx0
      replace hx1 := (HB.out.cell (World.block_lt_of_cell? w _ hx1)).trans hx1
      replace hx2 := (HB.out.cell (World.block_lt_of_cell? w _ hx2)).trans hx2
      replace hx3 := (HB.out.cell (World.block_lt_of_cell? w _ hx3)).trans hx3
      replace hx4 := (HB.out.cell (World.block_lt_of_cell? w _ hx4)).trans hx4
      rw [Int.toNat_natCast] at hx0 hx1 hx2 hx3 hx4
      have ei : ((((lo + hi) / 2 : Nat)) : Int) = ((lo : Int) + (hi : Int)) / 2 := by omega
      obtain ⟨y, hy⟩ : ∃ y, wrap64 ((rd_T108 ns (((lo : Int) + (hi : Int)) / 2)).f0 - id) = y := ⟨_, rfl⟩
      have hcl := findCmp (rd_T108 ns (((lo : Int) + (hi : Int)) / 2)) A4 c4 id wr
      rw [hy] at hcl
      have hm : (lo + hi) / 2 < ns.length := by omega
      have r0 := HS.out.2 ((lo + hi) / 2) hm
      rw [show rdN ns (((lo + hi) / 2 : Nat) : Int) = rd_T108 ns (((lo : Int) + (hi : Int)) / 2) from by rw [← ei]] at r0
      by_cases hyx : y < 0
      · have yb : decide (y < 0) = true := decide_eq_true hyx
        have I2 : Aside0 ((1 ≤ id ∧ id ≤ 999999) → (∀ t : Nat, t < (lo + hi) / 2 + 1 → (rdN ns t).f0 < id) ∧ (∀ t : Nat, hi ≤ t → t < ns.length → id ≤ (rdN ns t).f0)) := ⟨fun gi => ⟨fun t ht => by
          have h1 := (cmp_neg r0.1 r0.2 gi.1 gi.2).1 (by rw [hy]; exact hyx)
          rw [show rd_T108 ns (((lo : Int) + (hi : Int)) / 2) = rdN ns (((lo + hi) / 2 : Nat) : Int) from by rw [← ei]] at h1
          by_cases q : t < (lo + hi) / 2
          · have := HS.out.1 t _ q hm; omega
          · obtain rfl : t = (lo + hi) / 2 := by omega
            exact h1, (I.out gi).2⟩⟩
        have HCL := Lib.hid hcl
        have R0 := Lib.hid r0
        have HY := Lib.hid hy
        clear hcl r0 hy hyx
        go_wp2_with fail
        refine HCL.out.mono ?_
        rintro e w' ⟨rfl, hb⟩
        go_wp2
        go_roundg (hi - ((lo + hi) / 2 + 1))
        case measure => omega
        case rel => exact ⟨(lo + hi) / 2 + 1, hi, by rw [show ((lo : Int) + (hi : Int)) / 2 + 1 = (((lo + hi) / 2 + 1 : Nat) : Int) by omega], rfl, by omega, hin, Nat.le_refl _, ⟨below_step HB.out hb⟩, I2⟩
      · have yb : decide (y < 0) = false := decide_eq_false hyx
        have I2 : Aside0 ((1 ≤ id ∧ id ≤ 999999) → (∀ t : Nat, t < lo → (rdN ns t).f0 < id) ∧ (∀ t : Nat, (lo + hi) / 2 ≤ t → t < ns.length → id ≤ (rdN ns t).f0)) := ⟨fun gi => ⟨(I.out gi).1, fun t ht htn => by
          have h1 : ¬ _ := fun h => hyx (by rw [← hy]; exact (cmp_neg r0.1 r0.2 gi.1 gi.2).2 h)
          rw [show rd_T108 ns (((lo : Int) + (hi : Int)) / 2) = rdN ns (((lo + hi) / 2 : Nat) : Int) from by rw [← ei]] at h1
          by_cases q : (lo + hi) / 2 < t
          · have := HS.out.1 _ t q htn; omega
          · obtain rfl : t = (lo + hi) / 2 := by omega
            omega⟩⟩
        have HCL := Lib.hid hcl
        have R0 := Lib.hid r0
        have HY := Lib.hid hy
        clear hcl r0 hy hyx
        go_wp2_with fail
        refine HCL.out.mono ?_
        rintro e w' ⟨rfl, hb⟩
        go_wp2
        go_roundg ((lo + hi) / 2 - lo)
        case measure => omega
        case rel => exact ⟨lo, (lo + hi) / 2, rfl, by rw [show ((lo : Int) + (hi : Int)) / 2 = (((lo + hi) / 2 : Nat) : Int) by omega], by omega, by omega, Nat.le_refl _, ⟨below_step HB.out hb⟩, I2⟩
    · obtain rfl : hi = lo := by omega
      by_cases hn2 : hi < ns.length
      · obtain ⟨ad, A4, c4, e4, hx0, hx1, hx2, hx3, hx4, hl4, hi4⟩ := at_T108 HR.out (hi : Int) (by omega) (by omega)
        cases e4
        replace hx0 := (HB.out.cell (World.block_lt_of_cell? w _ hx0)).trans hx0
        replace hx1 := (HB.out.cell (World.block_lt_of_cell? w _ hx1)).trans hx1
        replace hx2 := (HB.out.cell (World.block_lt_of_cell? w _ hx2)).trans hx2
        replace hx3 := (HB.out.cell (World.block_lt_of_cell? w _ hx3)).trans hx3
        replace hx4 := (HB.out.cell (World.block_lt_of_cell? w _ hx4)).trans hx4
        rw [Int.toNat_natCast] at hx0 hx1 hx2 hx3 hx4
        obtain ⟨y, hy⟩ : ∃ y, wrap64 ((rd_T108 ns (hi : Int)).f0 - id) = y := ⟨_, rfl⟩
        have hcl := findCmp (rd_T108 ns (hi : Int)) A4 c4 id wr
        rw [hy] at hcl
        have r0 := HS.out.2 hi hn2
        have HCL := Lib.hid hcl
        have cz := cmp_zero r0.1 r0.2 G1.out.1 G1.out.2
        rw [show (rdN ns (hi : Int)).f0 = (rd_T108 ns (hi : Int)).f0 from rfl, hy] at cz
        by_cases hyx : y = 0
        · have yb : (y == 0) = true := beq_iff_eq.mpr hyx
          have FD := Lib.hid (show Found ns id hi true from Or.inl ⟨rfl, hn2, cz.1 hyx⟩)
          clear hcl r0 hy hyx cz
          go_wp2_with fail
          refine HCL.out.mono ?_
          rintro e w' ⟨rfl, hb⟩
          go_wp2
          go_ret2
          exact ⟨⟨hi, true, rfl, FD.out⟩, below_step HB.out hb⟩
        · have yb : (y == 0) = false := beq_eq_false_iff_ne.mpr hyx
          have FD := Lib.hid (show Found ns id hi false from Or.inr ⟨rfl, fun t ht he => by
            have r1 := HS.out.2 t ht
            have gi : 1 ≤ id ∧ id ≤ 999999 := by omega
            have hne : (rdN ns (hi : Int)).f0 ≠ id := fun h => hyx (cz.2 h)
            have i1 := (I.out gi).1
            have i2 := (I.out gi).2 hi (Nat.le_refl _) hn2
            rcases Nat.lt_trichotomy t hi with q | q | q
            · have := i1 t q; omega
            · subst q; exact hne he
            · have := HS.out.1 hi t q ht; omega⟩)
          clear hcl r0 hy hyx cz
          go_wp2_with fail
          refine HCL.out.mono ?_
          rintro e w' ⟨rfl, hb⟩
          go_wp2
          go_ret2
          exact ⟨⟨hi, false, rfl, FD.out⟩, below_step HB.out hb⟩
      · have FD := Lib.hid (show Found ns id hi false from Or.inr ⟨rfl, fun t ht he => by
          have r1 := HS.out.2 t ht
          have gi : 1 ≤ id ∧ id ≤ 999999 := by omega
          have := (I.out gi).1 t (by omega)
          omega⟩)
        go_wp2
        go_ret2
        exact ⟨⟨hi, false, rfl, FD.out⟩, HB.out⟩
end Go.Proofs.Ytnppmhijoaeibaa.H
set_option linter.unusedVariables false
set_option linter.unusedSimpArgs false
namespace Go.Proofs.Ytnppmhijoaeibaa.H
open Go.RowKit Go.Proofs.YtnppmhijoaeibaaW.PrintWords Go.Proofs.YtnppmhijoaeibaaW.PrintLast Go.Proofs.Ytnppmhijoaeibaa.Q
def IsD (w : World) (g : Nat) (root next : Int) (A : Option Addr) (c : Nat) (ns : List Nd) : Prop :=
  w.heap[g]? = some (.cells #[.int .i64 root, .int .i64 next, .slice A ns.length c] 56 (0, 0)) ∧ kNd.C w A ns.length ns ∧ ns.length ≤ c
theorem IsD.below {w w' : World} {g : Nat} {root next : Int} {A : Option Addr} {c : Nat} {ns : List Nd} (h : IsD w g root next A c ns) (hb : Below w.heap.size w w') : IsD w' g root next A c ns :=
  ⟨blk_below h.1 hb, Kd.C_below h.2.1 hb, h.2.2⟩
def Good (ns : List Nd) : Prop := ns.length ≤ 4096 ∧ Sorted ns
def I64 (x : Int) : Prop := -9223372036854775808 ≤ x ∧ x ≤ 9223372036854775807
set_option maxHeartbeats 4000000 in
set_option maxRecDepth 100000 in
theorem find_calls (g : Nat) (root next : Int) (A : Option Addr) (c : Nat) (ns : List Nd) (id : Int) (w : World) (hD : IsD w g root next A c ns) (hG : Good ns) (hi : I64 id) :
    Calls Try.prog 119 #[.pointer (some ⟨g, 0, none⟩), .int .i64 id] w fun e w' =>
      ((∃ (i : Nat) (ad : Addr), A = some ad ∧ i < ns.length ∧ (rdN ns i).f0 = id ∧ e = .returned (.pointer (some (ad.add (i * 5))))) ∨ ((∀ t : Nat, t < ns.length → (rdN ns t).f0 ≠ id) ∧ e = .returned (.pointer none))) ∧ Below w.heap.size w w' := by
  have hu := Try.underlying108
  have hu2 := Try.underlying56
  have HD := Lib.hid hD
  have HG := Lib.hid hG
  have HI := Lib.hid hi
  have hc2 : w.cell? ⟨g, 2, none⟩ = some (.slice A ns.length c) := (blk_cell hD.1 2).trans rfl
  clear hD hG hi
  go_enter Try.func119, Try.ntmps119
  go_wp2_with fail
  refine (bsearch ns A c id w HD.out.2.1 HD.out.2.2 HG.out.1 HG.out.2 HI.out.1 HI.out.2).mono ?_
  rintro e w' ⟨⟨i, b, rfl, hf⟩, hb⟩
  have hD' := HD.out.below hb
  have hz2 : w'.cell? ⟨g, 2, none⟩ = some (.slice A ns.length c) := (blk_cell hD'.1 2).trans rfl
  have HDD := Lib.hid hD'
  have HB := Lib.hid hb
  clear hD' hb hc2
  rcases hf with ⟨rfl, hin, hid⟩ | ⟨rfl, hno⟩
  · obtain ⟨ad, A4, c4, e4, hx0, hx1, hx2, hx3, hx4, hl4, hi4⟩ := at_T108 HDD.out.2.1 (i : Int) (by omega) (by omega)
    have HID := Lib.hid hid
    cases e4
    clear hx0 hx1 hx2 hx3 hx4 hl4 hi4 hid
    go_wp2
    go_ret
    exact ⟨Or.inl ⟨i, ad, rfl, hin, HID.out, rfl⟩, HB.out⟩
  · have HNO := Lib.hid hno
    clear hno
    go_wp2
    go_ret
    exact ⟨Or.inr ⟨HNO.out, rfl⟩, HB.out⟩
def hasP (ns : List Nd) (id : Int) : Bool := ns.any (fun x => x.f0 == id)
theorem rdN_get {ns : List Nd} {t : Nat} (h : t < ns.length) : rdN ns (t : Int) = ns[t] := by
  show ns.getD (t : Int).toNat _ = _
  rw [Int.toNat_natCast, List.getD_eq_getElem?_getD, List.getElem?_eq_getElem h]; rfl
theorem hasP_true {ns : List Nd} {id : Int} {t : Nat} (h : t < ns.length) (h2 : (rdN ns (t : Int)).f0 = id) : hasP ns id = true := by
  rw [rdN_get h] at h2
  exact List.any_eq_true.2 ⟨ns[t], List.getElem_mem h, by simpa using h2⟩
theorem hasP_false {ns : List Nd} {id : Int} (h : ∀ t : Nat, t < ns.length → (rdN ns (t : Int)).f0 ≠ id) : hasP ns id = false := by
  refine List.any_eq_false.2 fun x hx => ?_
  obtain ⟨t, ht, rfl⟩ := List.getElem_of_mem hx
  have := h t ht
  rw [rdN_get ht] at this
  simpa using this
theorem hasP_at {ns : List Nd} {id : Int} (h : hasP ns id = true) : ∃ t : Nat, t < ns.length ∧ (rdN ns (t : Int)).f0 = id := by
  obtain ⟨x, hx, he⟩ := List.any_eq_true.1 h
  obtain ⟨t, ht, rfl⟩ := List.getElem_of_mem hx
  exact ⟨t, ht, by rw [rdN_get ht]; simpa using he⟩
set_option maxHeartbeats 4000000 in
set_option maxRecDepth 100000 in
theorem has_calls (g : Nat) (root next : Int) (A : Option Addr) (c : Nat) (ns : List Nd) (id : Int) (w : World) (hD : IsD w g root next A c ns) (hG : Good ns) (hi : I64 id) :
    Calls Try.prog 98 #[.pointer (some ⟨g, 0, none⟩), .int .i64 id] w fun e w' => e = .returned (.bool (hasP ns id)) ∧ Below w.heap.size w w' := by
  have HD := Lib.hid hD
  have HG := Lib.hid hG
  have HI := Lib.hid hi
  clear hD hG hi
  go_enter Try.func98, Try.ntmps98
  go_wp2_with fail
  refine (find_calls g root next A c ns id w HD.out HG.out HI.out).mono ?_
  rintro e w' ⟨⟨i, ad, rfl, hin, hid, rfl⟩ | ⟨hno, rfl⟩, hb⟩
  · have HF := Lib.hid (hasP_true hin hid)
    clear hin hid HD
    go_wp2
    go_ret
    exact ⟨by rw [HF.out]; rfl, hb⟩
  · have HF := Lib.hid (hasP_false hno)
    clear hno
    go_wp2
    go_ret
    exact ⟨by rw [HF.out]; rfl, hb⟩
end Go.Proofs.Ytnppmhijoaeibaa.H
set_option linter.unusedVariables false
set_option linter.unusedSimpArgs false
namespace Go.Proofs.Ytnppmhijoaeibaa.H
open Go.RowKit Go.Proofs.YtnppmhijoaeibaaW.PrintWords Go.Proofs.YtnppmhijoaeibaaW.PrintLast Go.Proofs.YtnppmhijoaeibaaW.PrintMore Go.Proofs.Ytnppmhijoaeibaa.Q
attribute [local go_sem] max2_int min2_int max_two min_two
def kidsOf (ns : List Nd) (id : Int) : List Int := ((ns.find? (fun x => x.f0 == id)).map (·.f4)).getD []
def KidsIn (ns : List Nd) : Prop := ∀ t : Nat, t < ns.length → (rdN ns (t : Int)).f4.length ≤ 12 ∧ ∀ k ∈ (rdN ns (t : Int)).f4, hasP ns k = true ∧ I64 k
def depP (ns : List Nd) : Nat → Int → Int
  | 0, _ => 0
  | m + 1, id => (kidsOf ns id).foldl (fun d k => mx d (depP ns m k)) 0 + 1
theorem depP_range (ns : List Nd) : ∀ (m : Nat) (id : Int), 0 ≤ depP ns m id ∧ depP ns m id ≤ m
  | 0, _ => ⟨Int.le_refl _, Int.le_refl _⟩
  | m + 1, id => by
    have h : ∀ (l : List Int) (d : Int), 0 ≤ d ∧ d ≤ m → 0 ≤ l.foldl (fun d k => mx d (depP ns m k)) d ∧ l.foldl (fun d k => mx d (depP ns m k)) d ≤ m := by
      intro l
      induction l with
      | nil => intro d hd; exact hd
      | cons k l ih =>
        intro d hd
        refine ih _ ?_
        have := depP_range ns m k
        show 0 ≤ mx d (depP ns m k) ∧ mx d (depP ns m k) ≤ m
        unfold mx
        split <;> omega
    have := h (kidsOf ns id) 0 ⟨Int.le_refl _, by omega⟩
    unfold depP
    omega
theorem kidsOf_at {ns : List Nd} (hs : Sorted ns) {t : Nat} (h : t < ns.length) {id : Int} (he : (rdN ns (t : Int)).f0 = id) : kidsOf ns id = (rdN ns (t : Int)).f4 := by
  unfold kidsOf
  have hex : ns.find? (fun x => x.f0 == id) = some ns[t] := by
    rw [List.find?_eq_some_iff_getElem]
    rw [rdN_get h] at he
    refine ⟨by simpa using he, t, h, rfl, fun j hj => ?_⟩
    have := hs.1 j t hj h
    rw [rdN_get h, rdN_get (by omega)] at this
    simp
    intro hh
    omega
  rw [hex, rdN_get h]; rfl
theorem take_foldl (ns : List Nd) (m : Nat) (l : List Int) (i : Nat) (h : i < l.length) (d : Int) : (l.take (i + 1)).foldl (fun d k => mx d (depP ns m k)) d = mx ((l.take i).foldl (fun d k => mx d (depP ns m k)) d) (depP ns m l[i]) := by
  rw [List.take_add_one, List.getElem?_eq_getElem h, List.foldl_append]; rfl
set_option maxHeartbeats 8000000 in
set_option maxRecDepth 100000 in
theorem depth_calls (g : Nat) (root next : Int) (A : Option Addr) (c : Nat) (ns : List Nd) (hG : Good ns) (hK : KidsIn ns) : ∀ (m : Nat) (id above : Int) (w : World), above = 7 - m → m ≤ 7 → hasP ns id = true → I64 id → IsD w g root next A c ns →
    Calls Try.prog 120 #[.pointer (some ⟨g, 0, none⟩), .int .i64 id, .int .i64 above] w fun e w' => e = .returned (.int .i64 (depP ns m id)) ∧ Below w.heap.size w w' := by
  intro m
  induction m with
  | zero =>
    intro id above w ha hm hh hi hD
    obtain rfl : above = 7 := by omega
    clear hD hK ha
    go_enter Try.func120, Try.ntmps120
    go_wp2
    go_ret
    exact ⟨rfl, Below.refl _ _⟩
  | succ m ih =>
    intro id above w ha hm hh hi hD
    have hu := Try.underlying108
    have ab : decide (above > 6) = false := decide_eq_false (by omega)
    have ab2 : decide (6 < above) = false := decide_eq_false (by omega)
    have ab3 : (6 < above) = False := eq_false (by omega)
    have haw : wrap64 (above + 1) = above + 1 := by unfold wrap64; omega
    have HA := Lib.hid (show above + 1 = 7 - m by omega)
    have HM := Lib.hid hm
    have HH := Lib.hid hh
    have HI := Lib.hid hi
    have HD := Lib.hid hD
    have HG := Lib.hid hG
    have HK := Lib.hid hK
    have IH := Lib.hid ih
    clear ha hm hh hi hD hG hK ih
    go_enter Try.func120, Try.ntmps120
    go_wp2_with fail
    refine (find_calls g root next A c ns id w HD.out HG.out HI.out).mono ?_
    rintro e w1 ⟨⟨t, ad, rfl, hin, hid, rfl⟩ | ⟨hno, rfl⟩, hb⟩
    case inr => exact absurd HH.out (by rw [hasP_false hno]; decide)
    have HD1 := Lib.hid (HD.out.below hb)
    have HB1 := Lib.hid hb
    obtain ⟨ad', A4, c4, e4, hx0, hx1, hx2, hx3, hx4, hl4, hi4⟩ := at_T108 HD1.out.2.1 (t : Int) (by omega) (by omega)
    cases e4
    rw [Int.toNat_natCast] at hx0 hx1 hx2 hx3 hx4
    have HKS := Lib.hid (kidsOf_at HG.out.2 hin hid)
    have HKI := Lib.hid (HK.out t hin)
    have HT : (rdN ns (t : Int)).f4.length = (rd_T108 ns (t : Int)).f4.length := rfl
    have H4 := Lib.hid hi4
    have HL4 := Lib.hid hl4
    have HDP := Lib.hid (show depP ns (m + 1) id = (rd_T108 ns (t : Int)).f4.foldl (fun d k => mx d (depP ns m k)) 0 + 1 from by
      show (kidsOf ns id).foldl _ 0 + 1 = _
      rw [HKS.out])
    have HKI2 := Lib.hid (show ∀ k ∈ (rd_T108 ns (t : Int)).f4, hasP ns k = true ∧ I64 k from HKI.out.2)
    have HK12 := Lib.hid (show (rd_T108 ns (t : Int)).f4.length ≤ 12 from HKI.out.1)
    clear hb hi4 hl4 hid HT HKS HKI
    generalize (rd_T108 ns (t : Int)).f4 = ks at *
    generalize (rd_T108 ns (t : Int)).f0 = q0 at *
    generalize (rd_T108 ns (t : Int)).f1 = q1 at *
    generalize (rd_T108 ns (t : Int)).f2 = q2 at *
    generalize (rd_T108 ns (t : Int)).f3 = q3 at *
    go_wp2
    go_loopg [7, 19] ks.length (fun kx s7 s19 wr => ∃ i : Nat, s19 = .int .i64 i ∧ s7 = .int .i64 ((ks.take i).foldl (fun d k => mx d (depP ns m k)) 0) ∧ i ≤ ks.length ∧ ks.length - i ≤ kx ∧ Aside0 (Below w1.heap.size w1 wr))
    case atStart => exact ⟨0, rfl, rfl, Nat.zero_le _, by omega, ⟨Below.refl _ _⟩⟩
    case round =>
      obtain ⟨i, rfl, rfl, hil, hg, HB⟩ := hrel
      by_cases hlt : i < ks.length
      · obtain ⟨ak, ek, hk0⟩ := Kd.at_int H4.out (i : Int) (by omega) (by omega)
        cases ek
        replace hk0 := (HB.out.cell (World.block_lt_of_cell? w1 _ hk0)).trans hk0
        rw [Int.toNat_natCast] at hk0
        have hki := HKI2.out (ks[i]) (List.getElem_mem hlt)
        have hrd : rd ks (i : Int) = ks[i] := by unfold rd; rw [Int.toNat_natCast, List.getD_eq_getElem?_getD, List.getElem?_eq_getElem hlt]; rfl
        have TF := Lib.hid (take_foldl ns m ks i hlt 0)
        rw [hrd] at hk0
        have HKI3 := Lib.hid hki
        clear hki hrd
        generalize hkk : ks[i] = kk at *
        generalize hff : (ks.take i).foldl (fun d k => mx d (depP ns m k)) 0 = ff at *
        clear hkk hff
        obtain ⟨dd, hdd⟩ : ∃ dd, depP ns m kk = dd := ⟨_, rfl⟩
        go_wp2_with fail
        refine (IH.out kk (above + 1) wr HA.out (by have := HM.out; omega) HKI3.out.1 HKI3.out.2 (HD1.out.below HB.out)).mono ?_
        rw [hdd]
        rintro e w2 ⟨rfl, hb2⟩
        obtain ⟨xx, hxx⟩ : ∃ xx, (if ff < dd then dd else ff) = xx := ⟨_, rfl⟩
        go_wp2
        go_roundg (ks.length - (i + 1))
        case measure => omega
        case rel =>
          exact ⟨i + 1, by rw [show ((i + 1 : Nat) : Int) = (i : Int) + 1 by omega, show wrap64 ((i : Int) + 1) = (i : Int) + 1 from by have := HK12.out; exact wid (by omega) (by omega)], by rw [TF.out, hdd]; exact congrArg _ hxx.symm, by omega, Nat.le_refl _, ⟨below_step HB.out hb2⟩⟩
      · obtain rfl : i = ks.length := by omega
        rw [List.take_length]
        have hr := depP_range ns (m + 1) id
        rw [HDP.out] at hr
        have HM' := HM.out
        generalize hff : ks.foldl (fun d k => mx d (depP ns m k)) 0 = ff at *
        have hw : wrap64 (ff + 1) = ff + 1 := by unfold wrap64; omega
        have HFF := Lib.hid hff
        clear hr hff
        go_wp2
        go_ret
        exact ⟨by show Ending.returned (Value.int _ (wrap64 (ff + 1))) = _; rw [hw, HDP.out], below_step HB1.out HB.out⟩
set_option maxHeartbeats 4000000 in
set_option maxRecDepth 100000 in
theorem isDeep_calls (g : Nat) (root next : Int) (A : Option Addr) (c : Nat) (ns : List Nd) (hG : Good ns) (hK : KidsIn ns) (w : World) (hh : hasP ns root = true) (hi : I64 root) (hD : IsD w g root next A c ns) :
    Calls Try.prog 99 #[.pointer (some ⟨g, 0, none⟩)] w fun e w' => e = .returned (.bool (decide (depP ns 7 root > 6))) ∧ Below w.heap.size w w' := by
  have HD := Lib.hid hD
  have hc0 : w.cell? ⟨g, 0, none⟩ = some (.int .i64 root) := (blk_cell hD.1 0).trans rfl
  have HG := Lib.hid hG
  have HK := Lib.hid hK
  have HH := Lib.hid hh
  have HI := Lib.hid hi
  clear hD hG hK hh hi
  obtain ⟨dd, hdd⟩ : ∃ dd, depP ns 7 root = dd := ⟨_, rfl⟩
  go_enter Try.func99, Try.ntmps99
  go_wp2_with fail
  refine (depth_calls g root next A c ns HG.out HK.out 7 root 0 w (by decide) (by decide) HH.out HI.out HD.out).mono ?_
  rw [hdd]
  rintro e w2 ⟨rfl, hb2⟩
  go_wp2
  go_ret
  exact ⟨by first | rfl | simp [hdd], hb2⟩
end Go.Proofs.Ytnppmhijoaeibaa.H
set_option linter.unusedVariables false
set_option linter.unusedSimpArgs false
namespace Go.Proofs.Ytnppmhijoaeibaa.H
open Go.RowKit Go.Proofs.YtnppmhijoaeibaaW.PrintWords Go.Proofs.YtnppmhijoaeibaaW.PrintLast Go.Proofs.YtnppmhijoaeibaaW.PrintMore Go.Proofs.Ytnppmhijoaeibaa.Q
theorem infoI : (Try.prog.info? 3).map (fun i => (i.zero, i.size, i.bytes)) = some (some (.int .i64 0), 1, 8) := by kernel_rfl
def Fits (ns : List Nd) : Nat → Int → Prop
  | 0, _ => False
  | m + 1, id => ∀ k ∈ kidsOf ns id, Fits ns m k
def ordP (ns : List Nd) : Nat → Int → List Int
  | 0, _ => []
  | m + 1, id => id :: (kidsOf ns id).flatMap (ordP ns m)
def Kids12 (ns : List Nd) : Prop := ∀ id, (kidsOf ns id).length ≤ 12
theorem kids12 {ns : List Nd} (hK : KidsIn ns) : Kids12 ns := by
  intro id
  unfold kidsOf
  cases h : ns.find? (fun x => x.f0 == id) with
  | none => simp
  | some x =>
    obtain ⟨t, ht, rfl⟩ := List.getElem_of_mem (List.mem_of_find?_eq_some h)
    have := (hK t ht).1
    rw [rdN_get ht] at this
    exact this
theorem flat_len {f : Int → List Int} {p : Nat} (hf : ∀ k, (f k).length ≤ p) : ∀ l : List Int, (l.flatMap f).length ≤ l.length * p
  | [] => by simp
  | k :: l => by
    have h1 := hf k
    have h2 := flat_len hf l
    rw [List.flatMap_cons, List.length_append, List.length_cons, Nat.succ_mul]; omega
theorem ordP_len {ns : List Nd} (h12 : Kids12 ns) : ∀ (m : Nat) (id : Int), (ordP ns m id).length ≤ 13 ^ m
  | 0, _ => by simp [ordP]
  | m + 1, id => by
    have h1 := flat_len (ordP_len h12 m) (kidsOf ns id)
    have h2 := Nat.mul_le_mul_right (13 ^ m) (h12 id)
    have h3 : 1 ≤ 13 ^ m := Nat.one_le_pow _ _ (by decide)
    rw [ordP, List.length_cons, Nat.pow_succ]
    omega
theorem depP_fits {ns : List Nd} : ∀ (m : Nat) (id : Int), depP ns (m + 1) id ≤ m → Fits ns m id
  | 0, id, h => by
    have : (kidsOf ns id).foldl (fun d k => mx d (depP ns 0 k)) 0 + 1 ≤ ((0 : Nat) : Int) := h
    have h0 : ∀ (l : List Int) (d : Int), 0 ≤ d → 0 ≤ l.foldl (fun d k => mx d (depP ns 0 k)) d := by
      intro l
      induction l with
      | nil => intro d hd; exact hd
      | cons k l ih => intro d hd; refine ih _ ?_; show 0 ≤ mx d 0; unfold mx; split <;> omega
    have := h0 (kidsOf ns id) 0 (Int.le_refl _)
    omega
  | m + 1, id, h => by
    intro k hk
    refine depP_fits m k ?_
    have h1 : (kidsOf ns id).foldl (fun d k => mx d (depP ns (m + 1) k)) 0 + 1 ≤ ((m + 1 : Nat) : Int) := h
    have h0 : ∀ (l : List Int) (d : Int), d ≤ l.foldl (fun d k => mx d (depP ns (m + 1) k)) d ∧ ∀ k ∈ l, depP ns (m + 1) k ≤ l.foldl (fun d k => mx d (depP ns (m + 1) k)) d := by
      intro l
      induction l with
      | nil => intro d; exact ⟨Int.le_refl _, by simp⟩
      | cons a l ih =>
        intro d
        have h2 := ih (mx d (depP ns (m + 1) a))
        have h3 : d ≤ mx d (depP ns (m + 1) a) ∧ depP ns (m + 1) a ≤ mx d (depP ns (m + 1) a) := by unfold mx; split <;> omega
        refine ⟨Int.le_trans h3.1 h2.1, fun x hx => ?_⟩
        rcases List.mem_cons.1 hx with rfl | hx
        · exact Int.le_trans h3.2 h2.1
        · exact h2.2 x hx
    have := (h0 (kidsOf ns id) 0).2 k hk
    omega
theorem take_flat {f : Int → List Int} (l : List Int) (i : Nat) (h : i < l.length) : (l.take (i + 1)).flatMap f = (l.take i).flatMap f ++ f l[i] := by
  rw [List.take_add_one, List.getElem?_eq_getElem h, List.flatMap_append]; simp
set_option maxHeartbeats 8000000 in
set_option maxRecDepth 100000 in
theorem order_calls (g : Nat) (root next : Int) (A : Option Addr) (c : Nat) (ns : List Nd) (hG : Good ns) (hK : KidsIn ns) (w0 : World) (hC : kNd.C w0 A ns.length ns) (hc : ns.length ≤ c) : ∀ (m : Nat) (id : Int) (v : Value) (xs : List Int) (w : World), Fits ns m id → hasP ns id = true → I64 id →
    Below w0.heap.size w0 w → w.heap[g]? = some (.cells #[.int .i64 root, .int .i64 next, .slice A ns.length c] 56 (0, 0)) → (Kd.int .i64).R 3 w w0.heap.size (fun _ => True) v xs → xs.length + 13 ^ m ≤ 1000000000 →
    Calls Try.prog 100 #[.pointer (some ⟨g, 0, none⟩), v, .int .i64 id] w fun e w' => ∃ v1, e = .returned v1 ∧ (Kd.int .i64).R 3 w' w0.heap.size (fun _ => True) v1 (xs ++ ordP ns m id) ∧ Below w0.heap.size w0 w' ∧ w'.heap[g]? = some (.cells #[.int .i64 root, .int .i64 next, .slice A ns.length c] 56 (0, 0)) := by
  intro m
  induction m with
  | zero => intro id v xs w h; exact h.elim
  | succ m ih =>
    intro id v xs w hf hh hi hb hbk hr hl
    have hu := Try.underlying108
    have HC := Lib.hid hC
    have HG := Lib.hid hG
    have HK := Lib.hid hK
    have HF := Lib.hid hf
    have HH := Lib.hid hh
    have HI := Lib.hid hi
    have HB := Lib.hid hb
    have BK := Lib.hid hbk
    have HR := Lib.hid hr
    have HL := Lib.hid hl
    have IH := Lib.hid ih
    clear hG hK hC hf hh hi hb hbk hr hl ih
    have HS := Lib.hid HB.out.size
    have hp1 : 1 ≤ 13 ^ m := Nat.one_le_pow _ _ (by decide)
    have hxl : xs.length ≤ 1000000000 := by have := HL.out; rw [Nat.pow_succ] at this; omega
    have HX := Lib.hid hxl
    clear hxl
    go_enter Try.func100, Try.ntmps100
    go_wp2_with (first | ((with_reducible refine gate_builtin (b := .append) (xs := #[.tmp 9, .tmp 11]) rfl ?_); at_builtin; refine Kd.R_append (Kd.int .i64) (w0 := w0) w0.heap.size rfl (.tmp 9) (.tmp 11) 101 3 (.int .i64 0) 8 rfl Try.underlying101 infoI rfl (by decide) (by omega) v xs id [.int .i64 id] (fun _ => True) (fun _ => False) rfl rfl ?aP (fun _ hk => hk.elim) ?aF ?aO ?aB ?aS ?aL ?_; (case aP => exact rfl); (case aB => exact (by with_reducible repeat (first | exact HB.out | apply below_alloc | apply pw_below_drewN | apply below_drew1))); (case aF => exact (fun _ _ => trivial)); (case aO => exact (by (with_reducible repeat (first | apply Kd.R_alloc | apply Kd.R_drewN | apply Kd.R_drew)); exact HR.out)); (case aS => exact (below_size (by with_reducible repeat (first | exact HB.out | apply below_alloc | apply pw_below_drewN | apply below_drew1)))); (case aL => have := HX.out; omega); intro v1 w1 ho hb hg hat; have n0_ := Lib.hid (blk_grown (g := g) (o := .cells #[.int .i64 root, .int .i64 next, .slice A ns.length c] 56 (0, 0)) (by (with_reducible repeat (first | refine blk_drewN ?_ _ | refine blk_drew ?_ | refine blk_alloc ?_ _)); exact BK.out) hg (Kd.R_ne HR.out BK.out (by decide))); clear BK HB HR; have BK := n0_; have HB := Lib.hid hb; have HR := Lib.hid ho; clear n0_ ho hb hg hat))
    refine (find_calls g root next A c ns id w1 ⟨BK.out, Kd.C_below HC.out HB.out, hc⟩ HG.out HI.out).mono ?_
    rintro e w2 ⟨⟨t, ad, rfl, hin, hid, rfl⟩ | ⟨hno, rfl⟩, hb⟩
    case inr => exact absurd HH.out (by rw [hasP_false hno]; decide)
    have BK2 := Lib.hid (blk_below BK.out hb)
    have HB2 := Lib.hid (HB.out.trans (hb.mono HB.out.size))
    have HR2 := Lib.hid (Kd.R_below HR.out hb)
    clear BK HB HR hb
    obtain ⟨ad', A4, c4, e4, hx0, hx1, hx2, hx3, hx4, hl4, hi4⟩ := at_T108 HC.out (t : Int) (by omega) (by omega)
    cases e4
    rw [Int.toNat_natCast] at hx0 hx1 hx2 hx3 hx4
    replace hx0 := (HB2.out.cell (World.block_lt_of_cell? w0 _ hx0)).trans hx0
    replace hx1 := (HB2.out.cell (World.block_lt_of_cell? w0 _ hx1)).trans hx1
    replace hx2 := (HB2.out.cell (World.block_lt_of_cell? w0 _ hx2)).trans hx2
    replace hx3 := (HB2.out.cell (World.block_lt_of_cell? w0 _ hx3)).trans hx3
    replace hx4 := (HB2.out.cell (World.block_lt_of_cell? w0 _ hx4)).trans hx4
    have HKS := Lib.hid (kidsOf_at HG.out.2 hin hid)
    have HT := HK.out t hin
    have H4 := Lib.hid hi4
    have HL4 := Lib.hid hl4
    have HOP := Lib.hid (show ordP ns (m + 1) id = id :: (rd_T108 ns (t : Int)).f4.flatMap (ordP ns m) from by
      show id :: (kidsOf ns id).flatMap _ = _
      rw [HKS.out])
    have HFI := Lib.hid (show ∀ k ∈ (rd_T108 ns (t : Int)).f4, Fits ns m k from by
      intro k hk
      exact HF.out k (by rw [HKS.out]; exact hk))
    have HKI := Lib.hid (show ∀ k ∈ (rd_T108 ns (t : Int)).f4, hasP ns k = true ∧ I64 k from HT.2)
    have HK12 := Lib.hid (show (rd_T108 ns (t : Int)).f4.length ≤ 12 from HT.1)
    have HP := Lib.hid hp1
    clear hi4 hl4 hid HT HKS HF hp1
    generalize (rd_T108 ns (t : Int)).f4 = ks at *
    generalize (rd_T108 ns (t : Int)).f0 = q0 at *
    generalize (rd_T108 ns (t : Int)).f1 = q1 at *
    generalize (rd_T108 ns (t : Int)).f2 = q2 at *
    generalize (rd_T108 ns (t : Int)).f3 = q3 at *
    go_wp2
    go_loopg [1, 20] ks.length (fun kx s1 s20 wr => ∃ i : Nat, s20 = .int .i64 i ∧ i ≤ ks.length ∧ ks.length - i ≤ kx ∧ Aside0 ((Kd.int .i64).R 3 wr w0.heap.size (fun _ => True) s1 (xs ++ id :: (ks.take i).flatMap (ordP ns m))) ∧ Aside0 (Below w0.heap.size w0 wr) ∧ Aside0 (wr.heap[g]? = some (.cells #[.int .i64 root, .int .i64 next, .slice (some ad) ns.length c] 56 (0, 0))))
    case atStart => exact ⟨0, rfl, Nat.zero_le _, by omega, ⟨HR2.out⟩, ⟨HB2.out⟩, ⟨BK2.out⟩⟩
    case round =>
      clear HR2 HB2 BK2 hx0 hx1 hx2 hx3 hx4
      obtain ⟨i, rfl, hil, hg, HR, HB, BK⟩ := hrel
      by_cases hlt : i < ks.length
      · obtain ⟨ak, ek, hk0⟩ := Kd.at_int H4.out (i : Int) (by omega) (by omega)
        cases ek
        replace hk0 := (HB.out.cell (World.block_lt_of_cell? w0 _ hk0)).trans hk0
        rw [Int.toNat_natCast] at hk0
        have hki := HKI.out (ks[i]) (List.getElem_mem hlt)
        have HFK := Lib.hid (HFI.out (ks[i]) (List.getElem_mem hlt))
        have hrd : rd ks (i : Int) = ks[i] := by unfold rd; rw [Int.toNat_natCast, List.getD_eq_getElem?_getD, List.getElem?_eq_getElem hlt]; rfl
        have TF := Lib.hid (take_flat (f := ordP ns m) ks i hlt)
        have hlen : (xs ++ id :: (ks.take i).flatMap (ordP ns m)).length + 13 ^ m ≤ 1000000000 := by
          have h1 := flat_len (ordP_len (kids12 HK.out) m) (ks.take i)
          have h2 : (ks.take i).length ≤ 11 := by have := HK12.out; rw [List.length_take]; omega
          have h3 := Nat.mul_le_mul_right (13 ^ m) h2
          have h4 := HL.out
          have h5 := HP.out
          rw [Nat.pow_succ] at h4
          rw [List.length_append, List.length_cons]
          omega
        rw [hrd] at hk0
        have HKI3 := Lib.hid hki
        have HLE := Lib.hid hlen
        clear hki hrd hlen
        generalize hkk : ks[i] = kk at *
        clear hkk
        go_wp2_with fail
        refine (IH.out kk _ _ wr HFK.out HKI3.out.1 HKI3.out.2 HB.out BK.out HR.out HLE.out).mono ?_
        rintro e w2 ⟨v2, rfl, hr2, hb2, bk2⟩
        have HR3 := Lib.hid hr2
        have HB3 := Lib.hid hb2
        have BK3 := Lib.hid bk2
        clear hr2 hb2 bk2
        go_wp2
        go_roundg (ks.length - (i + 1))
        case measure => omega
        case rel =>
          exact ⟨i + 1, by rw [show ((i + 1 : Nat) : Int) = (i : Int) + 1 by omega, show wrap64 ((i : Int) + 1) = (i : Int) + 1 from by have := HK12.out; exact wid (by omega) (by omega)], by omega, Nat.le_refl _, ⟨by rw [TF.out]; have := HR3.out; rwa [List.append_assoc, List.cons_append] at this⟩, ⟨HB3.out⟩, ⟨BK3.out⟩⟩
      · obtain rfl : i = ks.length := by omega
        rw [List.take_length] at HR
        go_wp2
        go_ret
        exact ⟨_, rfl, by rw [HOP.out]; exact HR.out, HB.out, BK.out⟩
end Go.Proofs.Ytnppmhijoaeibaa.H
namespace Go.Proofs.Ytnppmhijoaeibaa.H
open Go.RowKit Go.Maps
theorem lookup_bool {H : Type} {P : Program} (w : World) {ops : Array Oper} {rest : List Oper} {o : Oper} {a : Act} {Q : Exit → Act → World → Prop}
    (hg : o.guard = none) (m x : Operand) (t : TypeId) (hop : o.op = Op.lookup t m x false)
    (k e : TypeId) (K : Keyed P k) (ht : P.underlying t = some (.map k e)) (he : P.underlying e = some .bool) (hz : (zeroValue e).run P w = .ok (.bool false) w) (b n : Nat) (D : DataW H)
    (hm : a.eval m = .map (some b)) (hown : w.ownsMap P k (plainElem P e) b n D) (key : Value) (kl : Lit) (hx : a.eval x = key) (hkey : keyOf P k key = some kl) (c : Bool)
    (hc : D.atKey kl (.lit (.bool false)) = .lit (.bool c)) (h : wpList P ops Q rest (a.put o.dst (.bool c)) w) : wpList P ops Q (o :: rest) a w := by
  refine wpList_plain hg fun K' hK' => ?_
  obtain ⟨v, ps, hrun, hv⟩ := hown.lookup K ht hz (plainElem_bool he false) hkey
  rw [hc] at hv
  have hv2 : v = .bool c := by
    unfold plainElem at hv
    rw [he] at hv
    cases v <;> simp at hv
    rw [hv.1]
  subst hv2
  unfold Oper.wp
  simp [execOp, hop, hm, hx, hrun, Result.andThen]
  exact hK' _ _ h
def setD (acc : List Int) : DataW Unit := setOf (.lit (.bool true)) (acc.map (Lit.int .i64))
theorem setD_snoc (acc : List Int) (x : Int) : setD (acc ++ [x]) = (setD acc).put (.int .i64 x) (.lit (.bool true)) := by unfold setD; rw [List.map_append, List.map_cons, List.map_nil, setOf_snoc]
theorem keys_ok (acc : List Int) : ∀ x ∈ acc.map (Lit.int .i64), WideAt.IsKeyLit x := by
  intro x hx
  obtain ⟨y, _, rfl⟩ := List.mem_map.1 hx
  simp [WideAt.IsKeyLit]
theorem setD_tidy (acc : List Int) : Tidy (setD acc) := tidy_setOf _ _ (keys_ok acc)
theorem rev_rec {P : List Int → Prop} (h0 : P []) (h1 : ∀ l x, P l → P (l ++ [x])) (l : List Int) : P l := by
  rw [← List.reverse_reverse l]
  generalize l.reverse = m
  induction m with
  | nil => exact h0
  | cons x m ih => rw [List.reverse_cons]; exact h1 _ _ ih
theorem setD_at (acc : List Int) (k : Int) : (setD acc).atKey (.int .i64 k) (.lit (.bool false)) = .lit (.bool (decide (k ∈ acc))) := by
  refine rev_rec (P := fun acc => (setD acc).atKey (.int .i64 k) (.lit (.bool false)) = .lit (.bool (decide (k ∈ acc)))) ?_ ?_ acc
  · rfl
  · intro acc x ih
    rw [setD_snoc]
    by_cases e : k = x
    · subst e
      rw [atKey_put_same (k := Lit.int .i64 k) (setD_tidy acc).isMap trivial]
      simp
    · rw [atKey_put_other (by simpa using e), ih]
      simp [e]
theorem setD_size (acc : List Int) (h : acc.Nodup) : size (setD acc) = acc.length := by
  refine rev_rec (P := fun acc => acc.Nodup → size (setD acc) = acc.length) ?_ ?_ acc h
  · intro _; rfl
  · intro acc x ih h
    rw [List.nodup_append] at h
    have hx : has (setD acc) (.int .i64 x) = false := by
      unfold setD
      rw [has_setOf _ _ _ (keys_ok acc)]
      refine List.any_eq_false.2 fun y hy => ?_
      obtain ⟨z, hz, rfl⟩ := List.mem_map.1 hy
      have hne : z ≠ x := h.2.2 z hz x (by simp)
      rw [sameKey_ne (by simpa using hne)]
      simp
    rw [setD_snoc, size_put (setD_tidy acc), hx, ih h.1]
    simp
end Go.Proofs.Ytnppmhijoaeibaa.H
set_option linter.unusedVariables false
set_option linter.unusedSimpArgs false
namespace Go.Proofs.Ytnppmhijoaeibaa.H
open Go.RowKit Go.Proofs.YtnppmhijoaeibaaW.PrintWords Go.Proofs.YtnppmhijoaeibaaW.PrintLast Go.Proofs.YtnppmhijoaeibaaW.PrintMore Go.Proofs.Ytnppmhijoaeibaa.Q
theorem within_f (a b c : Int) : impl_within.f a b c = some (decide (b ≤ a ∧ a ≤ c)) := by
  unfold impl_within.f
  by_cases h : a ≥ b
  · rw [if_pos h]; congr 1; simp; omega
  · rw [if_neg h]; congr 1; simp; omega
theorem within_c (a b c : Int) (w : World) {r : Bool} (h : decide (b ≤ a ∧ a ≤ c) = r) : Calls Try.prog 45 #[.int .i64 a, .int .i64 b, .int .i64 c] w fun e w' => e = .returned (.bool r) ∧ ∃ m, w' = w.drewN m := by
  refine (impl_within.calls a b c r w (by rw [within_f, h])).mono ?_
  rintro e w' ⟨rfl, nd, rfl⟩
  exact ⟨rfl, nd, rfl⟩
theorem s5 {w : World} {g T : Nat} {c0 c1 c2 c3 c4 : Value} (h : w.heap[g]? = some (.cells #[c0, c1, c2, c3, c4] T (0, 0))) (v0 v1 v2 v3 v4 : Value) : (((((w.setCell ⟨g, 0, none⟩ v0).setCell ⟨g, 1, none⟩ v1).setCell ⟨g, 2, none⟩ v2).setCell ⟨g, 3, none⟩ v3).setCell ⟨g, 4, none⟩ v4).heap[g]? = some (.cells #[v0, v1, v2, v3, v4] T (0, 0)) := by
  replace h : (w.setCell ⟨g, 0, none⟩ v0).heap[g]? = some (.cells #[v0, c1, c2, c3, c4] T (0, 0)) := blk_put h 0 v0 rfl
  generalize w.setCell ⟨g, 0, none⟩ v0 = w at h ⊢
  replace h : (w.setCell ⟨g, 1, none⟩ v1).heap[g]? = some (.cells #[v0, v1, c2, c3, c4] T (0, 0)) := blk_put h 1 v1 rfl
  generalize w.setCell ⟨g, 1, none⟩ v1 = w at h ⊢
  replace h : (w.setCell ⟨g, 2, none⟩ v2).heap[g]? = some (.cells #[v0, v1, v2, c3, c4] T (0, 0)) := blk_put h 2 v2 rfl
  generalize w.setCell ⟨g, 2, none⟩ v2 = w at h ⊢
  replace h : (w.setCell ⟨g, 3, none⟩ v3).heap[g]? = some (.cells #[v0, v1, v2, v3, c4] T (0, 0)) := blk_put h 3 v3 rfl
  generalize w.setCell ⟨g, 3, none⟩ v3 = w at h ⊢
  exact blk_put h 4 v4 rfl
theorem s5_far {w : World} {g g2 T : Nat} {cs : Array Value} (h : w.heap[g2]? = some (.cells cs T (0, 0))) (hne : g2 ≠ g) (v0 v1 v2 v3 v4 : Value) : (((((w.setCell ⟨g, 0, none⟩ v0).setCell ⟨g, 1, none⟩ v1).setCell ⟨g, 2, none⟩ v2).setCell ⟨g, 3, none⟩ v3).setCell ⟨g, 4, none⟩ v4).heap[g2]? = some (.cells cs T (0, 0)) :=
  blk_far (blk_far (blk_far (blk_far (blk_far h (p := ⟨g, 0, none⟩) hne _) (p := ⟨g, 1, none⟩) hne _) (p := ⟨g, 2, none⟩) hne _) (p := ⟨g, 3, none⟩) hne _) (p := ⟨g, 4, none⟩) hne _
theorem s5_below {w0 w : World} {g : Nat} {B : Nat} (h : Below B w0 w) (hg : B ≤ g) (v0 v1 v2 v3 v4 : Value) : Below B w0 (((((w.setCell ⟨g, 0, none⟩ v0).setCell ⟨g, 1, none⟩ v1).setCell ⟨g, 2, none⟩ v2).setCell ⟨g, 3, none⟩ v3).setCell ⟨g, 4, none⟩ v4) :=
  ((((h.setCell (p := ⟨g, 0, none⟩) hg v0).setCell (p := ⟨g, 1, none⟩) hg v1).setCell (p := ⟨g, 2, none⟩) hg v2).setCell (p := ⟨g, 3, none⟩) hg v3).setCell (p := ⟨g, 4, none⟩) hg v4
def NodeOK (next : Int) (x : Nd) : Prop := (1 ≤ x.f0 ∧ x.f0 ≤ next - 1) ∧ (1 ≤ x.f1 ∧ x.f1 ≤ 8) ∧ (0 ≤ x.f2 ∧ x.f2 ≤ 99) ∧ x.f3.size ≤ 20 ∧ x.f4.length ≤ 12
def StepOK (next : Int) (ns : List Nd) (t : Nat) : Prop := NodeOK next (rdN ns (t : Int)) ∧ ∀ y : Nat, y + 1 = t → (rdN ns (y : Int)).f0 < (rdN ns (t : Int)).f0
def kidsAll (ns : List Nd) : List Int := ns.flatMap (·.f4)
def SetOK (root : Int) (ns : List Nd) (ks : List Int) : Prop := ks.Nodup ∧ ∀ k ∈ ks, k ≠ root ∧ hasP ns k = true
def DOK (root next : Int) (ns : List Nd) : Prop :=
  (1 ≤ ns.length ∧ ns.length ≤ 40) ∧ (2 ≤ next ∧ next ≤ 999999) ∧ (∀ t : Nat, t < ns.length → StepOK next ns t) ∧ SetOK root ns (kidsAll ns) ∧
    (hasP ns root = true ∧ (kidsAll ns).length + 1 = ns.length ∧ depP ns 7 root ≤ 6) ∧ (ordP ns 6 root).length = ns.length
def All64 (root : Int) (ns : List Nd) : Prop := I64 root ∧ ∀ t : Nat, t < ns.length → ∀ k ∈ (rdN ns (t : Int)).f4, I64 k
def Bk (b : Bool) (P : Prop) : Prop := b = true ↔ P
theorem w64_nat {i : Nat} (h : i ≤ 4096) : wrap64 ((i : Int) + 1) = ((i + 1 : Nat) : Int) := by unfold wrap64; omega
theorem wf64 {x : Int} (h : I64 x) : (Lit.int .i64 x).wf = true := by
  have e1 : IntKind.i64.min = -9223372036854775808 := rfl
  have e2 : IntKind.i64.max = 9223372036854775807 := rfl
  obtain ⟨h1, h2⟩ := h
  simp [Lit.wf, e1, e2]
  omega
theorem good_of {next : Int} {ns : List Nd} (hn : next ≤ 999999) (hl : ns.length ≤ 40) (h : ∀ t : Nat, t < ns.length → StepOK next ns t) : Good ns := by
  refine ⟨by omega, fun a b hab hb => ?_, fun a ha => ?_⟩
  · induction b with
    | zero => omega
    | succ b ih =>
      have h1 := (h (b + 1) hb).2 b rfl
      by_cases q : a = b
      · subst q; exact h1
      · exact Int.lt_trans (ih (by omega) (by omega)) h1
  · have := (h a ha).1.1
    omega
def kidsTo (ns : List Nd) (j : Nat) : List Int := (ns.take j).flatMap (·.f4)
theorem kidsTo_all (ns : List Nd) : kidsTo ns ns.length = kidsAll ns := by unfold kidsTo kidsAll; rw [List.take_length]
theorem kidsTo_step {ns : List Nd} {j : Nat} (h : j < ns.length) : kidsTo ns (j + 1) = kidsTo ns j ++ (rdN ns (j : Int)).f4 := by
  unfold kidsTo
  rw [List.take_add_one, List.getElem?_eq_getElem h, List.flatMap_append, rdN_get h]; simp
theorem kids_split {ns : List Nd} {j i : Nat} (h : j < ns.length) (hi : i < (rdN ns (j : Int)).f4.length) : ∃ rest, kidsAll ns = (kidsTo ns j ++ (rdN ns (j : Int)).f4.take i) ++ (rdN ns (j : Int)).f4[i] :: rest := by
  refine ⟨(rdN ns (j : Int)).f4.drop (i + 1) ++ (ns.drop (j + 1)).flatMap (·.f4), ?_⟩
  have e1 : kidsAll ns = kidsTo ns (j + 1) ++ (ns.drop (j + 1)).flatMap (·.f4) := by
    unfold kidsTo kidsAll
    rw [← List.flatMap_append, List.take_append_drop]
  rw [e1, kidsTo_step h, List.append_assoc, List.append_assoc, ← List.cons_append, ← List.drop_eq_getElem_cons hi, ← List.append_assoc (List.take i _), List.take_append_drop]
theorem set_bad {root : Int} {ns : List Nd} {acc rest : List Int} {k : Int} (h : SetOK root ns (acc ++ k :: rest)) : k ∉ acc ∧ k ≠ root ∧ hasP ns k = true := by
  refine ⟨fun hk => ?_, h.2 k (by simp)⟩
  have := (List.nodup_append.1 h.1).2.2 k hk k (by simp)
  exact this rfl
theorem set_step {root : Int} {ns : List Nd} {acc : List Int} {k : Int} (h : SetOK root ns acc) (h1 : k ∉ acc) (h2 : k ≠ root) (h3 : hasP ns k = true) : SetOK root ns (acc ++ [k]) := by
  refine ⟨List.nodup_append.2 ⟨h.1, by simp, fun a ha b hb => ?_⟩, fun x hx => ?_⟩
  · obtain rfl : b = k := by simpa using hb
    exact fun e => h1 (e ▸ ha)
  · rcases List.mem_append.1 hx with hx | hx
    · exact h.2 x hx
    · obtain rfl : x = k := by simpa using hx
      exact ⟨h2, h3⟩
theorem lawI : Maps.Keyed Try.prog 3 := Maps.int_keyed Try.underlying3
theorem zeroB (w : World) : (zeroValue 4).run Try.prog w = .ok (.bool false) w := by kernel_rfl
def IsSet (w : World) (b n : Nat) (acc : List Int) : Prop := w.ownsMap Try.prog 3 (plainElem (H := Unit) Try.prog 4) b n (setD acc)
theorem IsSet.of_block {w w' : World} {b n : Nat} {acc : List Int} (h : IsSet w b n acc) (e : w'.heap[b]? = w.heap[b]?) : IsSet w' b n acc := by
  obtain ⟨es, clock, hb, r⟩ := h
  exact ⟨es, clock, e.trans hb, r⟩
theorem IsSet.below {w w' : World} {b n : Nat} {acc : List Int} (h : IsSet w b n acc) (hB : Below w.heap.size w w') : IsSet w' b n acc := h.of_block (hB.block b (World.ownsMap.lt h))
theorem IsSet.s5 {w : World} {b n g : Nat} {acc : List Int} (h : IsSet w b n acc) (hne : b ≠ g) (v0 v1 v2 v3 v4 : Value) : IsSet (((((w.setCell ⟨g, 0, none⟩ v0).setCell ⟨g, 1, none⟩ v1).setCell ⟨g, 2, none⟩ v2).setCell ⟨g, 3, none⟩ v3).setCell ⟨g, 4, none⟩ v4) b n acc :=
  World.ownsMap.setCell (World.ownsMap.setCell (World.ownsMap.setCell (World.ownsMap.setCell (World.ownsMap.setCell h (a := ⟨g, 0, none⟩) hne _) (a := ⟨g, 1, none⟩) hne _) (a := ⟨g, 2, none⟩) hne _) (a := ⟨g, 3, none⟩) hne _) (a := ⟨g, 4, none⟩) hne _
set_option maxHeartbeats 16000000 in
set_option maxRecDepth 100000 in
theorem docOK_calls (root next : Int) (A : Option Addr) (c : Nat) (ns : List Nd) (w : World) (hr : kNd.C w A ns.length ns) (hc : ns.length ≤ c) (h64 : All64 root ns) :
    Calls Try.prog 76 #[.agg #[.int .i64 root, .int .i64 next, .slice A ns.length c]] w fun e w' => (∃ b, e = .returned (.bool b) ∧ Bk b (DOK root next ns)) ∧ Below w.heap.size w w' := by
  have hu := Try.underlying108
  have hu2 := Try.underlying56
  have HC := Lib.hid hr
  have H64 := Lib.hid h64
  clear hr h64
  by_cases ca : 1 ≤ (ns.length : Int) ∧ (ns.length : Int) ≤ 40
  · by_cases cb : 2 ≤ next ∧ next ≤ 999999
    · go_enter Try.func76, Try.ntmps76
      go_wp2_with (first | ((with_reducible refine gate_dst (N := 1) rfl ?_); refine box_event ?hg (N := 1) ?hd (cs := #[.int .i64 root, .int .i64 next, .slice A ns.length c]) (t := 56) ?hr ?_; (case hd => rfl); (case hg => rfl); (case hr => first | (go_simp; done) | (go_simp; rfl)); intro g hg w1 hb1 hB1; have GW := Lib.hid (show w.heap.size ≤ g from Nat.le_of_eq hg.symm); clear hg; have BK := Lib.hid hb1; have HB := Lib.hid hB1; have hz0 : w1.cell? ⟨g, 0, none⟩ = some (.int .i64 root) := (blk_cell hb1 0).trans rfl; have hz1 : w1.cell? ⟨g, 1, none⟩ = some (.int .i64 next) := (blk_cell hb1 1).trans rfl; have hz2 : w1.cell? ⟨g, 2, none⟩ = some (.slice A ns.length c) := (blk_cell hb1 2).trans rfl; clear hb1 hB1))
      refine (within_c _ _ _ _ (r := true) (decide_eq_true (by first | exact ca | exact cb))).mono ?_
      rintro e w2 ⟨rfl, nd, rfl⟩
      go_wp2_with fail
      refine (within_c _ _ _ _ (r := true) (decide_eq_true (by first | exact ca | exact cb))).mono ?_
      rintro e w2 ⟨rfl, nd2, rfl⟩
      go_wp2
      have DOCB := Lib.hid (blk_drewN BK.out (nd + nd2))
      have HB1 := Lib.hid (pw_below_drewN HB.out (nd + nd2))
      have hd1 : (w1.drewN (nd + nd2)).cell? ⟨g, 1, none⟩ = some (.int .i64 next) := (blk_cell DOCB.out 1).trans rfl
      clear BK HB hz0 hz1 hz2
      generalize w1.drewN (nd + nd2) = w1 at *
      have hnx : wrap64 (next - 1) = next - 1 := by unfold wrap64; omega
      have hnx2 : IntKind.i64.wrap (next - 1) = next - 1 := by rw [IntKind.wrap_i64]; unfold wrap64 at hnx; exact hnx
      go_loopg [24] ns.length (fun kx s24 wr => ∃ i : Nat, s24 = .int .i64 i ∧ i ≤ ns.length ∧ ns.length - i ≤ kx ∧ Aside0 (∀ t : Nat, t < i → StepOK next ns t) ∧ Aside0 (Below w.heap.size w wr) ∧ Aside0 (wr.heap[g]? = some (.cells #[.int .i64 root, .int .i64 next, .slice A ns.length c] 56 (0, 0))))
      case atStart => exact ⟨0, rfl, Nat.zero_le _, by omega, ⟨fun t ht => absurd ht (Nat.not_lt_zero _)⟩, ⟨HB1.out⟩, ⟨DOCB.out⟩⟩
      case round =>
        clear HB1 DOCB hd1
        obtain ⟨i, rfl, hil, hg, SO, HB, BK⟩ := hrel
        by_cases hlt : i < ns.length
        · obtain ⟨ad, A4, c4, e4, hx0, hx1, hx2, hx3, hx4, hl4, hi4⟩ := at_T108 HC.out (i : Int) (by omega) (by omega)
          have HSO := Lib.hid (show StepOK next ns i ↔ ((1 ≤ (rd_T108 ns (i : Int)).f0 ∧ (rd_T108 ns (i : Int)).f0 ≤ next - 1) ∧ (1 ≤ (rd_T108 ns (i : Int)).f1 ∧ (rd_T108 ns (i : Int)).f1 ≤ 8) ∧ (0 ≤ (rd_T108 ns (i : Int)).f2 ∧ (rd_T108 ns (i : Int)).f2 ≤ 99) ∧ (rd_T108 ns (i : Int)).f3.size ≤ 20 ∧ (rd_T108 ns (i : Int)).f4.length ≤ 12) ∧ ∀ y : Nat, y + 1 = i → (rdN ns (y : Int)).f0 < (rd_T108 ns (i : Int)).f0 from Iff.rfl)
          cases e4
          rw [Int.toNat_natCast] at hx0 hx1 hx2 hx3 hx4
          replace hx0 := (HB.out.cell (World.block_lt_of_cell? w _ hx0)).trans hx0
          replace hx1 := (HB.out.cell (World.block_lt_of_cell? w _ hx1)).trans hx1
          replace hx2 := (HB.out.cell (World.block_lt_of_cell? w _ hx2)).trans hx2
          replace hx3 := (HB.out.cell (World.block_lt_of_cell? w _ hx3)).trans hx3
          replace hx4 := (HB.out.cell (World.block_lt_of_cell? w _ hx4)).trans hx4
          clear hl4 hi4
          obtain ⟨q0, hq0⟩ : ∃ q0, (rd_T108 ns (i : Int)).f0 = q0 := ⟨_, rfl⟩
          obtain ⟨q1, hq1⟩ : ∃ q1, (rd_T108 ns (i : Int)).f1 = q1 := ⟨_, rfl⟩
          obtain ⟨q2, hq2⟩ : ∃ q2, (rd_T108 ns (i : Int)).f2 = q2 := ⟨_, rfl⟩
          obtain ⟨q3, hq3⟩ : ∃ q3, (rd_T108 ns (i : Int)).f3 = q3 := ⟨_, rfl⟩
          obtain ⟨q4, hq4⟩ : ∃ q4, (rd_T108 ns (i : Int)).f4 = q4 := ⟨_, rfl⟩
          rw [hq0] at hx0; rw [hq1] at hx1; rw [hq2] at hx2; rw [hq3] at hx3; rw [hq4] at hx4
          rw [hq0, hq1, hq2, hq3, hq4] at HSO
          clear hq0 hq1 hq2 hq3 hq4
          go_upto_region 6 with (first | ((with_reducible refine gate_dst (N := 4) rfl ?_); refine box_event ?hg (N := 4) ?hd (cs := #[.int .i64 0, .int .i64 0, .int .i64 0, .string (⟨#[]⟩ : ByteArray), .slice none 0 0]) (t := 108) ?hr ?_; (case hd => rfl); (case hg => rfl); (case hr => first | (go_simp; done) | (go_simp; rfl)); intro g2 hg2 w2 hb2 hB2; have GW2 := Lib.hid (show w.heap.size ≤ g2 from by rw [hg2]; exact HB.out.size); have GNE := Lib.hid (show g ≠ g2 from by rw [hg2]; exact Nat.ne_of_lt (blk_lt BK.out)); clear hg2; have BK2 := Lib.hid hb2; have HB2 := Lib.hid (below_step HB.out hB2); have BKD := Lib.hid (blk_below BK.out hB2); have hy0 : w2.cell? ⟨g2, 0, none⟩ = some (.int .i64 0) := (blk_cell hb2 0).trans rfl; have hy1 : w2.cell? ⟨g2, 1, none⟩ = some (.int .i64 0) := (blk_cell hb2 1).trans rfl; have hy2 : w2.cell? ⟨g2, 2, none⟩ = some (.int .i64 0) := (blk_cell hb2 2).trans rfl; have hy3 : w2.cell? ⟨g2, 3, none⟩ = some (.string (⟨#[]⟩ : ByteArray)) := (blk_cell hb2 3).trans rfl; have hy4 : w2.cell? ⟨g2, 4, none⟩ = some (.slice none 0 0) := (blk_cell hb2 4).trans rfl; have fy0 := blk_frozen hb2 0; have fy1 := blk_frozen hb2 1; have fy2 := blk_frozen hb2 2; have fy3 := blk_frozen hb2 3; have fy4 := blk_frozen hb2 4; clear hb2 hB2))
          have BK3 := Lib.hid (s5 BK2.out (.int .i64 q0) (.int .i64 q1) (.int .i64 q2) (.string q3) (.slice A4 q4.length c4))
          have BKE := Lib.hid (s5_far BKD.out GNE.out (.int .i64 q0) (.int .i64 q1) (.int .i64 q2) (.string q3) (.slice A4 q4.length c4))
          have HB3 := Lib.hid (s5_below HB2.out GW2.out (.int .i64 q0) (.int .i64 q1) (.int .i64 q2) (.string q3) (.slice A4 q4.length c4))
          generalize (((((w2.setCell ⟨g2, 0, none⟩ (.int .i64 q0)).setCell ⟨g2, 1, none⟩ (.int .i64 q1)).setCell ⟨g2, 2, none⟩ (.int .i64 q2)).setCell ⟨g2, 3, none⟩ (.string q3)).setCell ⟨g2, 4, none⟩ (.slice A4 q4.length c4)) = w3 at BK3 BKE HB3 ⊢
          clear hx0 hx1 hx2 hx3 hx4 hy0 hy1 hy2 hy3 hy4 fy0 fy1 fy2 fy3 fy4 BK2 HB2 BKD HB BK
          go_cut [75] (fun v wc => ∃ b, v = .bool b ∧ Aside0 (Bk b (¬ StepOK next ns i)) ∧ Aside0 (Below w.heap.size w wc) ∧ Aside0 (wc.heap[g]? = some (.cells #[.int .i64 root, .int .i64 next, .slice (some ad) ns.length c] 56 (0, 0))))
          case first =>
            --<L1
            have z0 : w3.cell? ⟨g2, 0, none⟩ = some (.int .i64 q0) := (blk_cell BK3.out 0).trans rfl
            have z1 : w3.cell? ⟨g2, 1, none⟩ = some (.int .i64 q1) := (blk_cell BK3.out 1).trans rfl
            have z2 : w3.cell? ⟨g2, 2, none⟩ = some (.int .i64 q2) := (blk_cell BK3.out 2).trans rfl
            have z3 : w3.cell? ⟨g2, 3, none⟩ = some (.string q3) := (blk_cell BK3.out 3).trans rfl
            have z4 : w3.cell? ⟨g2, 4, none⟩ = some (.slice A4 q4.length c4) := (blk_cell BK3.out 4).trans rfl
            have y1 : w3.cell? ⟨g, 1, none⟩ = some (.int .i64 next) := (blk_cell BKE.out 1).trans rfl
            have y2 : w3.cell? ⟨g, 2, none⟩ = some (.slice (some ad) ns.length c) := (blk_cell BKE.out 2).trans rfl
            have D3 := True.intro
            have D4 := True.intro
            by_cases d1 : 1 ≤ q0 ∧ q0 ≤ next - 1
            · have D1 : decide (1 ≤ q0 ∧ q0 ≤ next - 1) = true := decide_eq_true d1
              by_cases d2 : 0 < i
              · have D2 : decide ((0 : Int) < (i : Int)) = true := decide_eq_true (by omega)
                have D2b : decide ((i : Int) > (0 : Int)) = true := decide_eq_true (by omega)
                obtain ⟨y, hy⟩ : ∃ y : Nat, y + 1 = i := ⟨i - 1, by omega⟩
                obtain ⟨ad', A5, c5, e5, hp0, hp1, hp2, hp3, hp4, hl5, hi5⟩ := at_T108 HC.out (y : Int) (by omega) (by omega)
                cases e5
                rw [Int.toNat_natCast] at hp0
                replace hp0 := (HB3.out.cell (World.block_lt_of_cell? w _ hp0)).trans hp0
                clear hp1 hp2 hp3 hp4 hl5 hi5
                have hw1 : wrap64 ((i : Int) - 1) = (y : Int) := by unfold wrap64; omega
                have hw2 : IntKind.i64.wrap ((i : Int) - 1) = (y : Int) := by rw [IntKind.wrap_i64]; unfold wrap64 at hw1; exact hw1
                have hw3 : decide ((0 : Int) ≤ (y : Int)) = true := decide_eq_true (by omega)
                have hw4 : decide ((y : Int) < (ns.length : Int)) = true := decide_eq_true (by omega)
                have hw5 : (0 : Int) ≤ (y : Int) := by omega
                have hw6 : (y : Int) < (ns.length : Int) := by omega
                have hw7 : y < ns.length := by omega
                obtain ⟨p0, hp⟩ : ∃ p0, (rd_T108 ns (y : Int)).f0 = p0 := ⟨_, rfl⟩
                rw [hp] at hp0
                have hpq : (rdN ns (y : Int)).f0 = p0 := hp
                clear hp
                by_cases d7 : p0 < q0
                · have D7 : decide (q0 ≤ p0) = false := decide_eq_false (by omega)
                  have D7b : decide (p0 ≥ q0) = false := decide_eq_false (by omega)
                  have hup : ∀ y' : Nat, y' + 1 = i → (rdN ns (y' : Int)).f0 < q0 := fun y' hy' => by (have e : y' = y := (by omega)); (rw [e, hpq]); exact d7
                  have HUP := Lib.hid hup
                  have HPQ := Lib.hid hpq
                  clear hup hpq
                  by_cases d3 : 1 ≤ q1 ∧ q1 ≤ 8
                  · have D3 : decide (1 ≤ q1 ∧ q1 ≤ 8) = true := decide_eq_true d3
                    by_cases d4 : 0 ≤ q2 ∧ q2 ≤ 99
                    · have D4 : decide (0 ≤ q2 ∧ q2 ≤ 99) = true := decide_eq_true d4
                      by_cases d5 : q3.size ≤ 20
                      · have D5 : decide ((20 : Int) < (q3.size : Int)) = false := decide_eq_false (by omega)
                        have D5b : decide ((q3.size : Int) > (20 : Int)) = false := decide_eq_false (by omega)
                        by_cases d6 : q4.length ≤ 12
                        · have D6 : decide ((12 : Int) < (q4.length : Int)) = false := decide_eq_false (by omega)
                          have D6b : decide ((q4.length : Int) > (12 : Int)) = false := decide_eq_false (by omega)
                          have HBK := Lib.hid (show Bk false (¬ StepOK next ns i) from ⟨(fun h => by cases h), fun h => absurd (HSO.out.2 ⟨⟨d1, d3, d4, d5, d6⟩, HUP.out⟩) h⟩)
                          go_quiet (exact Calls.quiet_of (within_c _ _ _ _ (by first | exact D1 | exact D3 | exact D4)))
                          go_wp2
                          go_meet
                          case rel => exact ⟨_, rfl, ⟨HBK.out⟩, ⟨pw_below_drewN HB3.out _⟩, ⟨blk_drewN BKE.out _⟩⟩
                        · have D6 : decide ((12 : Int) < (q4.length : Int)) = true := decide_eq_true (by omega)
                          have D6b : decide ((q4.length : Int) > (12 : Int)) = true := decide_eq_true (by omega)
                          have HBK := Lib.hid (show Bk true (¬ StepOK next ns i) from ⟨fun _ h => d6 (HSO.out.1 h).1.2.2.2.2, fun _ => rfl⟩)
                          go_quiet (exact Calls.quiet_of (within_c _ _ _ _ (by first | exact D1 | exact D3 | exact D4)))
                          go_wp2
                          go_meet
                          case rel => exact ⟨_, rfl, ⟨HBK.out⟩, ⟨pw_below_drewN HB3.out _⟩, ⟨blk_drewN BKE.out _⟩⟩
                      · have D5 : decide ((20 : Int) < (q3.size : Int)) = true := decide_eq_true (by omega)
                        have D5b : decide ((q3.size : Int) > (20 : Int)) = true := decide_eq_true (by omega)
                        have HBK := Lib.hid (show Bk true (¬ StepOK next ns i) from ⟨fun _ h => d5 (HSO.out.1 h).1.2.2.2.1, fun _ => rfl⟩)
                        go_quiet (exact Calls.quiet_of (within_c _ _ _ _ (by first | exact D1 | exact D3 | exact D4)))
                        go_wp2
                        go_meet
                        case rel => exact ⟨_, rfl, ⟨HBK.out⟩, ⟨pw_below_drewN HB3.out _⟩, ⟨blk_drewN BKE.out _⟩⟩
                    · have D4 : decide (0 ≤ q2 ∧ q2 ≤ 99) = false := decide_eq_false d4
                      have HBK := Lib.hid (show Bk true (¬ StepOK next ns i) from ⟨fun _ h => d4 (HSO.out.1 h).1.2.2.1, fun _ => rfl⟩)
                      go_quiet (exact Calls.quiet_of (within_c _ _ _ _ (by first | exact D1 | exact D3 | exact D4)))
                      go_wp2
                      go_meet
                      case rel => exact ⟨_, rfl, ⟨HBK.out⟩, ⟨pw_below_drewN HB3.out _⟩, ⟨blk_drewN BKE.out _⟩⟩
                  · have D3 : decide (1 ≤ q1 ∧ q1 ≤ 8) = false := decide_eq_false d3
                    have HBK := Lib.hid (show Bk true (¬ StepOK next ns i) from ⟨fun _ h => d3 (HSO.out.1 h).1.2.1, fun _ => rfl⟩)
                    go_quiet (exact Calls.quiet_of (within_c _ _ _ _ (by first | exact D1 | exact D3 | exact D4)))
                    go_wp2
                    go_meet
                    case rel => exact ⟨_, rfl, ⟨HBK.out⟩, ⟨pw_below_drewN HB3.out _⟩, ⟨blk_drewN BKE.out _⟩⟩
                · have D7 : decide (q0 ≤ p0) = true := decide_eq_true (by omega)
                  have D7b : decide (p0 ≥ q0) = true := decide_eq_true (by omega)
                  have HBK := Lib.hid (show Bk true (¬ StepOK next ns i) from ⟨fun _ h => d7 (by have := (HSO.out.1 h).2 y hy; rwa [hpq] at this), fun _ => rfl⟩)
                  go_quiet (exact Calls.quiet_of (within_c _ _ _ _ (by first | exact D1 | exact D3 | exact D4)))
                  go_wp2
                  go_meet
                  case rel => exact ⟨_, rfl, ⟨HBK.out⟩, ⟨pw_below_drewN HB3.out _⟩, ⟨blk_drewN BKE.out _⟩⟩
              · have D2 : decide ((0 : Int) < (i : Int)) = false := decide_eq_false (by omega)
                have D2b : decide ((i : Int) > (0 : Int)) = false := decide_eq_false (by omega)
                by_cases d3 : 1 ≤ q1 ∧ q1 ≤ 8
                · have D3 : decide (1 ≤ q1 ∧ q1 ≤ 8) = true := decide_eq_true d3
                  by_cases d4 : 0 ≤ q2 ∧ q2 ≤ 99
                  · have D4 : decide (0 ≤ q2 ∧ q2 ≤ 99) = true := decide_eq_true d4
                    by_cases d5 : q3.size ≤ 20
                    · have D5 : decide ((20 : Int) < (q3.size : Int)) = false := decide_eq_false (by omega)
                      have D5b : decide ((q3.size : Int) > (20 : Int)) = false := decide_eq_false (by omega)
                      by_cases d6 : q4.length ≤ 12
                      · have D6 : decide ((12 : Int) < (q4.length : Int)) = false := decide_eq_false (by omega)
                        have D6b : decide ((q4.length : Int) > (12 : Int)) = false := decide_eq_false (by omega)
                        have HBK := Lib.hid (show Bk false (¬ StepOK next ns i) from ⟨(fun h => by cases h), fun h => absurd (HSO.out.2 ⟨⟨d1, d3, d4, d5, d6⟩, fun y hy => absurd hy (by omega)⟩) h⟩)
                        go_quiet (exact Calls.quiet_of (within_c _ _ _ _ (by first | exact D1 | exact D3 | exact D4)))
                        go_wp2
                        go_meet
                        case rel => exact ⟨_, rfl, ⟨HBK.out⟩, ⟨pw_below_drewN HB3.out _⟩, ⟨blk_drewN BKE.out _⟩⟩
                      · have D6 : decide ((12 : Int) < (q4.length : Int)) = true := decide_eq_true (by omega)
                        have D6b : decide ((q4.length : Int) > (12 : Int)) = true := decide_eq_true (by omega)
                        have HBK := Lib.hid (show Bk true (¬ StepOK next ns i) from ⟨fun _ h => d6 (HSO.out.1 h).1.2.2.2.2, fun _ => rfl⟩)
                        go_quiet (exact Calls.quiet_of (within_c _ _ _ _ (by first | exact D1 | exact D3 | exact D4)))
                        go_wp2
                        go_meet
                        case rel => exact ⟨_, rfl, ⟨HBK.out⟩, ⟨pw_below_drewN HB3.out _⟩, ⟨blk_drewN BKE.out _⟩⟩
                    · have D5 : decide ((20 : Int) < (q3.size : Int)) = true := decide_eq_true (by omega)
                      have D5b : decide ((q3.size : Int) > (20 : Int)) = true := decide_eq_true (by omega)
                      have HBK := Lib.hid (show Bk true (¬ StepOK next ns i) from ⟨fun _ h => d5 (HSO.out.1 h).1.2.2.2.1, fun _ => rfl⟩)
                      go_quiet (exact Calls.quiet_of (within_c _ _ _ _ (by first | exact D1 | exact D3 | exact D4)))
                      go_wp2
                      go_meet
                      case rel => exact ⟨_, rfl, ⟨HBK.out⟩, ⟨pw_below_drewN HB3.out _⟩, ⟨blk_drewN BKE.out _⟩⟩
                  · have D4 : decide (0 ≤ q2 ∧ q2 ≤ 99) = false := decide_eq_false d4
                    have HBK := Lib.hid (show Bk true (¬ StepOK next ns i) from ⟨fun _ h => d4 (HSO.out.1 h).1.2.2.1, fun _ => rfl⟩)
                    go_quiet (exact Calls.quiet_of (within_c _ _ _ _ (by first | exact D1 | exact D3 | exact D4)))
                    go_wp2
                    go_meet
                    case rel => exact ⟨_, rfl, ⟨HBK.out⟩, ⟨pw_below_drewN HB3.out _⟩, ⟨blk_drewN BKE.out _⟩⟩
                · have D3 : decide (1 ≤ q1 ∧ q1 ≤ 8) = false := decide_eq_false d3
                  have HBK := Lib.hid (show Bk true (¬ StepOK next ns i) from ⟨fun _ h => d3 (HSO.out.1 h).1.2.1, fun _ => rfl⟩)
                  go_quiet (exact Calls.quiet_of (within_c _ _ _ _ (by first | exact D1 | exact D3 | exact D4)))
                  go_wp2
                  go_meet
                  case rel => exact ⟨_, rfl, ⟨HBK.out⟩, ⟨pw_below_drewN HB3.out _⟩, ⟨blk_drewN BKE.out _⟩⟩
            · have D1 : decide (1 ≤ q0 ∧ q0 ≤ next - 1) = false := decide_eq_false d1
              have HBK := Lib.hid (show Bk true (¬ StepOK next ns i) from ⟨fun _ h => d1 (HSO.out.1 h).1.1, fun _ => rfl⟩)
              go_quiet (exact Calls.quiet_of (within_c _ _ _ _ (by first | exact D1 | exact D3 | exact D4)))
              go_wp2
              go_meet
              case rel => exact ⟨_, rfl, ⟨HBK.out⟩, ⟨pw_below_drewN HB3.out _⟩, ⟨blk_drewN BKE.out _⟩⟩
            --L1>
          case rest =>
            obtain ⟨b, rfl, HBK, HB4, BK4⟩ := hcut
            clear HB3 BK3 BKE
            cases b with
            | true =>
              go_wp2
              go_ret
              exact ⟨⟨false, rfl, ⟨(fun h => by cases h), fun h => absurd (h.2.2.1 i hlt) (HBK.out.1 rfl)⟩⟩, HB4.out⟩
            | false =>
              have SOK : StepOK next ns i := by
                by_cases hs : StepOK next ns i
                · exact hs
                · exact absurd (HBK.out.2 hs) (by decide)
              have SO2 : Aside0 (∀ t : Nat, t < i + 1 → StepOK next ns t) := ⟨fun t ht => by
                by_cases q : t < i
                · exact SO.out t q
                · obtain rfl : t = i := by omega
                  exact SOK⟩
              clear HBK SOK SO
              have hil2 : wrap64 ((i : Int) + 1) = (i : Int) + 1 := by unfold wrap64; omega
              go_wp2
              go_roundg (ns.length - (i + 1))
              case measure => omega
              case rel => exact ⟨i + 1, by rw [show ((i + 1 : Nat) : Int) = (i : Int) + 1 by omega], by omega, Nat.le_refl _, SO2, HB4, BK4⟩
        · obtain rfl : i = ns.length := by omega
          have hmm := @run_makeMap Try.prog
          have ha2 : (wr.alloc (Obj.map #[] 0)).cell? ⟨g, 2, none⟩ = some (.slice A ns.length c) := (blk_cell (blk_alloc BK.out _) 2).trans rfl
          go_wp2_with fail
          clear hmm ha2
          have OM := Lib.hid (show IsSet (wr.alloc (Obj.map #[] 0)) wr.heap.size (12 * 0) (kidsTo ns 0) from World.ownsMap_made _ _ _ _)
          have HB1 := Lib.hid (below_alloc HB.out (Obj.map #[] 0))
          have BK1 := Lib.hid (blk_alloc BK.out (Obj.map #[] 0))
          have GNM := Lib.hid (Nat.ne_of_lt (blk_lt BK.out))
          have GMW := Lib.hid HB.out.size
          have HGD := Lib.hid (good_of cb.2 (by omega) SO.out)
          generalize wr.alloc (Obj.map #[] 0) = w1 at OM HB1 BK1 ⊢
          generalize wr.heap.size = gm at OM GNM GMW ⊢
          clear BK HB
          clear wr
          go_loopg [81] ns.length (fun kx s81 wr => ∃ j : Nat, s81 = .int .i64 j ∧ j ≤ ns.length ∧ ns.length - j ≤ kx ∧ Aside0 (SetOK root ns (kidsTo ns j)) ∧ Aside0 (IsSet wr gm (12 * j) (kidsTo ns j)) ∧ Aside0 (Below w.heap.size w wr) ∧ Aside0 (wr.heap[g]? = some (.cells #[.int .i64 root, .int .i64 next, .slice A ns.length c] 56 (0, 0))))
          case atStart => exact ⟨0, rfl, Nat.zero_le _, by omega, ⟨⟨List.nodup_nil, fun k hk => absurd hk (by simp [kidsTo])⟩⟩, ⟨OM.out⟩, ⟨HB1.out⟩, ⟨BK1.out⟩⟩
          case round =>
            clear OM HB1 BK1
            obtain ⟨j, rfl, hjl, hgj, SK, OM, HB, BK⟩ := hrel
            by_cases hjt : j < ns.length
            · obtain ⟨ad, A4, c4, e4, hx0, hx1, hx2, hx3, hx4, hl4, hi4⟩ := at_T108 HC.out (j : Int) (by omega) (by omega)
              cases e4
              rw [Int.toNat_natCast] at hx0 hx1 hx2 hx3 hx4
              replace hx0 := (HB.out.cell (World.block_lt_of_cell? w _ hx0)).trans hx0
              replace hx1 := (HB.out.cell (World.block_lt_of_cell? w _ hx1)).trans hx1
              replace hx2 := (HB.out.cell (World.block_lt_of_cell? w _ hx2)).trans hx2
              replace hx3 := (HB.out.cell (World.block_lt_of_cell? w _ hx3)).trans hx3
              replace hx4 := (HB.out.cell (World.block_lt_of_cell? w _ hx4)).trans hx4
              have KS := Lib.hid (kidsTo_step hjt)
              have SPL := Lib.hid (fun (i : Nat) (hi : i < (rd_T108 ns (j : Int)).f4.length) => kids_split hjt hi)
              have K64 := Lib.hid (show ∀ k ∈ (rd_T108 ns (j : Int)).f4, I64 k from H64.out.2 j hjt)
              have K12 := Lib.hid (show (rd_T108 ns (j : Int)).f4.length ≤ 12 from (SO.out j hjt).1.2.2.2.2)
              have H4 := Lib.hid hi4
              have HL4 := Lib.hid hl4
              rw [show (rdN ns (j : Int)).f4 = (rd_T108 ns (j : Int)).f4 from rfl] at KS
              have SPL2 := Lib.hid (show ∀ (i : Nat) (hi : i < (rd_T108 ns (j : Int)).f4.length), ∃ rest, kidsAll ns = (kidsTo ns j ++ (rd_T108 ns (j : Int)).f4.take i) ++ (rd_T108 ns (j : Int)).f4[i] :: rest from SPL.out)
              clear hl4 hi4 SPL
              generalize (rd_T108 ns (j : Int)).f0 = q0 at hx0
              generalize (rd_T108 ns (j : Int)).f1 = q1 at hx1
              generalize (rd_T108 ns (j : Int)).f2 = q2 at hx2
              generalize (rd_T108 ns (j : Int)).f3 = q3 at hx3
              generalize (rd_T108 ns (j : Int)).f4 = q4 at hx4 KS K64 K12 H4 HL4 SPL2
              go_upto_region 13 with (first | ((with_reducible refine gate_dst (N := 7) rfl ?_); refine box_event ?hg (N := 7) ?hd (cs := #[.int .i64 0, .int .i64 0, .int .i64 0, .string (⟨#[]⟩ : ByteArray), .slice none 0 0]) (t := 108) ?hr ?_; (case hd => rfl); (case hg => rfl); (case hr => first | (go_simp; done) | (go_simp; rfl)); intro g2 hg2 w2 hb2 hB2; have GW2 := Lib.hid (show w.heap.size ≤ g2 from by rw [hg2]; exact HB.out.size); have GNE := Lib.hid (show g ≠ g2 from by rw [hg2]; exact Nat.ne_of_lt (blk_lt BK.out)); have GNM2 := Lib.hid (show g2 ≠ gm from by rw [hg2]; exact Nat.ne_of_gt (World.ownsMap.lt OM.out)); have OM2 := Lib.hid (IsSet.below OM.out hB2); clear hg2; have BK2 := Lib.hid hb2; have HB2 := Lib.hid (below_step HB.out hB2); have BKD := Lib.hid (blk_below BK.out hB2); have hy0 : w2.cell? ⟨g2, 0, none⟩ = some (.int .i64 0) := (blk_cell hb2 0).trans rfl; have hy1 : w2.cell? ⟨g2, 1, none⟩ = some (.int .i64 0) := (blk_cell hb2 1).trans rfl; have hy2 : w2.cell? ⟨g2, 2, none⟩ = some (.int .i64 0) := (blk_cell hb2 2).trans rfl; have hy3 : w2.cell? ⟨g2, 3, none⟩ = some (.string (⟨#[]⟩ : ByteArray)) := (blk_cell hb2 3).trans rfl; have hy4 : w2.cell? ⟨g2, 4, none⟩ = some (.slice none 0 0) := (blk_cell hb2 4).trans rfl; have fy0 := blk_frozen hb2 0; have fy1 := blk_frozen hb2 1; have fy2 := blk_frozen hb2 2; have fy3 := blk_frozen hb2 3; have fy4 := blk_frozen hb2 4; clear hb2 hB2))
              have BK3 := Lib.hid (s5 BK2.out (.int .i64 q0) (.int .i64 q1) (.int .i64 q2) (.string q3) (.slice A4 q4.length c4))
              have BKE := Lib.hid (s5_far BKD.out GNE.out (.int .i64 q0) (.int .i64 q1) (.int .i64 q2) (.string q3) (.slice A4 q4.length c4))
              have HB3 := Lib.hid (s5_below HB2.out GW2.out (.int .i64 q0) (.int .i64 q1) (.int .i64 q2) (.string q3) (.slice A4 q4.length c4))
              have OM3 := Lib.hid (OM2.out.s5 GNM2.out.symm (.int .i64 q0) (.int .i64 q1) (.int .i64 q2) (.string q3) (.slice A4 q4.length c4))
              generalize (((((w2.setCell ⟨g2, 0, none⟩ (.int .i64 q0)).setCell ⟨g2, 1, none⟩ (.int .i64 q1)).setCell ⟨g2, 2, none⟩ (.int .i64 q2)).setCell ⟨g2, 3, none⟩ (.string q3)).setCell ⟨g2, 4, none⟩ (.slice A4 q4.length c4)) = w3 at BK3 BKE HB3 OM3 ⊢
              clear hx0 hx1 hx2 hx3 hx4 hy0 hy1 hy2 hy3 hy4 fy0 fy1 fy2 fy3 fy4 BK2 HB2 BKD OM2 HB BK OM
              have z4 : w3.cell? ⟨g2, 4, none⟩ = some (.slice A4 q4.length c4) := (blk_cell BK3.out 4).trans rfl
              go_wp2
              go_loopg [88] q4.length (fun kx s88 wr => ∃ i : Nat, s88 = .int .i64 i ∧ i ≤ q4.length ∧ q4.length - i ≤ kx ∧ Aside0 (SetOK root ns (kidsTo ns j ++ q4.take i)) ∧ Aside0 (IsSet wr gm (12 * j + i) (kidsTo ns j ++ q4.take i)) ∧ Aside0 (Below w.heap.size w wr) ∧ Aside0 (wr.heap[g]? = some (.cells #[.int .i64 root, .int .i64 next, .slice (some ad) ns.length c] 56 (0, 0))))
              case atStart => exact ⟨0, rfl, Nat.zero_le _, by omega, ⟨by simpa using SK.out⟩, ⟨by simpa using OM3.out⟩, ⟨HB3.out⟩, ⟨BKE.out⟩⟩
              case round =>
                clear OM3 HB3 BKE BK3 z4 SK
                obtain ⟨i, rfl, hil, hg, SK, OM, HB, BK⟩ := hrel
                by_cases hlt : i < q4.length
                · obtain ⟨ak, ek, hk0⟩ := Kd.at_int H4.out (i : Int) (by omega) (by omega)
                  cases ek
                  replace hk0 := (HB.out.cell (World.block_lt_of_cell? w _ hk0)).trans hk0
                  rw [Int.toNat_natCast] at hk0
                  have hrd : rd q4 (i : Int) = q4[i] := by unfold rd; rw [Int.toNat_natCast, List.getD_eq_getElem?_getD, List.getElem?_eq_getElem hlt]; rfl
                  rw [hrd] at hk0
                  have K1 := Lib.hid (K64.out q4[i] (List.getElem_mem hlt))
                  have TK := Lib.hid (show q4.take (i + 1) = q4.take i ++ [q4[i]] from by rw [List.take_add_one, List.getElem?_eq_getElem hlt]; rfl)
                  have SP := Lib.hid (SPL2.out i hlt)
                  have HK := Lib.hid (Maps.keyOf_int_mk Try.underlying3 (wf64 K1.out))
                  clear hrd
                  generalize q4[i] = kk at *
                  generalize hacc : kidsTo ns j ++ q4.take i = acc at *
                  have hcell0 : wr.cell? ⟨g, 0, none⟩ = some (.int .i64 root) := (blk_cell BK.out 0).trans rfl
                  have SA := Lib.hid (setD_at acc kk)
                  have HD := Lib.hid (show IsD wr g root next (some ad) c ns from ⟨BK.out, Kd.C_below HC.out HB.out, hc⟩)
                  by_cases e1 : kk ∈ acc
                  · have E1 := Lib.hid (show (setD acc).atKey (.int .i64 kk) (.lit (.bool false)) = .lit (.bool true) from by rw [SA.out, decide_eq_true e1])
                    have NB := Lib.hid (show ¬ DOK root next ns from fun h => by obtain ⟨rest, hr⟩ := SP.out; exact (set_bad (hr ▸ h.2.2.2.1)).1 e1)
                    go_wp2_with (first | (at_lookup; refine lookup_bool _ rfl _ _ 110 rfl 3 4 lawI Try.underlying110 Try.underlying4 (zeroB _) gm (12 * j + i) (setD acc) rfl OM.out _ _ rfl HK.out true E1.out ?_))
                    go_ret
                    exact ⟨⟨false, rfl, ⟨(fun h => by cases h), fun h => absurd h NB.out⟩⟩, HB.out⟩
                  · have E1 := Lib.hid (show (setD acc).atKey (.int .i64 kk) (.lit (.bool false)) = .lit (.bool false) from by rw [SA.out, decide_eq_false e1])
                    by_cases e2 : kk = root
                    · have E2 : (kk == root) = true := beq_iff_eq.mpr e2
                      have NB := Lib.hid (show ¬ DOK root next ns from fun h => by obtain ⟨rest, hr⟩ := SP.out; exact (set_bad (hr ▸ h.2.2.2.1)).2.1 e2)
                      clear e2
                      go_wp2_with (first | (at_lookup; refine lookup_bool _ rfl _ _ 110 rfl 3 4 lawI Try.underlying110 Try.underlying4 (zeroB _) gm (12 * j + i) (setD acc) rfl OM.out _ _ rfl HK.out false E1.out ?_))
                      go_ret
                      exact ⟨⟨false, rfl, ⟨(fun h => by cases h), fun h => absurd h NB.out⟩⟩, HB.out⟩
                    · have E2 : (kk == root) = false := beq_eq_false_iff_ne.mpr e2
                      obtain ⟨hb, hhb⟩ : ∃ hb, hasP ns kk = hb := ⟨_, rfl⟩
                      have HHB := Lib.hid hhb
                      have NE2 := Lib.hid e2
                      have E3 := Lib.hid e1
                      clear e2 hhb e1
                      go_wp2_with (first | (at_lookup; refine lookup_bool _ rfl _ _ 110 rfl 3 4 lawI Try.underlying110 Try.underlying4 (zeroB _) gm (12 * j + i) (setD acc) rfl OM.out _ _ rfl HK.out false E1.out ?_))
                      refine (has_calls g root next (some ad) c ns kk wr HD.out HGD.out K1.out).mono ?_
                      rw [HHB.out]
                      rintro e w4 ⟨rfl, hb4⟩
                      have HB4 := Lib.hid (below_step HB.out hb4)
                      have BK4 := Lib.hid (blk_below BK.out hb4)
                      have OM4 := Lib.hid (OM.out.below hb4)
                      clear hb4 hcell0
                      cases hb with
                      | false =>
                        have NB := Lib.hid (show ¬ DOK root next ns from fun h => by obtain ⟨rest, hr⟩ := SP.out; exact absurd (set_bad (hr ▸ h.2.2.2.1)).2.2 (by rw [HHB.out]; decide))
                        go_wp2
                        go_ret
                        exact ⟨⟨false, rfl, ⟨(fun h => by cases h), fun h => absurd h NB.out⟩⟩, HB4.out⟩
                      | true =>
                        have SK2 := Lib.hid (set_step SK.out E3.out NE2.out HHB.out)
                        have hroom : 12 * j + i < maxLen := by have := K12.out; unfold maxLen; omega
                        have HROOM := Lib.hid hroom
                        clear hroom
                        go_wp2_with (first | (at_mapUpdate; refine wpList_mapUpdate_own _ rfl _ _ _ 110 rfl 3 4 lawI Try.underlying110 _ gm (12 * j + i) (setD acc) rfl OM4.out HROOM.out _ _ (.int .i64 kk) rfl rfl HK.out (.lit (.bool true)) [] (plainElem_bool Try.underlying4 true) ?_; intro w5 om5 hg5; have OM5 := Lib.hid (show IsSet w5 gm (12 * j + i + 1) (acc ++ [kk]) from by unfold IsSet; rw [setD_snoc]; exact om5); have HB5 := Lib.hid (HB4.out.grown hg5 HB4.out.size (fun q hq => by cases hq; exact GMW.out)); have BK5 := Lib.hid (blk_grown BK4.out hg5 (fun e => GNM.out (Option.some.inj e))); clear om5 hg5))
                        --<L2
                        have hil2 := w64_nat (i := i) (Nat.le_trans (Nat.le_of_lt hlt) (Nat.le_trans K12.out (by decide)))
                        go_roundg (q4.length - (i + 1))
                        case measure => exact Nat.lt_of_lt_of_le (Nat.sub_succ_lt_self _ _ hlt) hg
                        case rel => exact ⟨i + 1, by rw [hil2], hlt, Nat.le_refl _, ⟨by rw [TK.out, ← List.append_assoc, hacc]; exact SK2.out⟩, ⟨by rw [TK.out, ← List.append_assoc, hacc]; exact OM5.out⟩, ⟨HB5.out⟩, ⟨BK5.out⟩⟩
                        --L2>
                · obtain rfl : i = q4.length := by omega
                  rw [List.take_length, ← KS.out] at SK OM
                  --<L3
                  have hjl2 := w64_nat (i := j) (Nat.le_trans (Nat.le_of_lt hjt) HGD.out.1)
                  go_wp2
                  go_roundg (ns.length - (j + 1))
                  case measure => exact Nat.lt_of_lt_of_le (Nat.sub_succ_lt_self _ _ hjt) hgj
                  case rel => exact ⟨j + 1, by rw [hjl2], hjt, Nat.le_refl _, SK, ⟨World.ownsMap.mono OM.out (by rw [Nat.mul_succ]; exact Nat.add_le_add_left K12.out _)⟩, HB, BK⟩
                  --L3>
            · obtain rfl : j = ns.length := by omega
              rw [kidsTo_all] at SK OM
              --<L4
              have KI := Lib.hid (show KidsIn ns from fun t ht => ⟨(SO.out t ht).1.2.2.2.2, fun k hk => ⟨(SK.out.2 k (List.mem_flatMap.2 ⟨_, List.getElem_mem ht, by rw [← rdN_get ht]; exact hk⟩)).2, H64.out.2 t ht k hk⟩⟩)
              have HS := Lib.hid (show Maps.size (setD (kidsAll ns)) = (kidsAll ns).length from setD_size _ SK.out.1)
              have z0 : wr.cell? ⟨g, 0, none⟩ = some (.int .i64 root) := (blk_cell BK.out 0).trans rfl
              obtain ⟨hb, hhb⟩ : ∃ hb, hasP ns root = hb := ⟨_, rfl⟩
              have HHB := Lib.hid hhb
              have HD := Lib.hid (show IsD wr g root next A c ns from ⟨BK.out, Kd.C_below HC.out HB.out, hc⟩)
              have HCA := Lib.hid ca
              have HCB := Lib.hid cb
              have HNW := Lib.hid (show wrap64 ((ns.length : Int) - 1) = (ns.length : Int) - 1 from by clear hnx hnx2; unfold wrap64; omega)
              clear hhb ca cb hnx hnx2 hil hg hjl hgj hjt
              go_wp2_with fail
              refine (has_calls g root next A c ns root wr HD.out HGD.out H64.out.1).mono ?_
              rw [HHB.out]
              rintro e w4 ⟨rfl, hb4⟩
              have HB4 := Lib.hid (below_step HB.out hb4)
              have BK4 := Lib.hid (blk_below BK.out hb4)
              have OM4 := Lib.hid (OM.out.below hb4)
              clear hb4 z0 BK OM HB HD
              cases hb with
              | false =>
                have NB := Lib.hid (show ¬ DOK root next ns from fun h => absurd h.2.2.2.2.1.1 (by rw [HHB.out]; decide))
                go_wp2
                go_ret
                exact ⟨⟨false, rfl, ⟨(fun h => by cases h), fun h => absurd h NB.out⟩⟩, HB4.out⟩
              | true =>
                obtain ⟨kz, hkz⟩ : ∃ kz : Int, ((kidsAll ns).length : Int) = kz := ⟨_, rfl⟩
                have hlen : (Builtin.len_ #[110] 3 #[.map (some gm)]).run Try.prog w4 = .ok (.int .i64 kz) w4 := by
                  have := World.ownsMap.len OM4.out Try.underlying110 3
                  rwa [HS.out, hkz] at this
                have z2 : w4.cell? ⟨g, 2, none⟩ = some (.slice A ns.length c) := (blk_cell BK4.out 2).trans rfl
                have hnw := HNW.out
                by_cases e5 : kz = (ns.length : Int) - 1
                · have E5 : (kz == (ns.length : Int) - 1) = true := beq_iff_eq.mpr e5
                  have E5b : (kz != (ns.length : Int) - 1) = false := bne_eq_false_iff_eq.mpr e5
                  have HKZ := Lib.hid (show (kidsAll ns).length + 1 = ns.length by omega)
                  have HDW := Lib.hid (show IsD w4 g root next A c ns from ⟨BK4.out, Kd.C_below HC.out HB4.out, hc⟩)
                  obtain ⟨bd, hbd⟩ : ∃ bd, decide (depP ns 7 root > 6) = bd := ⟨_, rfl⟩
                  have HBD := Lib.hid hbd
                  clear hkz e5 hbd
                  go_wp2_with fail
                  refine (isDeep_calls g root next A c ns HGD.out KI.out w4 HHB.out H64.out.1 HDW.out).mono ?_
                  rw [HBD.out]
                  rintro e w6 ⟨rfl, hb6⟩
                  have HB6 := Lib.hid (below_step HB4.out hb6)
                  have BK6 := Lib.hid (blk_below BK4.out hb6)
                  clear hb6 z2 hlen HB4 BK4 OM4 HDW hnw
                  cases bd with
                  | true =>
                    have NB := Lib.hid (show ¬ DOK root next ns from fun h => by have h1 := h.2.2.2.2.1.2.2; have h2 := of_decide_eq_true HBD.out; exact absurd h1 (Int.not_le.2 h2))
                    go_wp2
                    go_ret
                    exact ⟨⟨false, rfl, ⟨(fun h => by cases h), fun h => absurd h NB.out⟩⟩, HB6.out⟩
                  | false =>
                    have DL := Lib.hid (show depP ns 7 root ≤ 6 from Int.not_lt.1 (of_decide_eq_false HBD.out))
                    have FT := Lib.hid (depP_fits 6 root DL.out)
                    obtain ⟨os, hos⟩ : ∃ os, ordP ns 6 root = os := ⟨_, rfl⟩
                    have HOS := Lib.hid hos
                    have hoc := order_calls g root next A c ns HGD.out KI.out w HC.out hc 6 root (.slice none 0 0) [] w6.drew FT.out HHB.out H64.out.1 (below_drew1 HB6.out) (blk_drew BK6.out) (Kd.R_nil _ _ _ _ _) (by decide)
                    rw [hos, List.nil_append] at hoc
                    have HOC := Lib.hid hoc
                    clear hos hoc
                    have z0 : w6.cell? ⟨g, 0, none⟩ = some (.int .i64 root) := (blk_cell BK6.out 0).trans rfl
                    have z2 : w6.cell? ⟨g, 2, none⟩ = some (.slice A ns.length c) := (blk_cell BK6.out 2).trans rfl
                    obtain ⟨bq, hbq⟩ : ∃ bq, ((os.length : Int) == (ns.length : Int)) = bq := ⟨_, rfl⟩
                    go_upto_region 23 with fail
                    refine start_ (n := 9) (S := fun w' => w'.cell? ⟨g, 0, none⟩ = some (.int .i64 root) ∧ w'.cell? ⟨g, 2, none⟩ = some (.slice A ns.length c)) (ds := []) #[false, false, false, false, false, false, false, false, false] (by kernel_rfl) rfl rfl ⟨z0, z2⟩ (fun hHeld => ?_)
                    refine pure_ (i := 0) (N := some 126) (v := ?_) (a' := ?_) #[true, false, false, false, false, false, false, false, false] rfl rfl (by kernel_rfl) (fun _ _ _ h => h) (Or.inl ⟨by rfl, ?_⟩) ?_ ?_
                    rotate_left
                    · intro w'
                      go_simp
                      with_reducible rfl
                    rotate_left
                    · simp only [Act.put, List.setIfInBounds_toArray, List.set_cons_zero, List.set_cons_succ, i64_w, i32_w]
                      rfl
                    refine pure_ (i := 4) (N := some 130) (v := ?_) (a' := ?_) #[true, false, false, false, true, false, false, false, false] rfl rfl (by kernel_rfl) (fun _ _ _ h => h) (Or.inl ⟨by rfl, ?_⟩) ?_ ?_
                    rotate_left
                    · intro w'
                      go_simp
                      with_reducible rfl
                    rotate_left
                    · simp only [Act.put, List.setIfInBounds_toArray, List.set_cons_zero, List.set_cons_succ, i64_w, i32_w]
                      rfl
                    refine take_ (i := 1) (N := some 127) (v := ?_) (a' := ?_) #[true, true, false, false, true, false, false, false, false] rfl rfl (by kernel_rfl) (fun _ _ _ h => h) (Or.inl ⟨by rfl, ?_⟩) hHeld ?_ ?_
                    rotate_left
                    · rintro w' ⟨s0, s1⟩
                      go_simp
                      with_reducible rfl
                    rotate_left
                    · simp only [Act.put, List.setIfInBounds_toArray, List.set_cons_zero, List.set_cons_succ, i64_w, i32_w]
                      rfl
                    refine take_ (i := 5) (N := some 131) (v := ?_) (a' := ?_) #[true, true, false, false, true, true, false, false, false] rfl rfl (by kernel_rfl) (fun _ _ _ h => h) (Or.inl ⟨by rfl, ?_⟩) hHeld ?_ ?_
                    rotate_left
                    · rintro w' ⟨s0, s1⟩
                      go_simp
                      with_reducible rfl
                    rotate_left
                    · simp only [Act.put, List.setIfInBounds_toArray, List.set_cons_zero, List.set_cons_succ, i64_w, i32_w]
                      rfl
                    refine pure_ (i := 6) (N := some 132) (v := ?_) (a' := ?_) #[true, true, false, false, true, true, true, false, false] rfl rfl (by kernel_rfl) (fun _ _ _ h => h) (Or.inl ⟨by rfl, ?_⟩) ?_ ?_
                    rotate_left
                    · intro w'
                      go_simp
                      with_reducible rfl
                    rotate_left
                    · simp only [Act.put, List.setIfInBounds_toArray, List.set_cons_zero, List.set_cons_succ, i64_w, i32_w]
                      rfl
                    refine one_ (i := 2) (N := some 128) #[true, true, true, false, true, true, true, false, false] rfl rfl (by kernel_rfl) (by decide) (fun K hK => ?_)
                    refine goes_ Try.func100 (by kernel_rfl) rfl #[.pointer (some ⟨g, 0, none⟩), .slice none 0 0, .int .i64 root] (by rfl) rfl rfl (by simp only [List.map_toArray, List.map_cons, List.map_nil]; rfl) ?_
                    with_reducible refine (HOC.out).mono ?_
                    rintro e w8 ⟨v8, rfl, hr8, hb8, hk8⟩
                    refine ⟨_, rfl, ?_⟩
                    obtain ⟨A8, c8, rfl⟩ := Kd.R_slice hr8
                    refine hK.out _ _ ⟨(blk_cell hk8 0).trans rfl, (blk_cell hk8 2).trans rfl⟩ (fun hHeld => ?_)
                    clear hK K
                    refine norm_ (a' := ?_) ?_ ?_
                    rotate_left
                    · show Act.put _ (some 128) _ = _
                      simp only [Act.put, List.setIfInBounds_toArray, List.set_cons_zero, List.set_cons_succ, i64_w, i32_w]
                      rfl
                    refine pure_ (i := 3) (N := some 129) (v := ?_) (a' := ?_) #[true, true, true, true, true, true, true, false, false] rfl rfl (by kernel_rfl) (fun _ _ _ h => h) (Or.inl ⟨by rfl, ?_⟩) ?_ ?_
                    rotate_left
                    · intro w'
                      go_simp
                      with_reducible rfl
                    rotate_left
                    · simp only [Act.put, List.setIfInBounds_toArray, List.set_cons_zero, List.set_cons_succ, i64_w, i32_w]
                      rfl
                    refine pure_ (i := 7) (N := some 133) (v := ?_) (a' := ?_) #[true, true, true, true, true, true, true, true, false] rfl rfl (by kernel_rfl) (fun _ _ _ h => h) (Or.inl ⟨by rfl, ?_⟩) ?_ ?_
                    rotate_left
                    · intro w'
                      go_simp
                      with_reducible rfl
                    rotate_left
                    · simp only [Act.put, List.setIfInBounds_toArray, List.set_cons_zero, List.set_cons_succ, i64_w, i32_w]
                      rfl
                    refine pure_ (i := 8) (N := some 2) (v := ?_) (a' := ?_) #[true, true, true, true, true, true, true, true, true] rfl rfl (by kernel_rfl) (fun _ _ _ h => h) (Or.inl ⟨by rfl, ?_⟩) ?_ ?_
                    rotate_left
                    · intro w'
                      go_simp
                      with_reducible rfl
                    rotate_left
                    · simp only [Act.put, List.setIfInBounds_toArray, List.set_cons_zero, List.set_cons_succ, i64_w, i32_w]
                      rfl
                    refine done_ (by kernel_rfl) ?_
                    
                    have HB8 := Lib.hid hb8
                    have HBQ := Lib.hid (show Bk bq (DOK root next ns) from ⟨fun h => ⟨⟨by have := HCA.out; omega, by have := HCA.out; omega⟩, HCB.out, SO.out, SK.out, ⟨HHB.out, HKZ.out, DL.out⟩, by rw [HOS.out]; have := hbq.trans h; exact Int.ofNat.inj (beq_iff_eq.1 this)⟩, fun h => by rw [← hbq]; exact beq_iff_eq.2 (by rw [← HOS.out, h.2.2.2.2.2])⟩)
                    go_wp2
                    go_ret
                    exact ⟨⟨bq, by first | rfl | simp [hbq], HBQ.out⟩, HB8.out⟩
                · have E5 : (kz == (ns.length : Int) - 1) = false := beq_eq_false_iff_ne.mpr e5
                  have E5b : (kz != (ns.length : Int) - 1) = true := bne_iff_ne.mpr e5
                  have NB := Lib.hid (show ¬ DOK root next ns from fun h => e5 (by have := h.2.2.2.2.1.2.1; omega))
                  clear e5
                  go_wp2
                  go_ret
                  exact ⟨⟨false, rfl, ⟨(fun h => by cases h), fun h => absurd h NB.out⟩⟩, HB4.out⟩
              --L4>
    · go_enter Try.func76, Try.ntmps76
      go_wp2_with (first | ((with_reducible refine gate_dst (N := 1) rfl ?_); refine box_event ?hg (N := 1) ?hd (cs := #[.int .i64 root, .int .i64 next, .slice A ns.length c]) (t := 56) ?hr ?_; (case hd => rfl); (case hg => rfl); (case hr => first | (go_simp; done) | (go_simp; rfl)); intro g hg w1 hb1 hB1; clear hg; have HB := Lib.hid hB1; have hz1 : w1.cell? ⟨g, 1, none⟩ = some (.int .i64 next) := (blk_cell hb1 1).trans rfl; have hz2 : w1.cell? ⟨g, 2, none⟩ = some (.slice A ns.length c) := (blk_cell hb1 2).trans rfl; clear hb1 hB1))
      refine (within_c _ _ _ _ (r := true) (decide_eq_true ca)).mono ?_
      rintro e w2 ⟨rfl, nd, rfl⟩
      go_wp2_with fail
      refine (within_c _ _ _ _ (r := false) (decide_eq_false cb)).mono ?_
      rintro e w2 ⟨rfl, nd2, rfl⟩
      go_wp2
      go_ret
      exact ⟨⟨false, rfl, ⟨(fun h => by cases h), fun h => absurd h.2.1 cb⟩⟩, pw_below_drewN HB.out _⟩
  · go_enter Try.func76, Try.ntmps76
    go_wp2_with (first | ((with_reducible refine gate_dst (N := 1) rfl ?_); refine box_event ?hg (N := 1) ?hd (cs := #[.int .i64 root, .int .i64 next, .slice A ns.length c]) (t := 56) ?hr ?_; (case hd => rfl); (case hg => rfl); (case hr => first | (go_simp; done) | (go_simp; rfl)); intro g hg w1 hb1 hB1; clear hg; have HB := Lib.hid hB1; have hz2 : w1.cell? ⟨g, 2, none⟩ = some (.slice A ns.length c) := (blk_cell hb1 2).trans rfl; clear hb1 hB1))
    refine (within_c _ _ _ _ (r := false) (decide_eq_false ca)).mono ?_
    rintro e w2 ⟨rfl, nd, rfl⟩
    go_wp2
    go_ret
    exact ⟨⟨false, rfl, ⟨(fun h => by cases h), fun h => absurd h.1 (by omega)⟩⟩, pw_below_drewN HB.out _⟩
end Go.Proofs.Ytnppmhijoaeibaa.H
set_option linter.unusedVariables false
namespace Go.Proofs.Ytnppmhijoaeibaa.H
open Go.RowKit Go.Proofs.YtnppmhijoaeibaaW.PrintWords Go.Proofs.YtnppmhijoaeibaaW.PrintLast Go.Proofs.Ytnppmhijoaeibaa.Q
noncomputable def docB (root next : Int) (ns : List Nd) : Bool := @decide (DOK root next ns) (Classical.propDecidable _)
theorem docB_iff {root next : Int} {ns : List Nd} : docB root next ns = true ↔ DOK root next ns := by unfold docB; exact @decide_eq_true_iff _ (Classical.propDecidable _)
noncomputable def impl_DocOK.f (a0_0 : Int) (a0_1 : Int) (l0_2 : List (S108)) : Option Bool := @ite _ (All64 a0_0 l0_2) (Classical.propDecidable _) (some (docB a0_0 a0_1 l0_2)) none
theorem impl_DocOK.calls (a0_0 : Int) (a0_1 : Int) (A0_2 : Option Addr) (c0_2 : Nat) (l0_2 : List (S108)) (r : Bool) (w : World) (hr0_2 : Kd.C k108 w A0_2 l0_2.length l0_2) (hc0_2 : l0_2.length ≤ c0_2) (h : impl_DocOK.f a0_0 a0_1 l0_2 = some r) :
    Calls Try.prog 76 #[.agg #[.int .i64 a0_0, .int .i64 a0_1, .slice A0_2 l0_2.length c0_2]] w fun e w' => e = .returned (.bool r) ∧ Below w.heap.size w w' := by
  unfold impl_DocOK.f at h
  by_cases c : All64 a0_0 l0_2
  · rw [if_pos c] at h
    obtain rfl := Option.some.inj h
    refine (docOK_calls a0_0 a0_1 A0_2 c0_2 l0_2 w hr0_2 hc0_2 c).mono ?_
    rintro e w' ⟨⟨b, rfl, hb⟩, hB⟩
    refine ⟨?_, hB⟩
    have e1 : docB a0_0 a0_1 l0_2 = b := Bool.eq_iff_iff.2 (docB_iff.trans hb.symm)
    rw [e1]
  · rw [if_neg c] at h; cases h
end Go.Proofs.Ytnppmhijoaeibaa.H
set_option linter.unusedVariables false
set_option linter.unusedSimpArgs false
namespace Go.Proofs.Ytnppmhijoaeibaa.H
open Go.RowKit Go.Proofs.YtnppmhijoaeibaaW.PrintWords Go.Proofs.Ytnppmhijoaeibaa.Q
theorem tmodE {a b : Int} (h : 0 ≤ a) : Int.tmod a b = a % b := Int.tmod_eq_emod_of_nonneg h
theorem tdivE {a b : Int} (h : 0 ≤ a) : Int.tdiv a b = a / b := Int.tdiv_eq_ediv_of_nonneg h
theorem Ev.val {α : Type} {g : Nat → Option α} {r : α} (K : Nat) (h : ∀ k, g (k + K) = some r) : Ev g r := ⟨K, fun k hk => by have := h (k - K); rwa [Nat.sub_add_cancel hk] at this⟩
theorem Ev.const {α : Type} {x : Option α} {r : α} (h : x = some r) : Ev (fun _ => x) r := ⟨0, fun _ _ => h⟩
def putS (n : Int) : ByteArray := strOfNums (putL n)
theorem strOfNums_size (xs : List Int) : (strOfNums xs).size = xs.length := by simp [strOfNums, ByteArray.size]
theorem putS_size (n : Int) : (putS n).size = (putL n).length := strOfNums_size _
theorem putS_len (n : Int) : (putS n).size ≤ 3 := by rw [putS_size]; exact putL_len n
theorem number_eq {n : Int} (h : n < 2097152) : impl_number.f n = some (putS n) := by unfold impl_number.f; rw [if_pos h]; rfl
theorem l01Put_eq {n : Int} (h0 : 0 ≤ n) (h : n < 2097152) : Ev (fun k => spec_l01Put.f k n) (putS n) := by
  refine Ev.val 4 fun k => ?_
  unfold spec_l01Put.f putS putL
  by_cases h3 : 16383 < n
  · simp (disch := omega) only [spec_l01Put.l0, if_pos, if_neg, wid, tmodE, tdivE, List.length_nil, List.length_append, List.length_cons, List.nil_append, List.cons_append, h3]
    congr 2
    simp; omega
  · by_cases h2 : 127 < n
    · simp (disch := omega) only [spec_l01Put.l0, if_pos, if_neg, wid, tmodE, tdivE, List.length_nil, List.length_append, List.length_cons, List.nil_append, List.cons_append, h3, h2]
      congr 2
      simp; omega
    · simp (disch := omega) only [spec_l01Put.l0, if_pos, if_neg, wid, tmodE, tdivE, List.length_nil, List.length_append, List.length_cons, List.nil_append, List.cons_append, h3, h2]
      rw [if_neg (by simp)]
end Go.Proofs.Ytnppmhijoaeibaa.H
set_option linter.unusedVariables false
set_option linter.unusedSimpArgs false
namespace Go.Proofs.Ytnppmhijoaeibaa.H
open Go.RowKit Go.Proofs.YtnppmhijoaeibaaW.PrintWords Go.Proofs.Ytnppmhijoaeibaa.Q
def sumL (l : List UInt8) (n : Int) : Int := l.foldl (fun n b => (31 * n + b.toNat) % 65521) n
def sumP (t : ByteArray) : Int := sumL t.data.toList 1
theorem sumL_range (l : List UInt8) : ∀ {n : Int}, 0 ≤ n → n < 65521 → 0 ≤ sumL l n ∧ sumL l n < 65521 := by
  induction l with
  | nil => intro n h0 h1; exact ⟨h0, h1⟩
  | cons b l ih => intro n h0 h1; exact ih (n := (31 * n + b.toNat) % 65521) (by omega) (by omega)
theorem sumP_range (t : ByteArray) : 0 ≤ sumP t ∧ sumP t < 65521 := sumL_range _ (by omega) (by omega)
theorem bt_nat (t : ByteArray) (i : Nat) (h : i < t.size) : bt t i = (t[i].toNat : Int) := by unfold bt; simp [h]
theorem drop_step (t : ByteArray) (i : Nat) (h : i < t.size) : t.data.toList.drop i = t[i] :: t.data.toList.drop (i + 1) := by
  rw [List.drop_eq_getElem_cons (by simpa using h)]; rfl
theorem sum_step (t : ByteArray) (i : Nat) (h : i < t.size) (n : Int) : sumL (t.data.toList.drop i) n = sumL (t.data.toList.drop (i + 1)) ((31 * n + bt t i) % 65521) := by
  rw [drop_step t i h, bt_nat t i h]; rfl
theorem sum_done (t : ByteArray) (i : Nat) (h : t.size ≤ i) (n : Int) : sumL (t.data.toList.drop i) n = n := by
  rw [List.drop_of_length_le (by simpa using h)]; rfl
theorem sum_arith {n b : Int} (h0 : 0 ≤ n) (h1 : n < 65521) (b0 : 0 ≤ b ∧ b ≤ 255) : Int.tmod (wrap64 (wrap64 (31 * n) + wrap64 b)) 65521 = (31 * n + b) % 65521 := by
  rw [wid (x := 31 * n) (by omega) (by omega), wid (x := b) (by omega) (by omega), wid (by omega) (by omega), tmodE (by omega)]
theorem mod_range (x : Int) : 0 ≤ x % 65521 ∧ x % 65521 < 65521 := by omega
theorem nat_wrap {i : Nat} {m : Nat} (h : i < m) (hm : m ≤ 1048576) : wrap64 ((i : Int) + 1) = ((i + 1 : Nat) : Int) := by rw [wid (by omega) (by omega)]; omega
theorem l01Sum_loop (t : ByteArray) (h2 : t.size ≤ 1048576) (d : Nat) : ∀ (i : Nat) (n : Int) (k : Nat), i + d = t.size → 0 ≤ n → n < 65521 → spec_l01Sum.l0 (k + d + 1) t n i = some (sumL (t.data.toList.drop i) n) := by
  induction d with
  | zero =>
    intro i n k hi h0 h1
    rw [spec_l01Sum.l0, if_neg (by omega), sum_done t i (by omega)]
  | succ d ih =>
    intro i n k hi h0 h1
    rw [spec_l01Sum.l0, if_pos (by omega), if_pos (by omega), sum_arith h0 h1 (bt_range t i), nat_wrap (m := t.size) (by omega) h2, sum_step t i (by omega)]
    exact ih (i + 1) _ k (by omega) (mod_range _).1 (mod_range _).2
theorem l01Sum_eq {t : ByteArray} (h2 : t.size ≤ 1048576) : Ev (fun k => spec_l01Sum.f k t) (sumP t) :=
  Ev.val (t.size + 1) fun k => by
    have := l01Sum_loop t h2 t.size 0 1 k (by omega) (by omega) (by omega)
    rw [List.drop_zero] at this
    exact this
theorem sumOf_loop (t : ByteArray) (h2 : t.size ≤ 1048576) (d : Nat) : ∀ (i : Nat) (n : Int) (k : Nat), i + d = t.size → 0 ≤ n → n < 65521 → impl_sumOf.l0 (k + d + 1) t n t.size i = some (sumL (t.data.toList.drop i) n) := by
  induction d with
  | zero =>
    intro i n k hi h0 h1
    rw [impl_sumOf.l0, if_neg (by omega), sum_done t i (by omega)]
  | succ d ih =>
    intro i n k hi h0 h1
    rw [impl_sumOf.l0, if_pos (by omega), if_pos (by omega), if_pos (by omega), sum_arith h0 h1 (bt_range t i), nat_wrap (m := t.size) (by omega) h2, sum_step t i (by omega)]
    exact ih (i + 1) _ k (by omega) (mod_range _).1 (mod_range _).2
theorem sumOf_eq {t : ByteArray} (h2 : t.size ≤ 1048576) : Ev (fun k => impl_sumOf.f k t) (sumP t) :=
  Ev.val (t.size + 1) fun k => by
    have := sumOf_loop t h2 t.size 0 1 k (by omega) (by omega) (by omega)
    rw [List.drop_zero] at this
    exact this
def sum2 (t : ByteArray) : ByteArray := strOfNums [sumP t % 256, sumP t / 256]
theorem sum2_size (t : ByteArray) : (sum2 t).size = 2 := strOfNums_size _
theorem sum_two (t : ByteArray) : [Int.tmod (sumP t) 256 % 256, wrap64 (Int.tdiv (sumP t) 256) % 256] = [sumP t % 256, sumP t / 256] := by
  have := sumP_range t
  generalize sumP t = s at *
  rw [tmodE (by omega), tdivE (by omega), wid (by omega) (by omega), show s % 256 % 256 = s % 256 by omega, show s / 256 % 256 = s / 256 by omega]
theorem sumText_eq {t : ByteArray} (h2 : t.size ≤ 1048576) : Ev (fun k => impl_sumText.f k t) (sum2 t) :=
  (sumOf_eq h2).bind (Ev.const (by rw [sum_two]; rfl))
def textS (t : ByteArray) : ByteArray := putS t.size ++ t
theorem textS_size (t : ByteArray) : (textS t).size = (putS t.size).size + t.size := by unfold textS; simp
theorem textS_len (t : ByteArray) : (textS t).size ≤ t.size + 3 := by have := putS_len t.size; rw [textS_size]; omega
theorem text_eq {t : ByteArray} (h2 : t.size ≤ 1048576) : impl_text.f t = some (textS t) := by
  unfold impl_text.f
  have := putS_len t.size
  rw [number_eq (by omega), Option.bind_some, if_pos (by omega)]; rfl
theorem l01PutText_eq {t : ByteArray} (h2 : t.size ≤ 1048576) : Ev (fun k => spec_l01PutText.f k t) (textS t) :=
  (l01Put_eq (n := t.size) (by omega) (by omega)).bind (Ev.const (by have := putS_len t.size; rw [if_pos (by omega)]; rfl))
def coS : ByteArray := ⟨#[67, 79]⟩
def bodyS (t : ByteArray) : ByteArray := coS ++ textS t
theorem bodyS_size (t : ByteArray) : (bodyS t).size = 2 + (textS t).size := by unfold bodyS; rw [ByteArray.size_append]; rfl
def frameS (t : ByteArray) : ByteArray := bodyS t ++ sum2 (bodyS t)
theorem l01Frame_eq {t : ByteArray} (h2 : t.size ≤ 1000000) : Ev (fun k => spec_l01Frame.f k t) (frameS t) := by
  have hl := textS_len t
  have hb := bodyS_size t
  refine (l01PutText_eq (by omega)).bind ?_
  rw [show (fun n => (fun k t119 => if 2 + ByteArray.size t119 ≤ 9223372036854775807 then (spec_l01Sum.f k ((⟨#[67, 79]⟩ : ByteArray) ++ t119)).bind fun t120 => ((some (([(Int.tmod t120 256) % 256, (wrap64 (Int.tdiv t120 256)) % 256] : List Int) : List Int)).bind fun y121 => (if ((⟨#[67, 79]⟩ : ByteArray) ++ t119).size + (strOfNums y121).size ≤ 9223372036854775807 then (some (((⟨#[67, 79]⟩ : ByteArray) ++ t119) ++ (strOfNums y121))) else (none))) else none) n (textS t)) =
    fun n => (spec_l01Sum.f n (bodyS t)).bind fun s => if (bodyS t).size + 2 ≤ 9223372036854775807 then some (bodyS t ++ strOfNums [(Int.tmod s 256) % 256, (wrap64 (Int.tdiv s 256)) % 256]) else none from by
      funext n; simp only []; rw [if_pos (by omega)]; rfl]
  refine (l01Sum_eq (by omega)).bind (Ev.const ?_)
  rw [if_pos (by omega), sum_two]; rfl
theorem frame_eq {t : ByteArray} (h2 : t.size ≤ 1000000) : Ev (fun k => impl_frame.f k t) (frameS t) := by
  have hl := textS_len t
  have hb := bodyS_size t
  refine Ev.congr (f := fun k => (impl_sumText.f k (bodyS t)).bind fun s => if (bodyS t).size + s.size ≤ 9223372036854775807 then some (bodyS t ++ s) else none) (fun k => ?_) ((sumText_eq (by omega)).bind (Ev.const ?_))
  · unfold impl_frame.f; rw [text_eq (by omega), Option.bind_some, if_pos (by omega)]; rfl
  · rw [if_pos (by rw [sum2_size]; omega)]; rfl
end Go.Proofs.Ytnppmhijoaeibaa.H
