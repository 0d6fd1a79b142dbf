/- What an argument of a law reads as, kind by kind: from the row's reading of it to the printed contracts' one. -/
import Derived.Test.YtnppmhijoaeibaaDoorProg
import Derived.Test.YtnppmhijoaeibaaDoorWWords
import Derived.ChangeArms
import Derived.Deep.Slices
set_option linter.unusedVariables false
set_option linter.unusedSimpArgs false
namespace Go.Proofs.YtnppmhijoaeibaaDoor.H
open Go.RowKit Go.Proofs.YtnppmhijoaeibaaDoorW.PrintWords

/-- A type's values read as the kind d says; wf: what holds of them. -/
def Opn (t : TypeId) {α : Type} (d : Kd α) (wf : α → Prop) : Prop :=
  ∀ {H : Type} (enc : TypeId × Value → H) (W : World) (fuel : Nat) (cs : List Value) (x : DataW H × List MemPlace), DataW.trod enc Tryd.prog W 0 (fun _ => true) true fuel t cs = some x → ∃ y, d.K W y cs ∧ wf y
theorem opn_int {t : TypeId} {k : IntKind} (ht : Tryd.prog.underlying t = some (.int k)) : Opn t (Kd.int k) (fun n => (Lit.int k n).wf = true) := by
  intro H enc W fuel cs x h
  obtain ⟨n, rfl, _, w⟩ := DataW.trod_int ht h
  exact ⟨n, rfl, w⟩
theorem opn_bool {t : TypeId} (ht : Tryd.prog.underlying t = some .bool) : Opn t Kd.bool (fun _ => True) := by
  intro H enc W fuel cs x h
  obtain ⟨n, rfl, _⟩ := DataW.trod_bool ht h
  exact ⟨n, rfl, trivial⟩
theorem opn_str {t : TypeId} (ht : Tryd.prog.underlying t = some .string) : Opn t Kd.string (fun s => s.size ≤ maxLen) := by
  intro H enc W fuel cs x h
  obtain ⟨n, rfl, _, w⟩ := DataW.trod_string ht h
  exact ⟨n, rfl, w⟩
theorem opn_slice {t e : TypeId} {α : Type} {d : Kd α} {wf : α → Prop} (ht : Tryd.prog.underlying t = some (.slice e)) (hs : Tryd.prog.cellsOf e = d.sz) (he : Opn e d wf) : Opn t (Kd.slice e d) (fun ys => ys.length ≤ maxLen ∧ ∀ y ∈ ys, wf y) := by
  intro H enc W fuel cs x h
  rcases Go.Deep.open_slice ht h with ⟨rfl, _⟩ | ⟨a, len, cap, m, n, D, Pl, rfl, _, hl, hm, hmm, _, hel⟩
  · exact ⟨[], ⟨none, 0, rfl, Nat.le_refl _, rfl, by simp, fun hn => absurd hn (by simp)⟩, by simp, by simp⟩
  · have hmlen : len ≤ m := by rw [hmm]; simp; exact hl
    have key : ∀ i, i < len → ∃ cs' y, W.cells? 0 (a.add (i * Tryd.prog.cellsOf e)) (Tryd.prog.cellsOf e) = some cs' ∧ d.K W y cs' ∧ wf y := fun i hi => by
      obtain ⟨cs', h1, h2⟩ := hel i (by omega)
      obtain ⟨y, hy, hw⟩ := he enc W _ _ _ h2
      exact ⟨cs', y, h1, hy, hw⟩
    have build : ∀ L, L ≤ len → ∃ ys : List α, ys.length = L ∧ (∀ y ∈ ys, wf y) ∧ ∀ j y, ys[j]? = some y → ∃ cs', W.cells? 0 (a.add (j * Tryd.prog.cellsOf e)) (Tryd.prog.cellsOf e) = some cs' ∧ d.K W y cs' := by
      intro L
      induction L with
      | zero => intro _; exact ⟨[], rfl, by simp, by simp⟩
      | succ L ih =>
        intro hL
        obtain ⟨ys, h1, h2, h3⟩ := ih (by omega)
        obtain ⟨cs', y, g1, g2, g3⟩ := key L (by omega)
        refine ⟨ys ++ [y], by simp [h1], fun z hz => ?_, fun j z hj => ?_⟩
        · rcases List.mem_append.1 hz with hz | hz
          · exact h2 z hz
          · rw [List.mem_singleton.1 hz]; exact g3
        · by_cases g : j < ys.length
          · rw [List.getElem?_append_left g] at hj; exact h3 j z hj
          · rw [List.getElem?_append_right (by omega)] at hj
            obtain ⟨hq, rfl⟩ := List.getElem?_eq_some_iff.1 hj
            have : j = L := by simp at hq; omega
            subst this
            refine ⟨cs', g1, ?_⟩
            simpa using g2
    obtain ⟨ys, h1, h2, h3⟩ := build len (Nat.le_refl _)
    refine ⟨ys, ⟨some a, cap, by rw [h1], by rw [h1]; exact hl, rfl, ?_, fun _ => ⟨a, rfl, fun j p hj => ?_⟩⟩, by rw [h1]; exact Nat.le_trans hl hm, h2⟩
    · rw [h1]; have := Nat.le_trans hl hm; simpa [maxLen] using this
    · obtain ⟨cs', g1, g2⟩ := h3 j p hj
      obtain ⟨_, g3, g4⟩ := World.cells?_some g1
      refine ⟨cs', by rw [g3, hs], g2, fun i u hu => ?_⟩
      have hi : i < Tryd.prog.cellsOf e := by rw [← g3]; exact (List.getElem?_eq_some_iff.1 hu).1
      have := g4 i hi
      rw [hu, Addr.add_add, hs] at this
      exact this
theorem cons_of {l : List Value} {n : Nat} (h : l.length = n + 1) : ∃ q t, l = q :: t ∧ t.length = n := by
  cases l with
  | nil => simp at h
  | cons q t => exact ⟨q, t, rfl, by simpa using h⟩
theorem cut_ (l : List Value) (a b : Nat) : l.drop a = (l.drop a).take b ++ l.drop (a + b) := by rw [← List.drop_drop, List.take_append_drop]
end Go.Proofs.YtnppmhijoaeibaaDoor.H
