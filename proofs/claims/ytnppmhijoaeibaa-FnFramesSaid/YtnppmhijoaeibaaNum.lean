/- impl.number: the bytes of a number, seven bits each, by a strings.Builder; for numbers of at most three bytes. -/
import Derived.Test.YtnppmhijoaeibaaBld
import Derived.Test.YtnppmhijoaeibaaWWords
import Derived.LoopTactic
import Derived.Lib.Hide
set_option linter.unusedVariables false
set_option linter.unusedSimpArgs false
namespace Go.Proofs.Ytnppmhijoaeibaa.H
open Go.RowKit Go.Proofs.YtnppmhijoaeibaaW.PrintWords

/-- A number's bytes. -/
def putL (n : Int) : List Int := if 16383 < n then [n % 128 + 128, n / 128 % 128 + 128, n / 16384] else if 127 < n then [n % 128 + 128, n / 128] else [n % 256]
theorem putL_step {m : Int} (h : 127 < m) (h2 : m < 2097152) : putL m = (m % 128 + 128) :: putL (m / 128) := by
  unfold putL
  by_cases h3 : 16383 < m
  · rw [if_pos h3, if_neg (by omega), if_pos (by omega), show m / 128 / 128 = m / 16384 by omega]
  · rw [if_neg h3, if_pos h, if_neg (by omega), if_neg (by omega), show m / 128 % 256 = m / 128 by omega]
theorem putL_len (m : Int) : (putL m).length ≤ 3 := by
  unfold putL; split
  · simp
  · split <;> simp
theorem putL_range {m : Int} (h2 : m < 2097152) : ∀ x ∈ putL m, 0 ≤ x ∧ x ≤ 255 := by
  unfold putL; intro x hx
  split at hx
  · simp at hx; omega
  · split at hx
    · simp at hx; omega
    · simp at hx; omega
theorem putL_ne (m : Int) : putL m ≠ [] := by
  unfold putL; split
  · simp
  · split <;> simp
def impl_number.f (a0 : Int) : Option ByteArray := if a0 < 2097152 then some (strOfNums (putL a0)) else none
theorem nums_cells (xs : List Int) (h : ∀ x ∈ xs, 0 ≤ x ∧ x ≤ 255) : nums .u8 xs = Lib.byteCells (xs.map fun x => UInt8.ofNat x.toNat) := by
  induction xs with
  | nil => rfl
  | cons x xs ih =>
    have hx := h x (by simp)
    have hi := ih (fun y hy => h y (by simp [hy]))
    simp only [nums, Lib.byteCells, List.map_cons] at hi ⊢
    rw [hi]
    congr 1
    have : (UInt8.ofNat x.toNat).toNat = x.toNat := by simp [UInt8.toNat_ofNat']; omega
    rw [this]; congr 1; omega
def NumRel (w : World) (a0 : Int) (n : Value) (wr : World) : Prop :=
  ∃ (m : Int) (bs : List Int), n = .int .i64 m ∧ m < 2097152 ∧ bs ++ putL m = putL a0 ∧ Lib.IsBuilder 73 5 w.heap.size w.heap.size (nums .u8 bs) wr ∧ Below w.heap.size w wr
set_option maxHeartbeats 2000000 in
set_option maxRecDepth 100000 in
theorem impl_number.calls (a0 : Int) (r : ByteArray) (w : World) (h : impl_number.f a0 = some r) :
    Calls Try.prog 46 #[.int .i64 a0] w fun e w' => e = .returned (.string r) ∧ Below w.heap.size w w' := by
  unfold impl_number.f at h
  by_cases h0 : a0 < 2097152
  · rw [if_pos h0] at h
    obtain rfl := Option.some.inj h
    clear h
    go_enter Try.func46, Try.ntmps46
    go_wp2
    go_loopw [0] (fun n wr => NumRel w a0 n wr) (fun n _ => (intOf n).toNat)
    case atStart =>
      exact ⟨a0, [], rfl, h0, rfl, .inl ⟨Nat.le_refl _, .slice none 0 0, by rw [heap_alloc_new], own_nil _ _ _ _, by simp [Value.ownBlock]⟩, (Below.refl _ _).alloc (Nat.le_refl _) _⟩
    case round =>
      obtain ⟨m, bs, rfl, hm, hbs, hB, hb⟩ := hrel
      have hl : (nums .u8 bs).length + 1 ≤ 140737488355328 := by
        have h1 := congrArg List.length hbs
        have h2 := putL_len a0
        rw [List.length_append] at h1
        rw [nums_length]; omega
      by_cases hlt : 127 < m
      · have hs := Lib.hid (putL_step hlt hm)
        have HBS := Lib.hid hbs
        clear hbs
        go_wp2_with fail
        refine (writeByte isB w.heap.size w.heap.size _ _ _ hB hl hb.size).mono ?_
        rintro e w1 ⟨rfl, h1, hb1⟩
        go_wp2
        go_roundw
        case rel =>
          refine ⟨m / 128, bs ++ [m % 128 + 128], rfl, by omega, ?_, .inr ?_, hb.trans hb1⟩
          · rw [List.append_assoc, ← HBS.out, hs.out]; rfl
          · rw [nums_append]; exact h1
        case measure => simp [intOf]; omega
      · have hs : putL m = [m % 256] := by unfold putL; rw [if_neg (by omega), if_neg hlt]
        have HS := Lib.hid hs
        have HBS := Lib.hid hbs
        clear hs hbs
        go_wp2_with fail
        refine (writeByte isB w.heap.size w.heap.size _ _ _ hB hl hb.size).mono ?_
        rintro e w1 ⟨rfl, h1, hb1⟩
        go_wp2_with fail
        have he : nums .u8 bs ++ [Value.int .u8 (m % 256)] = Lib.byteCells ((putL a0).map fun x => UInt8.ofNat x.toNat) := by
          rw [← nums_cells _ (putL_range h0), ← HBS.out, HS.out, nums_append]; rfl
        rw [he] at h1
        refine (string_ isB w.heap.size w.heap.size _ _ (.inr h1) (by simpa using putL_ne a0)).mono ?_
        rintro e w2 ⟨rfl, hb2⟩
        go_wp2
        go_ret
        exact ⟨rfl, (hb.trans hb1).trans hb2⟩
  · rw [if_neg h0] at h; cases h
end Go.Proofs.Ytnppmhijoaeibaa.H
