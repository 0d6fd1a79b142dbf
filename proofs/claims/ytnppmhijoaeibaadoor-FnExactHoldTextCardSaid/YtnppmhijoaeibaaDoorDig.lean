/- The reference's digits are the library's: in plain Lean. -/
import Derived.Test.YtnppmhijoaeibaaDoorPEvtx1
import Derived.Test.YtnppmhijoaeibaaDoorTab
import Derived.Test.YtnppmhijoaeibaaDoorAid
import Derived.Test.YtnppmhijoaeibaaDoorWLast
import Derived.Lib.ItoaLen
import Derived.Lib.ItoaMem
set_option linter.unusedVariables false
set_option linter.unusedSimpArgs false
namespace Go.Proofs.YtnppmhijoaeibaaDoor.H
open Go.RowKit Go.Proofs.YtnppmhijoaeibaaDoorW.PrintWords Go.Proofs.YtnppmhijoaeibaaDoorW.PrintLast Go.Proofs.YtnppmhijoaeibaaDoor.Q

/-- A number's digits. -/
def digS (n : Int) : ByteArray := ⟨(Lib.itoa n).toArray⟩
theorem digS_size (n : Int) (h0 : 0 ≤ n) (h1 : n ≤ 999999999) : (digS n).size ≤ 21 := by
  have := Lib.itoa_length_le n (by omega) (by omega)
  show (Lib.itoa n).toArray.size ≤ 21
  rw [List.size_toArray]; exact this
theorem itoa_f {n : Int} (h0 : 0 ≤ n) (h1 : n ≤ 999999999) : strconv_Itoa.f n = some (digS n) := by unfold strconv_Itoa.f; rw [if_pos ⟨by omega, by omega⟩]; rfl
theorem Evc.val {α : Type} {g : Nat → Option α} {r : α} (K : Nat) (h : ∀ k, g (k + K) = some r) : Ev g r := ⟨K, fun k hk => by have := h (k - K); rwa [Nat.sub_add_cancel hk] at this⟩
theorem Evc.const {α : Type} {x : Option α} {r : α} (h : x = some r) : Ev (fun _ => x) r := ⟨0, fun _ _ => h⟩
theorem digits_small {n : Nat} (h : n < 10) : digS (n : Int) = strOfNums [wrap64 (48 + (n : Int)) % 256] := by
  unfold digS
  rw [Lib.itoa_nonneg, Lib.decDigits_one h]
  have e : wrap64 (48 + (n : Int)) % 256 = ((48 + n : Nat) : Int) := by rw [wid (by omega) (by omega)]; omega
  rw [e]; rfl
theorem digits_big {n : Nat} (h : ¬ n < 10) : digS (n : Int) = digS ((n / 10 : Nat) : Int) ++ strOfNums [wrap64 (48 + (Int.tmod (n : Int) 10)) % 256] := by
  have e : wrap64 (48 + Int.tmod (n : Int) 10) % 256 = ((48 + n % 10 : Nat) : Int) := by rw [Int.tmod_eq_emod_of_nonneg (by omega), wid (by omega) (by omega)]; omega
  rw [e]
  unfold digS
  rw [Lib.itoa_nonneg, Lib.itoa_nonneg]
  apply ByteArray.ext
  apply Array.ext'
  rw [ByteArray.data_append, Array.toList_append]
  conv => lhs; rw [Lib.decDigits, dif_neg h]
  rfl
theorem l00Digits_eq : ∀ n : Nat, n ≤ 999999999 → Ev (fun k => spec_l00Digits.f k (n : Int)) (digS n) := by
  intro n
  induction n using Nat.strongRecOn with
  | _ n ih =>
    intro hn
    by_cases h : n < 10
    · refine Evc.val 1 fun k => ?_
      rw [spec_l00Digits.f, if_neg (by omega), if_neg (by omega), if_pos (by omega), digits_small h]
    · have hd : wrap64 (Int.tdiv (n : Int) 10) = ((n / 10 : Nat) : Int) := by rw [Int.tdiv_eq_ediv_of_nonneg (by omega), wid (by omega) (by omega)]; omega
      refine Ev.step (f := fun k => (spec_l00Digits.f k ((n / 10 : Nat) : Int)).bind fun t => ((some (([(wrap64 (48 + (Int.tmod (n : Int) 10))) % 256] : List Int) : List Int)).bind fun y => (if t.size + (strOfNums y).size ≤ 9223372036854775807 then (some (t ++ (strOfNums y))) else (none)))) (fun k => ?_) ((ih (n / 10) (by omega) (by omega)).bind (Evc.const ?_))
      · rw [spec_l00Digits.f, if_neg (by omega), if_neg (by omega), if_neg (by omega), hd]
      · have hs := digS_size ((n / 10 : Nat) : Int) (by omega) (by omega)
        have h1 : (strOfNums [wrap64 (48 + Int.tmod (n : Int) 10) % 256]).size = 1 := rfl
        rw [Option.bind_some, if_pos (by rw [h1]; omega), digits_big h]
theorem digits_eq {n : Int} (h0 : 0 ≤ n) (h1 : n ≤ 999999999) : Ev (fun k => spec_l00Digits.f k n) (digS n) := by
  obtain ⟨m, rfl⟩ := Int.eq_ofNat_of_zero_le h0
  exact l00Digits_eq m (by omega)
theorem within_d (a b c : Int) : impl_within.f a b c = some (decide (b ≤ a ∧ a ≤ c)) := by
  unfold impl_within.f
  by_cases h : a ≥ b
  · rw [if_pos h]; congr 1; simp; omega
  · rw [if_neg h]; congr 1; simp; omega
theorem in_d (a b c : Int) : spec_l01In.f a b c = some (decide (b ≤ a ∧ a ≤ c)) := by
  unfold spec_l01In.f
  by_cases h : a ≥ b
  · rw [if_pos h]; congr 1; simp; omega
  · rw [if_neg h]; congr 1; simp; omega
end Go.Proofs.YtnppmhijoaeibaaDoor.H
