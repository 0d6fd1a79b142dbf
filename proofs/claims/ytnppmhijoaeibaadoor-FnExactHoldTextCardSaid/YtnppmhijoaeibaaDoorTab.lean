/- strconv.Itoa in the form that the printed texts want: it reads a table of the library's, and so do its callers: what holds of a world whose table stands. -/
import Derived.Test.YtnppmhijoaeibaaDoorShItoa
import Derived.Test.YtnppmhijoaeibaaDoorWWords
import Derived.Lib.AppendIntMem
namespace Go.Proofs.YtnppmhijoaeibaaDoor.H
open Go.RowKit Go.Proofs.YtnppmhijoaeibaaDoorW.PrintWords
/-- The table of powers of ten stands in this world. -/
def TabW (w : World) : Prop := Lib.TabIs Tryd.prog w "internal/strconv.uint64pow10" .u64 Lib.pow10Tab
theorem TabW.below {w w' : World} (h : TabW w) (hb : Below w.heap.size w w') : TabW w' := Lib.tabBelow_of_tabIs h w' hb
def strconv_Itoa.f (n : Int) : Option ByteArray := if -9223372036854775808 ≤ n ∧ n ≤ 9223372036854775807 then some ⟨(Lib.itoa n).toArray⟩ else none
theorem strconv_Itoa.calls (n : Int) (r : ByteArray) (w : World) (hT : TabW w) (h : strconv_Itoa.f n = some r) :
    Calls Tryd.prog 23 #[.int .i64 n] w fun e w' => e = .returned (.string r) ∧ Below w.heap.size w w' := by
  unfold strconv_Itoa.f at h
  by_cases c : -9223372036854775808 ≤ n ∧ n ≤ 9223372036854775807
  · rw [if_pos c] at h
    obtain rfl := Option.some.inj h
    refine (Tryd.strconv_Itoa n c.1 c.2 w hT).mono ?_
    rintro e w' ⟨rfl, k, os, rfl⟩
    exact ⟨rfl, Lib.below_grow _ _ (Nat.le_refl _) _ _⟩
  · rw [if_neg c] at h; cases h
end Go.Proofs.YtnppmhijoaeibaaDoor.H
