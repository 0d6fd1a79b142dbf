/- Several of our texts, one behind the other, without what this claim does not need: OpH. -/
import Derived.Test.YtecnmodeggnjoaaGreatZde957e35
import Derived.Test.YtecnmodeggnjoaaGreatZ855f7bb1
set_option linter.unusedVariables false
set_option linter.unusedSimpArgs false
namespace Go.Proofs.YtecnmodeggnjoaaGreat.Ac
open Go.RowKit
theorem op_hold : OpL Tryz.prog 53 fun ls => ∃ x : Ho, ls = hoL x ∧ HoIn x := OpL.to (op_struct (gs := [_, _, _]) Tryz.underlying53 ⟨by kernel_rfl, by kernel_rfl, by kernel_rfl, trivial⟩ (by kernel_rfl) ⟨opi, opi, opi, trivial⟩)
  (by rintro ls ⟨_, _, ⟨a, rfl, ha⟩, rfl, _, _, ⟨b, rfl, hb⟩, rfl, _, _, ⟨c, rfl, hc⟩, rfl, rfl⟩; exact ⟨⟨a, b, c⟩, rfl, ha, hb, hc⟩)
theorem op_holds : OpL Tryz.prog 25 fun ls => ∃ l : List Ho, ls = [hos l] ∧ ListIn HoIn l := op_list (f := hoL) Tryz.underlying25 (by kernel_rfl) (by decide) op_hold
theorem op_table : OpL Tryz.prog 27 fun ls => ∃ x : Tb, ls = tbL x ∧ TbIn x := OpL.to (op_struct (gs := [_, _]) Tryz.underlying27 ⟨by kernel_rfl, by kernel_rfl, trivial⟩ (by kernel_rfl) ⟨op_holds, op_holds, trivial⟩)
  (by rintro ls ⟨_, _, ⟨a, rfl, ha⟩, rfl, _, _, ⟨b, rfl, hb⟩, rfl, rfl⟩; exact ⟨⟨a, b⟩, rfl, ha, hb⟩)
end Go.Proofs.YtecnmodeggnjoaaGreat.Ac
