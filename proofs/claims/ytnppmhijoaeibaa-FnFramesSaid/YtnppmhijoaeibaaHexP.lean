/- Hexadecimal texts, in plain Lean: what the program and the reference write, and that the program reads it back. -/
import Derived.Test.YtnppmhijoaeibaaNumbersP
import Derived.Test.YtnppmhijoaeibaaPHexx
set_option linter.unusedVariables false
set_option linter.unusedSimpArgs false
namespace Go.Proofs.Ytnppmhijoaeibaa.H
open Go.RowKit Go.Proofs.YtnppmhijoaeibaaW.PrintWords Go.Proofs.Ytnppmhijoaeibaa.Q

def DIG : ByteArray := ⟨#[48, 49, 50, 51, 52, 53, 54, 55, 56, 57, 97, 98, 99, 100, 101, 102]⟩
def hexL (l : List UInt8) : List Int := l.flatMap fun b => [bt DIG ((b.toNat : Int) / 16), bt DIG ((b.toNat : Int) % 16)]
def hexS (t : ByteArray) : ByteArray := strOfNums (hexL t.data.toList)
theorem hexL_len (l : List UInt8) : (hexL l).length = 2 * l.length := by
  induction l with
  | nil => rfl
  | cons b l ih => unfold hexL at ih ⊢; rw [List.flatMap_cons, List.length_append, ih, List.length_cons]; simp; omega
theorem hexS_size (t : ByteArray) : (hexS t).size = 2 * t.size := by unfold hexS; rw [strOfNums_size, hexL_len, size_list]
theorem hex_div {b : Int} (h : 0 ≤ b ∧ b ≤ 255) : Int.tdiv b 16 % 256 = b / 16 := by rw [tdivE h.1]; omega
theorem hex_mod {b : Int} (h : 0 ≤ b ∧ b ≤ 255) : Int.tmod b 16 = b % 16 := tmodE h.1
theorem hexL_step (t : ByteArray) (i : Nat) (h : i < t.size) : hexL (t.data.toList.drop i) = [bt DIG (bt t i / 16), bt DIG (bt t i % 16)] ++ hexL (t.data.toList.drop (i + 1)) := by
  rw [drop_step t i h, bt_nat t i h]; rfl
theorem hexL_done (t : ByteArray) (i : Nat) (h : t.size ≤ i) : hexL (t.data.toList.drop i) = [] := by
  rw [List.drop_of_length_le (by simpa using h)]; rfl
theorem hexOf_loop (t : ByteArray) (h2 : t.size ≤ 1048576) (d : Nat) : ∀ (i : Nat) (xs : List Int) (k : Nat), i + d = t.size → xs.length = 2 * i → impl_hexOf.l0 (k + d + 1) t xs t.size i = some (strOfNums (xs ++ hexL (t.data.toList.drop i))) := by
  induction d with
  | zero =>
    intro i xs k hi hx
    rw [impl_hexOf.l0, if_neg (by omega), hexL_done t i (by omega), List.append_nil]
  | succ d ih =>
    intro i xs k hi hx
    have r := bt_range t i
    rw [impl_hexOf.l0, if_pos (by omega), if_pos (by omega), if_pos (by omega), hex_div r, hex_mod r, if_pos (by omega), if_pos (by omega), if_pos (by omega), if_pos (by omega), Option.bind_some, if_pos (by simp only [List.length_cons, List.length_nil]; omega), nat_wrap (m := t.size) (by omega) h2, hexL_step t i (by omega), ← List.append_assoc]
    exact ih (i + 1) _ k (by omega) (by simp; omega)
theorem hexOf_eq {t : ByteArray} (h2 : t.size ≤ 1048576) : Ev (fun k => impl_hexOf.f k t) (hexS t) :=
  Ev.val (t.size + 1) fun k => by
    have := hexOf_loop t h2 t.size 0 [] k (by omega) rfl
    rw [List.drop_zero, List.nil_append] at this
    unfold impl_hexOf.f
    rw [wid (by omega) (by omega), if_pos (by omega), if_pos (by omega)]
    exact this
theorem l01Hex_loop (t : ByteArray) (h2 : t.size ≤ 1048576) (d : Nat) : ∀ (i : Nat) (xs : List Int) (k : Nat), i + d = t.size → xs.length = 2 * i → spec_l01Hex.l0 (k + d + 1) t xs i = some (strOfNums (xs ++ hexL (t.data.toList.drop i))) := by
  induction d with
  | zero =>
    intro i xs k hi hx
    rw [spec_l01Hex.l0, if_neg (by omega), hexL_done t i (by omega), List.append_nil]
  | succ d ih =>
    intro i xs k hi hx
    have r := bt_range t i
    rw [spec_l01Hex.l0, if_pos (by omega), if_pos (by omega), hex_div r, hex_mod r, if_pos (by omega), if_pos (by omega), if_pos (by omega), if_pos (by omega), Option.bind_some, if_pos (by simp only [List.length_cons, List.length_nil]; omega), nat_wrap (m := t.size) (by omega) h2, hexL_step t i (by omega), ← List.append_assoc]
    exact ih (i + 1) _ k (by omega) (by simp; omega)
theorem l01Hex_eq {t : ByteArray} (h2 : t.size ≤ 1048576) : Ev (fun k => spec_l01Hex.f k t) (hexS t) :=
  Ev.val (t.size + 1) fun k => by
    have := l01Hex_loop t h2 t.size 0 [] k (by omega) rfl
    rw [List.drop_zero, List.nil_append] at this
    exact this
/-! ### read back -/
theorem dig_idx : ∀ v : Fin 16, Lib.indexByte DIG.data.toList (bt DIG (v.val : Int)).toNat.toUInt8 = (v.val : Int) := by decide
theorem dig_index {v : Int} (h0 : 0 ≤ v) (h1 : v < 16) : strings_IndexByte.f DIG (bt DIG v) = some v := by
  have := dig_idx ⟨v.toNat, by omega⟩
  unfold strings_IndexByte.f
  simp only [Int.toNat_of_nonneg h0] at this
  rw [this]
theorem dig_range (v : Int) : 0 ≤ bt DIG v ∧ bt DIG v ≤ 255 := bt_range DIG v
theorem hexL_range (l : List UInt8) : ∀ x ∈ hexL l, 0 ≤ x ∧ x ≤ 255 := fun x hx => by
  unfold hexL at hx
  obtain ⟨b, _, hb⟩ := List.mem_flatMap.1 hx
  simp at hb
  rcases hb with rfl | rfl
  · exact dig_range _
  · exact dig_range _
theorem hexL_get (l : List UInt8) : ∀ (i : Nat) (h : i < l.length), (hexL l).getD (2 * i) 0 = bt DIG ((l[i].toNat : Int) / 16) ∧ (hexL l).getD (2 * i + 1) 0 = bt DIG ((l[i].toNat : Int) % 16) := by
  induction l with
  | nil => intro i h; simp at h
  | cons b l ih =>
    intro i h
    have e : hexL (b :: l) = bt DIG ((b.toNat : Int) / 16) :: bt DIG ((b.toNat : Int) % 16) :: hexL l := rfl
    cases i with
    | zero => rw [e]; exact ⟨rfl, rfl⟩
    | succ i =>
      have := ih i (by simpa using h)
      rw [e, show 2 * (i + 1) = 2 * i + 1 + 1 by omega]
      exact this
theorem hexS_bt (t : ByteArray) (i : Nat) (h : i < t.size) : bt (hexS t) ((2 * i : Nat) : Int) = bt DIG (bt t i / 16) ∧ bt (hexS t) ((2 * i + 1 : Nat) : Int) = bt DIG (bt t i % 16) := by
  have := hexL_get t.data.toList i (by rw [size_list]; exact h)
  unfold hexS
  rw [bt_nums _ (hexL_range _), bt_nums _ (hexL_range _), bt_nat t i h]
  exact this
def numsOf (l : List UInt8) : List Int := l.map fun b => (b.toNat : Int)
theorem numsOf_back (t : ByteArray) : strOfNums (numsOf t.data.toList) = t := by
  apply ByteArray.ext
  apply Array.ext'
  simp only [strOfNums, numsOf, List.map_map]
  rw [show ((fun n : Int => UInt8.ofNat n.toNat) ∘ fun b : UInt8 => (b.toNat : Int)) = id from by funext b; simp]
  simp
theorem numsOf_step (t : ByteArray) (i : Nat) (h : i < t.size) : numsOf (t.data.toList.drop i) = bt t i :: numsOf (t.data.toList.drop (i + 1)) := by
  rw [drop_step t i h, bt_nat t i h]; rfl
theorem numsOf_done (t : ByteArray) (i : Nat) (h : t.size ≤ i) : numsOf (t.data.toList.drop i) = [] := by
  rw [List.drop_of_length_le (by simpa using h)]; rfl
theorem bytesOf_loop (t : ByteArray) (h2 : t.size ≤ 1048576) (d : Nat) : ∀ (i : Nat) (xs : List Int) (k : Nat), i + d = t.size → xs.length = i → impl_bytesOf.l0 (k + d + 1) (hexS t) xs ((2 * i : Nat) : Int) = some (strOfNums (xs ++ numsOf (t.data.toList.drop i)), true) := by
  have hz := hexS_size t
  induction d with
  | zero =>
    intro i xs k hi hx
    rw [impl_bytesOf.l0, if_neg (by omega), numsOf_done t i (by omega), List.append_nil]
  | succ d ih =>
    intro i xs k hi hx
    have r := bt_range t i
    obtain ⟨e0, e1⟩ := hexS_bt t i (by omega)
    have w1 : wrap64 (((2 * i : Nat) : Int) + 1) = ((2 * i + 1 : Nat) : Int) := by rw [wid (by omega) (by omega)]; omega
    have w2 : wrap64 (((2 * i : Nat) : Int) + 2) = ((2 * (i + 1) : Nat) : Int) := by rw [wid (by omega) (by omega)]; omega
    have w3 : wrap64 (wrap64 (16 * (bt t i / 16)) + bt t i % 16) % 256 = bt t i := by rw [wid (x := 16 * (bt t i / 16)) (by omega) (by omega), wid (by omega) (by omega)]; omega
    rw [impl_bytesOf.l0, if_pos (by omega), if_pos (by omega), e0, show (⟨#[48, 49, 50, 51, 52, 53, 54, 55, 56, 57, 97, 98, 99, 100, 101, 102]⟩ : ByteArray) = DIG from rfl, dig_index (by omega) (by omega), Option.bind_some, w1, if_pos (by omega), if_pos (by omega), e1, dig_index (by omega) (by omega), Option.bind_some, if_neg (by omega), if_neg (by omega), if_pos (by omega), w2, w3, numsOf_step t i (by omega), show xs ++ bt t i :: numsOf (t.data.toList.drop (i + 1)) = (xs ++ [bt t i]) ++ numsOf (t.data.toList.drop (i + 1)) by simp]
    exact ih (i + 1) _ k (by omega) (by simp; omega)
theorem bytesOf_back {t : ByteArray} (h2 : t.size ≤ 1048576) : Ev (fun k => impl_bytesOf.f k (hexS t)) (t, true) :=
  Ev.val (t.size + 1) fun k => by
    have hz := hexS_size t
    have := bytesOf_loop t h2 t.size 0 [] k (by omega) rfl
    rw [List.drop_zero, List.nil_append, numsOf_back] at this
    unfold impl_bytesOf.f
    rw [if_pos (by omega), wid (by omega) (by omega), if_pos (by omega), if_pos (by omega)]
    exact this
theorem bytesOf_odd {t : ByteArray} (h : (t.size : Int) % 2 = 1) : Ev (fun k => impl_bytesOf.f k t) (⟨#[]⟩, false) :=
  Ev.val 0 fun k => by unfold impl_bytesOf.f; rw [if_neg (by omega)]
theorem HexOf_eq {t : ByteArray} (h2 : t.size ≤ 32768) : Ev (fun k => impl_HexOf.f k t) (hexS t) := by
  refine Ev.congr (fun k => ?_) ((hexOf_eq (by omega)).bind (f := fun _ r => some r) (Ev.const rfl))
  unfold impl_HexOf.f; rw [if_neg (by omega)]
theorem HexOf_eqs {t : ByteArray} (h2 : t.size ≤ 32768) : Ev (fun k => spec_HexOf.f k t) (hexS t) := by
  refine Ev.congr (fun k => ?_) ((l01Hex_eq (by omega)).bind (f := fun _ r => some r) (Ev.const rfl))
  unfold spec_HexOf.f; rw [if_neg (by omega)]
theorem BytesOf_back {t : ByteArray} (h2 : t.size ≤ 32768) : Ev (fun k => impl_BytesOf.f k (hexS t)) (t, 0) := by
  have hz := hexS_size t
  refine Ev.congr (fun k => ?_) ((bytesOf_back (t := t) (by omega)).bind (f := fun (_ : Nat) (r : ByteArray × Bool) => if r.2 = true then some (r.1, (0 : Int)) else some ((⟨#[]⟩ : ByteArray), (3 : Int))) (Ev.const rfl))
  unfold impl_BytesOf.f impl_isLong.f; simp only [Option.bind_some, decide_eq_true_eq]; rw [if_neg (by omega)]
theorem BytesOf_odd {t : ByteArray} (h : (t.size : Int) % 2 = 1) (h2 : t.size ≤ 65536) : Ev (fun k => impl_BytesOf.f k t) (⟨#[]⟩, 3) := by
  refine Ev.congr (fun k => ?_) ((bytesOf_odd h).bind (f := fun (_ : Nat) (r : ByteArray × Bool) => if r.2 = true then some (r.1, (0 : Int)) else some ((⟨#[]⟩ : ByteArray), (3 : Int))) (Ev.const rfl))
  unfold impl_BytesOf.f impl_isLong.f; simp only [Option.bind_some, decide_eq_true_eq]; rw [if_neg (by omega)]
end Go.Proofs.Ytnppmhijoaeibaa.H
