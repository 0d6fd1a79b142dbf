/- Chapter 2 in plain Lean, third part: texts that are taken, frames that are read. -/
import Derived.Test.YtnppmhijoaeibaaWireQ
import Derived.Lib.Strings
set_option linter.unusedVariables false
set_option linter.unusedSimpArgs false
namespace Go.Proofs.Ytnppmhijoaeibaa.H
open Go.RowKit Go.Proofs.YtnppmhijoaeibaaW.PrintWords Go.Proofs.Ytnppmhijoaeibaa.Q

def noS : ByteArray := ⟨#[]⟩
def takeTextP (t : ByteArray) (p : Int) : ByteArray × Int × Int :=
  if (takeP t p).2.2 = 0 then (if (takeP t p).1 > (t.size : Int) - (takeP t p).2.1 then (noS, 0, 8) else (t.extract (takeP t p).2.1.toNat ((takeP t p).2.1 + (takeP t p).1).toNat, (takeP t p).2.1 + (takeP t p).1, 0)) else (noS, 0, (takeP t p).2.2)
theorem l01TakeText_eq {t : ByteArray} {p : Int} (h0 : 0 ≤ p) (h1 : p ≤ t.size) (h2 : t.size ≤ 1048576) : Ev (fun k => spec_l01TakeText.f k t p) (takeTextP t p) := by
  refine (l01Take_eq h0 h1 h2).bind (Ev.const ?_)
  have ok := takeP_ok h0 h1
  unfold takeTextP
  generalize takeP t p = r at *
  obtain ⟨n, nx, c⟩ := r
  by_cases hc : c = 0
  · subst hc
    obtain ⟨n0, n1, n2, n3⟩ := ok rfl
    simp only at n0 n1 n2 n3
    have e1 : wrap64 ((t.size : Int) - nx) = t.size - nx := wid (by omega) (by omega)
    have e2 : wrap64 (nx + n) = nx + n := wid (by omega) (by omega)
    simp only [e1, e2, if_true]
    by_cases g : n > (t.size : Int) - nx
    · rw [if_pos g, if_pos g]; rfl
    · rw [if_neg g, if_neg g, if_pos (by omega), if_pos (by omega), if_pos (by omega)]
  · rw [if_neg hc, if_neg hc]; rfl
theorem takeText_in {t : ByteArray} {p : Int} (h0 : 0 ≤ p) (h1 : p ≤ t.size) (h2 : t.size ≤ 1048576) : Ev (fun k => impl_takeText.f k t p) (takeTextP t p) := by
  refine (takeNumber_in h0 h1 h2).bind (Ev.const ?_)
  have ok := takeP_ok h0 h1
  unfold takeTextP
  generalize takeP t p = r at *
  obtain ⟨n, nx, c⟩ := r
  by_cases hc : c = 0
  · subst hc
    obtain ⟨n0, n1, n2, n3⟩ := ok rfl
    simp only at n0 n1 n2 n3
    rw [← putS_size] at n2
    have hp := putS_len n
    simp only [if_true]
    rw [number_eq (by omega), Option.bind_some]
    have e0 : wrap64 (p + ((putS n).size : Int)) = nx := by rw [wid (by omega) (by omega)]; omega
    have e1 : wrap64 ((t.size : Int) - nx) = t.size - nx := wid (by omega) (by omega)
    have e2 : wrap64 (nx + n) = nx + n := wid (by omega) (by omega)
    simp only [e0, e1, e2]
    by_cases g : n > (t.size : Int) - nx
    · rw [if_pos g, if_pos g]; rfl
    · rw [if_neg g, if_neg g, if_pos (by omega), if_pos (by omega), if_pos (by omega)]
  · rw [if_neg hc, if_neg hc]; rfl
theorem takeText_out {t : ByteArray} {p : Int} (h : ¬ (0 ≤ p ∧ p ≤ t.size)) : Ev (fun k => impl_takeText.f k t p) (noS, 0, 8) :=
  (takeNumber_out h).bind (Ev.const (by rw [if_neg (by decide)]; rfl))
theorem TakeText_same {t : ByteArray} {p : Int} : ∃ r, Ev (fun k => spec_TakeText.f k t p) r ∧ Ev (fun k => impl_TakeText.f k t p) r := by
  by_cases hl : (t.size : Int) > 65536
  · refine ⟨(noS, 0, 2), Ev.val 0 fun k => ?_, Ev.val 0 fun k => ?_⟩
    · unfold spec_TakeText.f; rw [if_pos hl]; rfl
    · unfold impl_TakeText.f impl_isLong.f; simp only [Option.bind_some, decide_eq_true_eq]; rw [if_pos hl]; rfl
  by_cases h : 0 ≤ p ∧ p ≤ t.size
  · refine ⟨takeTextP t p, ?_, ?_⟩
    · refine Ev.congr (fun k => ?_) ((l01TakeText_eq h.1 h.2 (by omega)).bind (f := fun _ r => some (r.1, r.2.1, r.2.2)) (Ev.const rfl))
      unfold spec_TakeText.f; rw [if_neg hl, if_neg (by omega), if_neg (by omega)]
    · refine Ev.congr (fun k => ?_) ((takeText_in h.1 h.2 (by omega)).bind (f := fun _ r => some (r.1, r.2.1, r.2.2)) (Ev.const rfl))
      unfold impl_TakeText.f impl_isLong.f; simp only [Option.bind_some, decide_eq_true_eq]; rw [if_neg hl]
  · refine ⟨(noS, 0, 8), Ev.val 0 fun k => ?_, ?_⟩
    · unfold spec_TakeText.f; rw [if_neg hl]
      by_cases h0 : p < 0
      · rw [if_pos h0]; rfl
      · rw [if_neg h0, if_pos (by omega)]; rfl
    · refine Ev.congr (fun k => ?_) ((takeText_out h).bind (f := fun _ r => some (r.1, r.2.1, r.2.2)) (Ev.const rfl))
      unfold impl_TakeText.f impl_isLong.f; simp only [Option.bind_some, decide_eq_true_eq]; rw [if_neg hl]

/-! ### frames -/
def isCO (t : ByteArray) : Bool := (t.extract 0 2).toList == ([67, 79] : List UInt8)
def readFrameP (t : ByteArray) : ByteArray × Int :=
  if (t.size : Int) < 5 then (noS, 3) else if isCO t = false then (noS, 3) else
  if (takeTextP t 2).2.2 = 0 then (if (takeTextP t 2).2.1 = (t.size : Int) - 2 then (if (sum2 (t.extract 0 (takeTextP t 2).2.1.toNat)).toList = (t.extract (takeTextP t 2).2.1.toNat t.size).toList then ((takeTextP t 2).1, 0) else (noS, 9)) else (noS, 8)) else (noS, (takeTextP t 2).2.2)
theorem takeTextP_ok {t : ByteArray} {p : Int} (h0 : 0 ≤ p) (h1 : p ≤ t.size) (h : (takeTextP t p).2.2 = 0) : 0 ≤ (takeTextP t p).2.1 ∧ (takeTextP t p).2.1 ≤ t.size := by
  have ok := takeP_ok h0 h1
  unfold takeTextP at h ⊢
  generalize takeP t p = r at *
  obtain ⟨n, nx, c⟩ := r
  simp only at h ⊢
  by_cases hc : c = 0
  · obtain ⟨n0, n1, n2, n3⟩ := ok hc
    simp only at n0 n1 n2 n3
    rw [if_pos hc] at h ⊢
    by_cases g : n > (t.size : Int) - nx
    · rw [if_pos g] at h; simp at h
    · rw [if_neg g]; show 0 ≤ nx + n ∧ nx + n ≤ t.size; omega
  · rw [if_neg hc] at h; exact absurd h hc
theorem last_two (t : ByteArray) (m : Nat) (h : m + 2 = t.size) : (t.extract m t.size).toList.map (fun b => (b.toNat : Int)) = [bt t m, bt t ((m : Int) + 1)] := by
  rw [Lib.extract_toList, drop_step t m (by omega), drop_step t (m + 1) (by omega), bt_nat t m (by omega), show ((m : Int) + 1) = ((m + 1 : Nat) : Int) by omega, bt_nat t (m + 1) (by omega), show t.size - m = 2 by omega]
  rfl
theorem map_inj (l l' : List UInt8) : l = l' ↔ l.map (fun b => (b.toNat : Int)) = l'.map (fun b => (b.toNat : Int)) :=
  ⟨fun h => by rw [h], fun h => (List.map_inj_right (fun x y hxy => by
    have h2 : x.toNat = y.toNat := by omega
    exact UInt8.toNat_inj.1 h2)).1 h⟩
theorem strOfNums_two (a b : Int) (h0 : 0 ≤ a) (h1 : a < 256) (h2 : 0 ≤ b) (h3 : b < 256) : (strOfNums [a, b]).toList.map (fun b => (b.toNat : Int)) = [a, b] := by
  rw [Lib.toList_data]
  simp [strOfNums, UInt8.toNat_ofNat']
  omega
theorem sum2_same (t u : ByteArray) (m : Nat) (h : m + 2 = t.size) : ((sum2 u).toList = (t.extract m t.size).toList) ↔ (bt t m = sumP u % 256 ∧ bt t ((m : Int) + 1) = sumP u / 256) := by
  have r := sumP_range u
  rw [map_inj, last_two t m h]
  unfold sum2
  rw [strOfNums_two _ _ (by omega) (by omega) (by omega) (by omega)]
  constructor
  · intro h; simp at h; omega
  · intro h; simp [h.1, h.2]
theorem l01ReadFrame_eq {t : ByteArray} (h2 : t.size ≤ 1048576) : Ev (fun k => spec_l01ReadFrame.f k t) (readFrameP t) := by
  unfold readFrameP
  by_cases h5 : (t.size : Int) < 5
  · rw [if_pos h5]
    refine Ev.val 1 fun k => ?_
    unfold spec_l01ReadFrame.f; rw [if_pos h5, spec_l01ReadFrame.j0, if_pos rfl]; rfl
  rw [if_neg h5]
  by_cases hc : isCO t = false
  · rw [if_pos hc]
    refine Ev.val 1 fun k => ?_
    unfold isCO at hc
    unfold spec_l01ReadFrame.f; rw [if_neg h5, if_pos (by decide), if_pos (by omega), spec_l01ReadFrame.j0, if_pos (by simpa [bne] using hc)]; rfl
  rw [if_neg hc]
  have hc' : isCO t = true := by simpa using hc
  refine Ev.step (f := ?f) (fun k => ?h) ?e
  case h => unfold spec_l01ReadFrame.f; rw [if_neg h5, if_pos (by decide), if_pos (by omega), spec_l01ReadFrame.j0, if_neg (by unfold isCO at hc'; simpa [bne] using hc')]
  refine (l01TakeText_eq (by omega) (by omega) h2).bind ?_
  have ok := takeTextP_ok (t := t) (p := 2) (by omega) (by omega)
  generalize takeTextP t 2 = r at *
  obtain ⟨s, nx, c⟩ := r
  dsimp only at ok ⊢
  by_cases hc : c = 0
  · obtain ⟨n0, n1⟩ := ok hc
    have e1 : wrap64 ((t.size : Int) - 2) = t.size - 2 := wid (by omega) (by omega)
    simp only [if_pos hc, e1]
    by_cases g : nx = (t.size : Int) - 2
    · obtain ⟨m, rfl⟩ : ∃ m : Nat, nx = m := ⟨nx.toNat, by omega⟩
      have hm : m + 2 = t.size := by omega
      have e2 : wrap64 ((m : Int) + 1) = m + 1 := wid (by omega) (by omega)
      have hs : (t.extract 0 m).size ≤ 1048576 := by simp; omega
      have r1 := bt_range t m
      have r2 := bt_range t ((m : Int) + 1)
      have e3 : wrap64 (bt t m) = bt t m := wid (by omega) (by omega)
      have e4 : wrap64 (bt t ((m : Int) + 1)) = bt t ((m : Int) + 1) := wid (by omega) (by omega)
      simp only [if_pos g, e2, e3, e4, Int.toNat_natCast]
      simp only [if_pos (show (0 : Int) ≤ m by omega), if_pos (show (m : Int) ≤ t.size by omega), if_pos (show (m : Int) < t.size by omega), if_pos (show (0 : Int) ≤ m + 1 by omega), if_pos (show (m : Int) + 1 < t.size by omega)]
      refine (l01Sum_eq hs).bind (Ev.const ?_)
      have hz := sumP_range (t.extract 0 m)
      have h2s := sum2_same t (t.extract 0 m) m hm
      generalize sumP (t.extract 0 m) = z at *
      have e5 : Int.tmod z 256 = z % 256 := tmodE (by omega)
      have e6 : wrap64 (Int.tdiv z 256) = z / 256 := by rw [tdivE (by omega)]; exact wid (by omega) (by omega)
      rw [e5, e6]
      by_cases q : (sum2 (t.extract 0 m)).toList = (t.extract m t.size).toList
      · rw [if_pos q, if_pos (h2s.1 q).1, if_pos (h2s.1 q).2]
      · rw [if_neg q]
        by_cases q1 : bt t m = z % 256
        · rw [if_pos q1, if_neg (fun q2 => q (h2s.2 ⟨q1, q2⟩))]; rfl
        · rw [if_neg q1]; rfl
    · simp only [if_neg g]; exact Ev.const rfl
  · simp only [if_neg hc]; exact Ev.const rfl
theorem readFrame_eq {t : ByteArray} (h2 : t.size ≤ 1048576) : Ev (fun k => impl_readFrame.f k t) (readFrameP t) := by
  unfold readFrameP
  by_cases h5 : (t.size : Int) < 5
  · rw [if_pos h5]
    refine Ev.val 1 fun k => ?_
    unfold impl_readFrame.f; rw [if_pos h5, impl_readFrame.j0, if_pos rfl]; rfl
  rw [if_neg h5]
  have hp : strings_HasPrefix.f t (⟨#[67, 79]⟩ : ByteArray) = some (isCO t) := by
    unfold strings_HasPrefix.f stringslite_HasPrefix.f
    have : (⟨#[67, 79]⟩ : ByteArray).size = 2 := rfl
    rw [this, if_pos (by omega), if_pos (by omega), if_pos (by omega), Option.bind_some, Lib.toList_data ⟨#[67, 79]⟩]; rfl
  by_cases hc : isCO t = false
  · rw [if_pos hc]
    refine Ev.val 1 fun k => ?_
    unfold impl_readFrame.f; rw [if_neg h5, hp, Option.bind_some, impl_readFrame.j0, if_pos (by rw [hc]; rfl)]; rfl
  rw [if_neg hc]
  have hc' : isCO t = true := by simpa using hc
  have hh : ∀ k, impl_readFrame.f k t = impl_readFrame.j0 k t (!isCO t) := fun k => by unfold impl_readFrame.f; rw [if_neg h5, hp, Option.bind_some]
  refine Ev.step (fun k => (hh (k + 1)).trans ((impl_readFrame.j0.eq_2 _ _ _).trans (if_neg (by rw [hc']; decide)))) ?_
  refine (takeText_in (by omega) (by omega) h2).bind ?_
  have ok := takeTextP_ok (t := t) (p := 2) (by omega) (by omega)
  generalize takeTextP t 2 = r at *
  obtain ⟨s, nx, c⟩ := r
  dsimp only at ok ⊢
  by_cases hc : c = 0
  · obtain ⟨n0, n1⟩ := ok hc
    have e1 : wrap64 (nx + 2) = nx + 2 := wid (by omega) (by omega)
    simp only [if_pos hc, e1]
    by_cases g : nx = (t.size : Int) - 2
    · simp only [if_pos g, if_pos (show (t.size : Int) = nx + 2 by omega), if_pos n0, if_pos n1]
      refine (sumText_eq (by simp; omega)).bind (Ev.const ?_)
      by_cases q : (sum2 (t.extract 0 nx.toNat)).toList = (t.extract nx.toNat t.size).toList
      · rw [if_pos q, if_pos q]
      · rw [if_neg q, if_neg q]; rfl
    · simp only [if_neg g, if_neg (show ¬ (t.size : Int) = nx + 2 by omega)]; exact Ev.const rfl
  · simp only [if_neg hc]; exact Ev.const rfl
theorem ReadFrame_same {t : ByteArray} : ∃ r, Ev (fun k => spec_ReadFrame.f k t) r ∧ Ev (fun k => impl_ReadFrame.f k t) r := by
  by_cases hl : (t.size : Int) > 65536
  · refine ⟨(noS, 2), Ev.val 0 fun k => ?_, Ev.val 0 fun k => ?_⟩
    · unfold spec_ReadFrame.f; rw [if_pos hl]; rfl
    · unfold impl_ReadFrame.f impl_isLong.f; simp only [Option.bind_some, decide_eq_true_eq]; rw [if_pos hl]; rfl
  · refine ⟨readFrameP t, ?_, ?_⟩
    · refine Ev.congr (fun k => ?_) ((l01ReadFrame_eq (by omega)).bind (f := fun _ r => some (r.1, r.2)) (Ev.const rfl))
      unfold spec_ReadFrame.f; rw [if_neg hl]
    · refine Ev.congr (fun k => ?_) ((readFrame_eq (by omega)).bind (f := fun _ r => some (r.1, r.2)) (Ev.const rfl))
      unfold impl_ReadFrame.f impl_isLong.f; simp only [Option.bind_some, decide_eq_true_eq]; rw [if_neg hl]
theorem FrameText_same {t : ByteArray} : ∃ r, Ev (fun k => spec_FrameText.f k t) r ∧ Ev (fun k => impl_FrameText.f k t) r := by
  by_cases hl : (t.size : Int) > 65536
  · refine ⟨(noS, 2), Ev.val 0 fun k => ?_, Ev.val 0 fun k => ?_⟩
    · unfold spec_FrameText.f; rw [if_pos hl]; rfl
    · unfold impl_FrameText.f impl_isLong.f; simp only [Option.bind_some, decide_eq_true_eq]; rw [if_pos hl]; rfl
  by_cases hs : (t.size : Int) > 65520
  · refine ⟨(noS, 8), Ev.val 0 fun k => ?_, Ev.val 0 fun k => ?_⟩
    · unfold spec_FrameText.f; rw [if_neg hl, if_pos hs]; rfl
    · unfold impl_FrameText.f impl_isLong.f; simp only [Option.bind_some, decide_eq_true_eq]; rw [if_neg hl, if_pos hs]; rfl
  · refine ⟨(frameS t, 0), ?_, ?_⟩
    · refine Ev.congr (fun k => ?_) ((l01Frame_eq (by omega)).bind (f := fun _ r => some (r, 0)) (Ev.const rfl))
      unfold spec_FrameText.f; rw [if_neg hl, if_neg hs]
    · refine Ev.congr (fun k => ?_) ((frame_eq (by omega)).bind (f := fun _ r => some (r, 0)) (Ev.const rfl))
      unfold impl_FrameText.f impl_isLong.f; simp only [Option.bind_some, decide_eq_true_eq]; rw [if_neg hl, if_neg hs]
theorem PutText_same {t : ByteArray} : ∃ r, Ev (fun k => spec_PutText.f k t) r ∧ impl_PutText.f t = some r := by
  by_cases hl : (t.size : Int) > 65536
  · refine ⟨(noS, 2), Ev.val 0 fun k => ?_, ?_⟩
    · unfold spec_PutText.f; rw [if_pos hl]; rfl
    · unfold impl_PutText.f impl_isLong.f; simp only [Option.bind_some, decide_eq_true_eq]; rw [if_pos hl]; rfl
  · refine ⟨(textS t, 0), ?_, ?_⟩
    · refine Ev.congr (fun k => ?_) ((l01PutText_eq (by omega)).bind (f := fun _ r => some (r, 0)) (Ev.const rfl))
      unfold spec_PutText.f; rw [if_neg hl]
    · unfold impl_PutText.f impl_isLong.f; simp only [Option.bind_some, decide_eq_true_eq]; rw [if_neg hl, text_eq (by omega)]; rfl
theorem PutNumber_same {n : Int} : ∃ r, Ev (fun k => spec_PutNumber.f k n) r ∧ impl_PutNumber.f n = some r := by
  by_cases h : n ≥ 0 ∧ n ≤ 999999
  · refine ⟨(putS n, 0), ?_, ?_⟩
    · refine Ev.congr (fun k => ?_) ((l01Put_eq h.1 (by omega)).bind (f := fun _ r => some (r, 0)) (Ev.const rfl))
      unfold spec_PutNumber.f spec_l01In.f; rw [if_pos h.1]; simp only [Option.bind_some, decide_eq_true_eq]; rw [if_pos h.2]
    · unfold impl_PutNumber.f impl_within.f; rw [if_pos h.1]; simp only [Option.bind_some, decide_eq_true_eq]; rw [if_pos h.2, number_eq (by omega)]; rfl
  · refine ⟨(noS, 4), Ev.val 0 fun k => ?_, ?_⟩
    · unfold spec_PutNumber.f spec_l01In.f
      by_cases h0 : n ≥ 0
      · rw [if_pos h0]; simp only [Option.bind_some, decide_eq_true_eq]; rw [if_neg (by omega)]; rfl
      · rw [if_neg h0]; rfl
    · unfold impl_PutNumber.f impl_within.f
      by_cases h0 : n ≥ 0
      · rw [if_pos h0]; simp only [Option.bind_some, decide_eq_true_eq]; rw [if_neg (by omega)]; rfl
      · rw [if_neg h0]; rfl
end Go.Proofs.Ytnppmhijoaeibaa.H
