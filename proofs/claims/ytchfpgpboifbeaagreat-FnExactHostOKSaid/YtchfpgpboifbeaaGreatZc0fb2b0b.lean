/- Several of our texts, one behind the other, without what this claim does not need: AcDn, Rx. -/
import Derived.Test.YtchfpgpboifbeaaGreatZc214b69e
import Derived.Test.YtchfpgpboifbeaaGreatZ6cd73018
set_option linter.unusedVariables false
namespace Go.Proofs.YtchfpgpboifbeaaGreat.Ac
open Go.RowKit
section
variable {r : List (Nat × Nat)} {g : Hp} {hs' : Hs}
theorem fz_row {α : Type} {W : α → List A} {E : α → List L} {n fl wd lo hi : Nat} {es : List (List A)} {a : List α} (hn : g n = some (some ⟨fl, wd, es⟩)) (h4 : Nat.beq fl 4 = false) (hk : kept r hs' n = false) (he : (es.take hi).drop lo = a.map W) (hf : FrzR (gone r g hs') (a.map W) (a.map E)) : Frz (gone r g hs') (.row n lo hi) (.sl wd (a.map E)) := by
  rw [← he] at hf
  exact .row n lo hi ⟨fl, wd, es⟩ (a.map E) ⟨hn, hk, h4⟩ hf.1 hf.2.1 hf.2.2
theorem take_pre {α : Type} {W : α → List A} {a b : List α} {hi : Nat} (h : hi = a.length) : (((a ++ b).map W).take hi).drop 0 = a.map W := by
  subst h; rw [List.drop_zero, List.map_append, List.take_append_of_le_length (by simp), List.take_of_length_le (by simp)]
theorem fz_ints {n fl hi : Nat} {l : List Int} (hn : g n = some (some ⟨fl, 1, l.map intW⟩)) (h4 : Nat.beq fl 4 = false) (hk : kept r hs' n = false) (hi' : hi = l.length) : Frz (gone r g hs') (.row n 0 hi) (ints l) := fz_row hn h4 hk (take_all (by simpa using hi')) (frz_ints l)
theorem fz_txts {n fl hi : Nat} {l : List ByteArray} (hn : g n = some (some ⟨fl, 1, l.map txtW⟩)) (h4 : Nat.beq fl 4 = false) (hk : kept r hs' n = false) (hi' : hi = l.length) : Frz (gone r g hs') (.row n 0 hi) (txts l) := fz_row hn h4 hk (take_all (by simpa using hi')) (frz_txts l)
theorem fz_nds {n fl hi : Nat} {l : List Nd} (hn : g n = some (some ⟨fl, 5, l.map ndW⟩)) (h4 : Nat.beq fl 4 = false) (hk : kept r hs' n = false) (hi' : hi = l.length) : Frz (gone r g hs') (.row n 0 hi) (nds l) := fz_row hn h4 hk (take_all (by simpa using hi')) (frz_nds l)
theorem fz_tms {n fl hi : Nat} {l : List Tm} (hn : g n = some (some ⟨fl, 2, l.map tmW⟩)) (h4 : Nat.beq fl 4 = false) (hk : kept r hs' n = false) (hi' : hi = l.length) : Frz (gone r g hs') (.row n 0 hi) (tms l) := fz_row hn h4 hk (take_all (by simpa using hi')) (frz_tms l)
theorem fz_rus {n fl hi : Nat} {l : List Ru} (hn : g n = some (some ⟨fl, 3, l.map ruW⟩)) (h4 : Nat.beq fl 4 = false) (hk : kept r hs' n = false) (hi' : hi = l.length) : Frz (gone r g hs') (.row n 0 hi) (rus l) := fz_row hn h4 hk (take_all (by simpa using hi')) (frz_rus l)
theorem fz_eds {n fl hi : Nat} {l : List Ed} (hn : g n = some (some ⟨fl, 5, l.map edW⟩)) (h4 : Nat.beq fl 4 = false) (hk : kept r hs' n = false) (hi' : hi = l.length) : Frz (gone r g hs') (.row n 0 hi) (eds l) := fz_row hn h4 hk (take_all (by simpa using hi')) (frz_eds l)
theorem fz_hos {n fl hi : Nat} {l : List Ho} (hn : g n = some (some ⟨fl, 3, l.map hoW⟩)) (h4 : Nat.beq fl 4 = false) (hk : kept r hs' n = false) (hi' : hi = l.length) : Frz (gone r g hs') (.row n 0 hi) (hos l) := fz_row hn h4 hk (take_all (by simpa using hi')) (frz_hos l)
theorem fz_tbs {n fl hi : Nat} {l : List Tb} (hn : g n = some (some ⟨fl, 2, l.map tbW⟩)) (h4 : Nat.beq fl 4 = false) (hk : kept r hs' n = false) (hi' : hi = l.length) : Frz (gone r g hs') (.row n 0 hi) (tbs l) := fz_row hn h4 hk (take_all (by simpa using hi')) (frz_tbs l)
theorem fz_ses {n fl hi : Nat} {l : List Se} (hn : g n = some (some ⟨fl, 6, l.map seW⟩)) (h4 : Nat.beq fl 4 = false) (hk : kept r hs' n = false) (hi' : hi = l.length) : Frz (gone r g hs') (.row n 0 hi) (ses l) := fz_row hn h4 hk (take_all (by simpa using hi')) (frz_ses l)
theorem fz_evs {n fl hi : Nat} {l : List Ev} (hn : g n = some (some ⟨fl, 3, l.map evW⟩)) (h4 : Nat.beq fl 4 = false) (hk : kept r hs' n = false) (hi' : hi = l.length) : Frz (gone r g hs') (.row n 0 hi) (evs l) := fz_row hn h4 hk (take_all (by simpa using hi')) (frz_evs l)
theorem fz_intsP {n fl hi : Nat} {a b : List Int} (hn : g n = some (some ⟨fl, 1, (a ++ b).map intW⟩)) (h4 : Nat.beq fl 4 = false) (hk : kept r hs' n = false) (hi' : hi = a.length) : Frz (gone r g hs') (.row n 0 hi) (ints a) := fz_row hn h4 hk (take_pre hi') (frz_ints a)
theorem tl_intsP {n fl hi : Nat} {a b : List Int} (hn : g n = some (some ⟨fl, 1, (a ++ b).map intW⟩)) (h4 : Nat.beq fl 4 = false) (hk : kept r hs' n = false) (hi' : hi = a.length) : tlA true r g hs' (.row n 0 hi) (.f (ints a)) := tl_fz hn h4 hk (by rw [take_pre hi']; exact frz_ints a)
theorem cl_intsP (a : List Int) : clR (a.map intW) := cl_ints _
theorem pl_intsP (a : List Int) : plR (a.map intW) := pl_ints _
theorem fz_hosP {n fl hi : Nat} {a b : List Ho} (hn : g n = some (some ⟨fl, 3, (a ++ b).map hoW⟩)) (h4 : Nat.beq fl 4 = false) (hk : kept r hs' n = false) (hi' : hi = a.length) : Frz (gone r g hs') (.row n 0 hi) (hos a) := fz_row hn h4 hk (take_pre hi') (frz_hos a)
theorem tl_hosP {n fl hi : Nat} {a b : List Ho} (hn : g n = some (some ⟨fl, 3, (a ++ b).map hoW⟩)) (h4 : Nat.beq fl 4 = false) (hk : kept r hs' n = false) (hi' : hi = a.length) : tlA true r g hs' (.row n 0 hi) (.f (hos a)) := tl_fz hn h4 hk (by rw [take_pre hi']; exact frz_hos a)
theorem cl_hosP (a : List Ho) : clR (a.map hoW) := cl_hos _
theorem pl_hosP (a : List Ho) : plR (a.map hoW) := pl_hos _
end
theorem fzl {P : Prop} (h : P := by (repeat' first | with_reducible exact trivial | exact .f _ | exact .nl _ | exact fz_ints rfl rfl rfl (by simp) | exact fz_txts rfl rfl rfl (by simp) | exact fz_nds rfl rfl rfl (by simp) | exact fz_tms rfl rfl rfl (by simp) | exact fz_rus rfl rfl rfl (by simp) | exact fz_eds rfl rfl rfl (by simp) | exact fz_hos rfl rfl rfl (by simp) | exact fz_tbs rfl rfl rfl (by simp) | exact fz_ses rfl rfl rfl (by simp) | exact fz_evs rfl rfl rfl (by simp) | exact fz_intsP rfl rfl rfl (by simp) | exact fz_hosP rfl rfl rfl (by simp) | ((conv => whnf); first | exact trivial | apply And.intro))) : P := h
theorem don {P : Prop} (h : P := by ((repeat' first | with_reducible exact trivial | with_reducible exact rfl | ((with_reducible refine tl_id ?_); first | exact tl_pv rfl rfl rfl (List.cons_ne_nil _ _) | exact tl_pt rfl rfl rfl (List.cons_ne_nil _ _) fzl | exact tl_ints rfl rfl rfl (by simp) | exact tl_intsP rfl rfl rfl (by simp) | exact tl_txts rfl rfl rfl (by simp) | exact tl_nds rfl rfl rfl (by simp) | exact tl_tms rfl rfl rfl (by simp) | exact tl_rus rfl rfl rfl (by simp) | exact tl_eds rfl rfl rfl (by simp) | exact tl_hos rfl rfl rfl (by simp) | exact tl_hosP rfl rfl rfl (by simp) | exact tl_tbs rfl rfl rfl (by simp) | exact tl_ses rfl rfl rfl (by simp) | exact tl_evs rfl rfl rfl (by simp) | exact tl_hts rfl rfl rfl (by simp) | exact tl_rqs rfl rfl rfl (by simp) | refine tl_int ?_ | refine tl_bool ?_ | refine tl_str ?_ | refine tl_row rfl ?_ | ((conv => whnf); first | exact trivial | exact rfl | exact .inr rfl | exact .inl ⟨rfl, rfl⟩ | apply And.intro) | with_reducible refine tl_f ?_) | with_reducible exact cl_ints _ | with_reducible exact pl_ints _ | with_reducible exact cl_intsP _ | with_reducible exact pl_intsP _ | with_reducible exact cl_txts _ | with_reducible exact pl_txts _ | with_reducible exact cl_nds _ | with_reducible exact pl_nds _ | with_reducible exact cl_tms _ | with_reducible exact pl_tms _ | with_reducible exact cl_rus _ | with_reducible exact pl_rus _ | with_reducible exact cl_eds _ | with_reducible exact pl_eds _ | with_reducible exact cl_hos _ | with_reducible exact pl_hos _ | with_reducible exact cl_hosP _ | with_reducible exact pl_hosP _ | with_reducible exact cl_tbs _ | with_reducible exact pl_tbs _ | with_reducible exact cl_ses _ | with_reducible exact pl_ses _ | with_reducible exact cl_evs _ | with_reducible exact pl_evs _ | with_reducible exact cl_hts _ | with_reducible exact pl_hts _ | with_reducible exact cl_rqs _ | with_reducible exact pl_rqs _ | with_reducible exact cl_mp _ | (with_reducible refine Exists.intro _ (And.intro ?_ ?_); exact rfl; exact frzC_map _) | (refine ⟨_, rfl, ?_⟩; first | exact frzC_map _ | exact fzl) | ((conv => whnf); first | with_reducible exact trivial | exact rfl | apply And.intro | exact .inr rfl | exact .inl ⟨rfl, rfl⟩) | exact Nat.succ_pos _); all_goals (first | rfl | assumption | exact List.cons_ne_nil _ _ | exact q.symm | omega | (rw [IntKind.wrap_i64]; omega) | (simp; done) | (simp; omega)))) : P := h
end Go.Proofs.YtchfpgpboifbeaaGreat.Ac
set_option linter.unusedVariables false
set_option linter.unusedSimpArgs false
set_option maxRecDepth 20000
set_option maxHeartbeats 20000000
namespace Go.Proofs.YtchfpgpboifbeaaGreat.Ac
open Go.RowKit
def ixP {α : Type} (p : α → Bool) : Nat → List α → Int
  | _, [] => -1
  | i, x :: l => if p x then i else ixP p (i + 1) l
theorem ixP_cons {α : Type} (p : α → Bool) (i : Nat) (x : α) (l : List α) : ixP p i (x :: l) = if p x then (i : Int) else ixP p (i + 1) l := rfl
theorem ixP_any {α : Type} {p : α → Bool} : ∀ (l : List α) (i : Nat), 0 ≤ ixP p i l ↔ ∃ x ∈ l, p x = true
  | [], i => by simp [ixP]
  | x :: l, i => by
    unfold ixP
    by_cases h : p x = true
    · rw [if_pos h]; exact ⟨fun _ => ⟨x, List.mem_cons_self, h⟩, fun _ => Int.natCast_nonneg i⟩
    · rw [if_neg h, ixP_any l (i + 1)]
      exact ⟨fun ⟨y, hy, hp⟩ => ⟨y, List.mem_cons_of_mem _ hy, hp⟩, fun ⟨y, hy, hp⟩ => by
        rcases List.mem_cons.1 hy with rfl | hy
        · exact absurd hp h
        · exact ⟨y, hy, hp⟩⟩
theorem ixP_at {α : Type} {p : α → Bool} : ∀ (l : List α) (i : Nat), (ixP p i l = -1 ∧ ∀ x ∈ l, p x = false) ∨ ∃ j, ∃ h : j < l.length, ixP p i l = ((i + j : Nat) : Int) ∧ p l[j] = true ∧ ∀ k (hk : k < j), p l[k] = false
  | [], i => .inl ⟨rfl, fun x hx => by cases hx⟩
  | x :: l, i => by
    unfold ixP
    by_cases h : p x = true
    · rw [if_pos h]; exact .inr ⟨0, by simp, by simp, h, fun k hk => by omega⟩
    · rw [if_neg h]
      rcases ixP_at l (i + 1) with ⟨h1, h2⟩ | ⟨j, hj, h1, h2, h3⟩
      · exact .inl ⟨h1, fun y hy => by
          rcases List.mem_cons.1 hy with rfl | hy
          · simpa using h
          · exact h2 y hy⟩
      · refine .inr ⟨j + 1, by simpa using hj, by rw [h1]; congr 1; omega, by simpa using h2, fun k hk => ?_⟩
        cases k with
        | zero => simpa using h
        | succ k => simpa using h3 k (by omega)
theorem ixfTerm_ok (l : List Tm) (f : FuncId) (c : L) (p : Tm → Bool) (hl : l.length < 2 ^ 62) (hp : ∀ t ∈ l, FC Tryz.prog f [(true, tmL t), (false, [c])] [] [(false, [.f (bL (p t))])]) : FC Tryz.prog 299 [(false, [tms l]), (false, [.cl f [(false, [c])]])] [] [(false, [.f (iL (ixP p 0 l))])] := by
  refine gcalls_run tbl_ok mixed Tryz.func299 rfl Tryz.ntmps299 (by kernel_rfl) (Nat.le_of_ble_eq_true rfl) rfl rfl trivial ?_; (conv => whnf); (repeat (refine ⟨by kernel_rfl, ?_⟩; (conv => whnf)))
  (refine ⟨fun (m : Nat) (es : Es) (hs : Hs) => ∃ (i : Nat), (m + i = l.length) ∧ (ixP p i (l.drop i) = ixP p 0 l) ∧ es = [(8, .val false [.f (iL i)]), (7, .val false [.f (iL l.length)]), (1, .val false [.f (.cl f [(false, [c])])]), (0, .val false [.f (tms l)])] ∧ hs = [], ⟨l.length, [], [], _, _, ⟨rfl, ?_, ?_⟩, 0, ?_, ?_, rfl, rfl⟩, ?_⟩; rotate_left 4; rintro m es hs ⟨i, hIXTm0, hIXTm1, rfl, rfl⟩; (conv => whnf); (repeat (refine ⟨by kernel_rfl, ?_⟩; (conv => whnf))))
  (refine ⟨fun h => ?_, fun h => ?_⟩ <;> ((conv => whnf); (repeat (refine ⟨by kernel_rfl, ?_⟩; (conv => whnf)))))
  have hi : i < l.length := by omega
  rw [List.drop_eq_getElem_cons hi] at hIXTm1
  rw [ixP_cons] at hIXTm1
  (refine ⟨(i, tmL l[i]), ⟨rfl, by simp [hi]⟩, ?_⟩; (conv => whnf); (repeat (refine ⟨by kernel_rfl, ?_⟩; (conv => whnf))))
  have hc := hp l[i] (List.getElem_mem _)
  cases hq : p l[i] with
  | true =>
    rw [hq] at hc hIXTm1
    rw [if_pos rfl] at hIXTm1
    (refine ⟨([], _), hc, ?_⟩; (conv => whnf); (repeat (refine ⟨by kernel_rfl, ?_⟩; (conv => whnf))))
    (refine ⟨[], [], ?_⟩; rotate_left)
    all_goals try exact don
  | false =>
    rw [hq] at hc hIXTm1
    rw [if_neg (by simp)] at hIXTm1
    (refine ⟨([], _), hc, ?_⟩; (conv => whnf); (repeat (refine ⟨by kernel_rfl, ?_⟩; (conv => whnf))))
    (refine ⟨m - 1, [], [], [(8, .val false [.f (iL (i + 1))]), (7, .val false [.f (iL l.length)]), (1, .val false [.f (.cl f [(false, [c])])]), (0, .val false [.f (tms l)])], [], by omega, ⟨rfl, ?_, ?_⟩, (i + 1), ?_, ?_, rfl, rfl⟩; rotate_left 4)
    all_goals try exact don
  rw [List.drop_eq_nil_of_le (by omega), show ixP p i [] = -1 from rfl] at hIXTm1
  (refine ⟨[], [], ?_⟩; rotate_left)
  all_goals try exact don
theorem cofTerm_ok (l : List Tm) (f : FuncId) (c : L) (p : Tm → Bool) (hl : l.length < 2 ^ 62) (hp : ∀ t ∈ l, FC Tryz.prog f [(true, tmL t), (false, [c])] [] [(false, [.f (bL (p t))])]) : FC Tryz.prog 277 [(false, [tms l]), (false, [.cl f [(false, [c])]])] [] [(false, [.f (bL (l.any p))])] := by
  have hx := ixfTerm_ok l f c p hl hp
  have ha := ixP_any (p := p) l 0
  rw [← List.any_eq_true] at ha
  refine gcalls_run tbl_ok mixed Tryz.func277 rfl Tryz.ntmps277 (by kernel_rfl) (Nat.le_of_ble_eq_true rfl) rfl rfl trivial ?_; (conv => whnf); (repeat (refine ⟨by kernel_rfl, ?_⟩; (conv => whnf)))
  (refine ⟨([], _), hx, ?_⟩; (conv => whnf); (repeat (refine ⟨by kernel_rfl, ?_⟩; (conv => whnf))))
  (refine ⟨fun h => ?_, fun h => ?_⟩ <;> ((conv => whnf); (repeat (refine ⟨by kernel_rfl, ?_⟩; (conv => whnf)))))
  have q : l.any p = true := ha.1 h
  (refine ⟨[], [], ?_⟩; rotate_left)
  have q : l.any p = false := by cases e : l.any p with
    | false => rfl
    | true => exact absurd (ha.2 e) h
  (refine ⟨[], [], ?_⟩; rotate_left)
  all_goals try exact don
theorem ixfRule_ok (l : List Ru) (f : FuncId) (c : L) (p : Ru → Bool) (hl : l.length < 2 ^ 62) (hp : ∀ t ∈ l, FC Tryz.prog f [(true, ruL t), (false, [c])] [] [(false, [.f (bL (p t))])]) : FC Tryz.prog 230 [(false, [rus l]), (false, [.cl f [(false, [c])]])] [] [(false, [.f (iL (ixP p 0 l))])] := by
  refine gcalls_run tbl_ok mixed Tryz.func230 rfl Tryz.ntmps230 (by kernel_rfl) (Nat.le_of_ble_eq_true rfl) rfl rfl trivial ?_; (conv => whnf); (repeat (refine ⟨by kernel_rfl, ?_⟩; (conv => whnf)))
  (refine ⟨fun (m : Nat) (es : Es) (hs : Hs) => ∃ (i : Nat), (m + i = l.length) ∧ (ixP p i (l.drop i) = ixP p 0 l) ∧ es = [(8, .val false [.f (iL i)]), (7, .val false [.f (iL l.length)]), (1, .val false [.f (.cl f [(false, [c])])]), (0, .val false [.f (rus l)])] ∧ hs = [], ⟨l.length, [], [], _, _, ⟨rfl, ?_, ?_⟩, 0, ?_, ?_, rfl, rfl⟩, ?_⟩; rotate_left 4; rintro m es hs ⟨i, hIXRu0, hIXRu1, rfl, rfl⟩; (conv => whnf); (repeat (refine ⟨by kernel_rfl, ?_⟩; (conv => whnf))))
  (refine ⟨fun h => ?_, fun h => ?_⟩ <;> ((conv => whnf); (repeat (refine ⟨by kernel_rfl, ?_⟩; (conv => whnf)))))
  have hi : i < l.length := by omega
  rw [List.drop_eq_getElem_cons hi] at hIXRu1
  rw [ixP_cons] at hIXRu1
  (refine ⟨(i, ruL l[i]), ⟨rfl, by simp [hi]⟩, ?_⟩; (conv => whnf); (repeat (refine ⟨by kernel_rfl, ?_⟩; (conv => whnf))))
  have hc := hp l[i] (List.getElem_mem _)
  cases hq : p l[i] with
  | true =>
    rw [hq] at hc hIXRu1
    rw [if_pos rfl] at hIXRu1
    (refine ⟨([], _), hc, ?_⟩; (conv => whnf); (repeat (refine ⟨by kernel_rfl, ?_⟩; (conv => whnf))))
    (refine ⟨[], [], ?_⟩; rotate_left)
    all_goals try exact don
  | false =>
    rw [hq] at hc hIXRu1
    rw [if_neg (by simp)] at hIXRu1
    (refine ⟨([], _), hc, ?_⟩; (conv => whnf); (repeat (refine ⟨by kernel_rfl, ?_⟩; (conv => whnf))))
    (refine ⟨m - 1, [], [], [(8, .val false [.f (iL (i + 1))]), (7, .val false [.f (iL l.length)]), (1, .val false [.f (.cl f [(false, [c])])]), (0, .val false [.f (rus l)])], [], by omega, ⟨rfl, ?_, ?_⟩, (i + 1), ?_, ?_, rfl, rfl⟩; rotate_left 4)
    all_goals try exact don
  rw [List.drop_eq_nil_of_le (by omega), show ixP p i [] = -1 from rfl] at hIXRu1
  (refine ⟨[], [], ?_⟩; rotate_left)
  all_goals try exact don
theorem ixfSession_ok (l : List Se) (f : FuncId) (c : L) (p : Se → Bool) (hl : l.length < 2 ^ 62) (hp : ∀ t ∈ l, FC Tryz.prog f [(true, seL t), (false, [c])] [] [(false, [.f (bL (p t))])]) : FC Tryz.prog 217 [(false, [ses l]), (false, [.cl f [(false, [c])]])] [] [(false, [.f (iL (ixP p 0 l))])] := by
  refine gcalls_run tbl_ok mixed Tryz.func217 rfl Tryz.ntmps217 (by kernel_rfl) (Nat.le_of_ble_eq_true rfl) rfl rfl trivial ?_; (conv => whnf); (repeat (refine ⟨by kernel_rfl, ?_⟩; (conv => whnf)))
  (refine ⟨fun (m : Nat) (es : Es) (hs : Hs) => ∃ (i : Nat), (m + i = l.length) ∧ (ixP p i (l.drop i) = ixP p 0 l) ∧ es = [(8, .val false [.f (iL i)]), (7, .val false [.f (iL l.length)]), (1, .val false [.f (.cl f [(false, [c])])]), (0, .val false [.f (ses l)])] ∧ hs = [], ⟨l.length, [], [], _, _, ⟨rfl, ?_, ?_⟩, 0, ?_, ?_, rfl, rfl⟩, ?_⟩; rotate_left 4; rintro m es hs ⟨i, hIXSe0, hIXSe1, rfl, rfl⟩; (conv => whnf); (repeat (refine ⟨by kernel_rfl, ?_⟩; (conv => whnf))))
  (refine ⟨fun h => ?_, fun h => ?_⟩ <;> ((conv => whnf); (repeat (refine ⟨by kernel_rfl, ?_⟩; (conv => whnf)))))
  have hi : i < l.length := by omega
  rw [List.drop_eq_getElem_cons hi] at hIXSe1
  rw [ixP_cons] at hIXSe1
  (refine ⟨(i, seL l[i]), ⟨rfl, by simp [hi]⟩, ?_⟩; (conv => whnf); (repeat (refine ⟨by kernel_rfl, ?_⟩; (conv => whnf))))
  have hc := hp l[i] (List.getElem_mem _)
  cases hq : p l[i] with
  | true =>
    rw [hq] at hc hIXSe1
    rw [if_pos rfl] at hIXSe1
    (refine ⟨([], _), hc, ?_⟩; (conv => whnf); (repeat (refine ⟨by kernel_rfl, ?_⟩; (conv => whnf))))
    (refine ⟨[], [], ?_⟩; rotate_left)
    all_goals try exact don
  | false =>
    rw [hq] at hc hIXSe1
    rw [if_neg (by simp)] at hIXSe1
    (refine ⟨([], _), hc, ?_⟩; (conv => whnf); (repeat (refine ⟨by kernel_rfl, ?_⟩; (conv => whnf))))
    (refine ⟨m - 1, [], [], [(8, .val false [.f (iL (i + 1))]), (7, .val false [.f (iL l.length)]), (1, .val false [.f (.cl f [(false, [c])])]), (0, .val false [.f (ses l)])], [], by omega, ⟨rfl, ?_, ?_⟩, (i + 1), ?_, ?_, rfl, rfl⟩; rotate_left 4)
    all_goals try exact don
  rw [List.drop_eq_nil_of_le (by omega), show ixP p i [] = -1 from rfl] at hIXSe1
  (refine ⟨[], [], ?_⟩; rotate_left)
  all_goals try exact don
theorem ixfHold_ok (l : List Ho) (f : FuncId) (c : L) (p : Ho → Bool) (hl : l.length < 2 ^ 62) (hp : ∀ t ∈ l, FC Tryz.prog f [(true, hoL t), (false, [c])] [] [(false, [.f (bL (p t))])]) : FC Tryz.prog 243 [(false, [hos l]), (false, [.cl f [(false, [c])]])] [] [(false, [.f (iL (ixP p 0 l))])] := by
  refine gcalls_run tbl_ok mixed Tryz.func243 rfl Tryz.ntmps243 (by kernel_rfl) (Nat.le_of_ble_eq_true rfl) rfl rfl trivial ?_; (conv => whnf); (repeat (refine ⟨by kernel_rfl, ?_⟩; (conv => whnf)))
  (refine ⟨fun (m : Nat) (es : Es) (hs : Hs) => ∃ (i : Nat), (m + i = l.length) ∧ (ixP p i (l.drop i) = ixP p 0 l) ∧ es = [(8, .val false [.f (iL i)]), (7, .val false [.f (iL l.length)]), (1, .val false [.f (.cl f [(false, [c])])]), (0, .val false [.f (hos l)])] ∧ hs = [], ⟨l.length, [], [], _, _, ⟨rfl, ?_, ?_⟩, 0, ?_, ?_, rfl, rfl⟩, ?_⟩; rotate_left 4; rintro m es hs ⟨i, hIXHo0, hIXHo1, rfl, rfl⟩; (conv => whnf); (repeat (refine ⟨by kernel_rfl, ?_⟩; (conv => whnf))))
  (refine ⟨fun h => ?_, fun h => ?_⟩ <;> ((conv => whnf); (repeat (refine ⟨by kernel_rfl, ?_⟩; (conv => whnf)))))
  have hi : i < l.length := by omega
  rw [List.drop_eq_getElem_cons hi] at hIXHo1
  rw [ixP_cons] at hIXHo1
  (refine ⟨(i, hoL l[i]), ⟨rfl, by simp [hi]⟩, ?_⟩; (conv => whnf); (repeat (refine ⟨by kernel_rfl, ?_⟩; (conv => whnf))))
  have hc := hp l[i] (List.getElem_mem _)
  cases hq : p l[i] with
  | true =>
    rw [hq] at hc hIXHo1
    rw [if_pos rfl] at hIXHo1
    (refine ⟨([], _), hc, ?_⟩; (conv => whnf); (repeat (refine ⟨by kernel_rfl, ?_⟩; (conv => whnf))))
    (refine ⟨[], [], ?_⟩; rotate_left)
    all_goals try exact don
  | false =>
    rw [hq] at hc hIXHo1
    rw [if_neg (by simp)] at hIXHo1
    (refine ⟨([], _), hc, ?_⟩; (conv => whnf); (repeat (refine ⟨by kernel_rfl, ?_⟩; (conv => whnf))))
    (refine ⟨m - 1, [], [], [(8, .val false [.f (iL (i + 1))]), (7, .val false [.f (iL l.length)]), (1, .val false [.f (.cl f [(false, [c])])]), (0, .val false [.f (hos l)])], [], by omega, ⟨rfl, ?_, ?_⟩, (i + 1), ?_, ?_, rfl, rfl⟩; rotate_left 4)
    all_goals try exact don
  rw [List.drop_eq_nil_of_le (by omega), show ixP p i [] = -1 from rfl] at hIXHo1
  (refine ⟨[], [], ?_⟩; rotate_left)
  all_goals try exact don
theorem cofHold_ok (l : List Ho) (f : FuncId) (c : L) (p : Ho → Bool) (hl : l.length < 2 ^ 62) (hp : ∀ t ∈ l, FC Tryz.prog f [(true, hoL t), (false, [c])] [] [(false, [.f (bL (p t))])]) : FC Tryz.prog 196 [(false, [hos l]), (false, [.cl f [(false, [c])]])] [] [(false, [.f (bL (l.any p))])] := by
  have hx := ixfHold_ok l f c p hl hp
  have ha := ixP_any (p := p) l 0
  rw [← List.any_eq_true] at ha
  refine gcalls_run tbl_ok mixed Tryz.func196 rfl Tryz.ntmps196 (by kernel_rfl) (Nat.le_of_ble_eq_true rfl) rfl rfl trivial ?_; (conv => whnf); (repeat (refine ⟨by kernel_rfl, ?_⟩; (conv => whnf)))
  (refine ⟨([], _), hx, ?_⟩; (conv => whnf); (repeat (refine ⟨by kernel_rfl, ?_⟩; (conv => whnf))))
  (refine ⟨fun h => ?_, fun h => ?_⟩ <;> ((conv => whnf); (repeat (refine ⟨by kernel_rfl, ?_⟩; (conv => whnf)))))
  have q : l.any p = true := ha.1 h
  (refine ⟨[], [], ?_⟩; rotate_left)
  have q : l.any p = false := by cases e : l.any p with
    | false => rfl
    | true => exact absurd (ha.2 e) h
  (refine ⟨[], [], ?_⟩; rotate_left)
  all_goals try exact don
theorem ixfEvent_ok (l : List Ev) (f : FuncId) (c : L) (p : Ev → Bool) (hl : l.length < 2 ^ 62) (hp : ∀ t ∈ l, FC Tryz.prog f [(true, evL t), (false, [c])] [] [(false, [.f (bL (p t))])]) : FC Tryz.prog 200 [(false, [evs l]), (false, [.cl f [(false, [c])]])] [] [(false, [.f (iL (ixP p 0 l))])] := by
  refine gcalls_run tbl_ok mixed Tryz.func200 rfl Tryz.ntmps200 (by kernel_rfl) (Nat.le_of_ble_eq_true rfl) rfl rfl trivial ?_; (conv => whnf); (repeat (refine ⟨by kernel_rfl, ?_⟩; (conv => whnf)))
  (refine ⟨fun (m : Nat) (es : Es) (hs : Hs) => ∃ (i : Nat), (m + i = l.length) ∧ (ixP p i (l.drop i) = ixP p 0 l) ∧ es = [(8, .val false [.f (iL i)]), (7, .val false [.f (iL l.length)]), (1, .val false [.f (.cl f [(false, [c])])]), (0, .val false [.f (evs l)])] ∧ hs = [], ⟨l.length, [], [], _, _, ⟨rfl, ?_, ?_⟩, 0, ?_, ?_, rfl, rfl⟩, ?_⟩; rotate_left 4; rintro m es hs ⟨i, hIXEv0, hIXEv1, rfl, rfl⟩; (conv => whnf); (repeat (refine ⟨by kernel_rfl, ?_⟩; (conv => whnf))))
  (refine ⟨fun h => ?_, fun h => ?_⟩ <;> ((conv => whnf); (repeat (refine ⟨by kernel_rfl, ?_⟩; (conv => whnf)))))
  have hi : i < l.length := by omega
  rw [List.drop_eq_getElem_cons hi] at hIXEv1
  rw [ixP_cons] at hIXEv1
  (refine ⟨(i, evL l[i]), ⟨rfl, by simp [hi]⟩, ?_⟩; (conv => whnf); (repeat (refine ⟨by kernel_rfl, ?_⟩; (conv => whnf))))
  have hc := hp l[i] (List.getElem_mem _)
  cases hq : p l[i] with
  | true =>
    rw [hq] at hc hIXEv1
    rw [if_pos rfl] at hIXEv1
    (refine ⟨([], _), hc, ?_⟩; (conv => whnf); (repeat (refine ⟨by kernel_rfl, ?_⟩; (conv => whnf))))
    (refine ⟨[], [], ?_⟩; rotate_left)
    all_goals try exact don
  | false =>
    rw [hq] at hc hIXEv1
    rw [if_neg (by simp)] at hIXEv1
    (refine ⟨([], _), hc, ?_⟩; (conv => whnf); (repeat (refine ⟨by kernel_rfl, ?_⟩; (conv => whnf))))
    (refine ⟨m - 1, [], [], [(8, .val false [.f (iL (i + 1))]), (7, .val false [.f (iL l.length)]), (1, .val false [.f (.cl f [(false, [c])])]), (0, .val false [.f (evs l)])], [], by omega, ⟨rfl, ?_, ?_⟩, (i + 1), ?_, ?_, rfl, rfl⟩; rotate_left 4)
    all_goals try exact don
  rw [List.drop_eq_nil_of_le (by omega), show ixP p i [] = -1 from rfl] at hIXEv1
  (refine ⟨[], [], ?_⟩; rotate_left)
  all_goals try exact don
theorem cofEvent_ok (l : List Ev) (f : FuncId) (c : L) (p : Ev → Bool) (hl : l.length < 2 ^ 62) (hp : ∀ t ∈ l, FC Tryz.prog f [(true, evL t), (false, [c])] [] [(false, [.f (bL (p t))])]) : FC Tryz.prog 123 [(false, [evs l]), (false, [.cl f [(false, [c])]])] [] [(false, [.f (bL (l.any p))])] := by
  have hx := ixfEvent_ok l f c p hl hp
  have ha := ixP_any (p := p) l 0
  rw [← List.any_eq_true] at ha
  refine gcalls_run tbl_ok mixed Tryz.func123 rfl Tryz.ntmps123 (by kernel_rfl) (Nat.le_of_ble_eq_true rfl) rfl rfl trivial ?_; (conv => whnf); (repeat (refine ⟨by kernel_rfl, ?_⟩; (conv => whnf)))
  (refine ⟨([], _), hx, ?_⟩; (conv => whnf); (repeat (refine ⟨by kernel_rfl, ?_⟩; (conv => whnf))))
  (refine ⟨fun h => ?_, fun h => ?_⟩ <;> ((conv => whnf); (repeat (refine ⟨by kernel_rfl, ?_⟩; (conv => whnf)))))
  have q : l.any p = true := ha.1 h
  (refine ⟨[], [], ?_⟩; rotate_left)
  have q : l.any p = false := by cases e : l.any p with
    | false => rfl
    | true => exact absurd (ha.2 e) h
  (refine ⟨[], [], ?_⟩; rotate_left)
  all_goals try exact don
end Go.Proofs.YtchfpgpboifbeaaGreat.Ac
