/- Several of our texts, one behind the other, without what this claim does not need: AcQ. -/
import Derived.Test.YtecnmodeggnjoaaGreatZfaa816c9
set_option linter.unusedVariables false
set_option linter.unusedSimpArgs false
namespace Go.Proofs.YtecnmodeggnjoaaGreat.Ac
open Go.RowKit
section
variable {P : Program} {tb : Tab} {w₀ : World} {H₀ : Hp} {φ₀ : Phi} {N : Nat} {e : Env} {g : Hp} {φ : Phi} {a : Act} {w : World}
theorem fold_push : ∀ (l : List UInt8) (r : ByteArray), ((l.map fun b => (b.toNat : Int)).foldl (fun r n => r.push (UInt8.ofNat n.toNat)) r).data.toList = r.data.toList ++ l
  | [], r => by simp
  | b :: l, r => by
    rw [List.map_cons, List.foldl_cons, fold_push l]
    simp [ByteArray.push]
theorem bytes_does (hT : TabOK P tb) (ok : HeapOK w.heap g φ) {s t el : TypeId} {z z' : A} {bt bt' : Nat} (hs : tb s = some (.w (.slice el) z bt)) (ht : tb t = some (.w .string z' bt')) {x : T} {u : Value} (hx : RepT w.heap g φ x u) (rs : List Nat) :
    DoesO P w g φ (do pure (.value (← convert s t u))) rs (bytesO (tb el) x) := by
  obtain ⟨hu, _⟩ := hT.w s _ z bt hs
  obtain ⟨hv, _⟩ := hT.w t _ z' bt' ht
  intro k h
  unfold bytesO at h
  split at h
  · rename_i z1 b1 hel
    obtain ⟨he, _⟩ := hT.w el _ z1 b1 hel
    split at h
    · rename_i n lo hi
      obtain ⟨fl, wd, es, hn, hf4, hA⟩ := alive_elim h
      clear h
      obtain ⟨h0, hA⟩ := cond_K hA
      have := Nat.eq_of_beq_eq_true h0
      subst this
      obtain ⟨str, hstr, h⟩ := hA
      obtain ⟨m, news, ⟨ad, cap, rfl, hf⟩, hm, h1, h2, _, _, h5, _, h7⟩ := src_row (P := P) ok hn hf4 (rep_one hx)
      refine ⟨_, h, Does.value ok (u := .string str) ?_ (tS_rep _)⟩
      have hnews : news = (str.data.toList.map fun b => (b.toNat : Int)).map (Value.int .u8) := by
        rw [hstr] at hm h7
        rw [List.length_map] at hm
        apply List.ext_getElem?
        intro q
        by_cases hq : q < news.length
        · have hq2 : q < str.data.toList.length := by omega
          have := h7 q (byteL (str.data.toList[q])) 0 _ (by rw [List.getElem?_map, List.getElem?_eq_getElem hq2]; rfl) rfl
          simp only [Nat.mul_one, Nat.add_zero, cpA] at this
          have := v_rep (v := news.getD q undef) ⟨_, rfl, this⟩
          rw [List.getElem?_eq_getElem hq, List.map_map, List.getElem?_map, List.getElem?_eq_getElem hq2]
          rw [List.getD_eq_getElem?_getD, List.getElem?_eq_getElem hq] at this
          simpa using this
        · rw [List.getElem?_eq_none (by omega), List.getElem?_eq_none (by simp at hm ⊢; omega)]
      cases ad with
      | none =>
        have : m = 0 := by
          have h3 := (hf w rfl).1
          simp only [Builtin.firstCells] at h3
          have h4 : (#[] : Array Value) = news.toArray := by simpa using h3
          have : news = [] := by simpa using h4.symm
          rw [this] at h5; simp at h5; omega
        subst this
        have hn0 : news = [] := List.eq_nil_of_length_eq_zero (by omega)
        rw [hn0] at hnews
        have h9 : str.data.toList = [] := by simpa using hnews.symm
        have : str = .empty := by
          apply ByteArray.ext
          have := congrArg List.toArray h9
          simpa using this
        subst this
        simp [convert, run_underlying hu, run_underlying hv, run_underlying he, Conv.bytesToString]
      | some ad =>
        have h3 := (hf w rfl).1
        simp only [Builtin.firstCells, Nat.mul_one] at h3
        rw [hnews] at h3
        have h4 := run_bytesToString (P := P) w ad m cap _ h3
        have h5 : (str.data.toList.map fun b => (b.toNat : Int)).foldl (fun r n => r.push (UInt8.ofNat n.toNat)) ByteArray.empty = str := by
          apply ByteArray.ext
          have := fold_push str.data.toList ByteArray.empty
          apply Array.ext'
          rw [this]; rfl
        rw [h5] at h4
        simp [convert, run_underlying hu, run_underlying hv, run_underlying he, h4]
    · have r := rep_one hx
      cases r with
      | nl ad =>
        refine ⟨_, h, Does.value ok (u := .string .empty) ?_ (tS_rep _)⟩
        cases ad with
        | none => simp [convert, run_underlying hu, run_underlying hv, run_underlying he, Conv.bytesToString]
        | some ad =>
          have h4 := run_bytesToString (P := P) w ad 0 0 [] (by
            have := run_loadCells_list (P := P) w ad [] (by simp)
            simpa using this)
          simp [convert, run_underlying hu, run_underlying hv, run_underlying he, h4]
    · exact h.elim
  · exact h.elim
theorem map_one {α β : Type} {f : α → β} {l : List α} {y : β} (h : l.map f = [y]) : ∃ x, l = [x] ∧ y = f x := by
  cases l with
  | nil => cases h
  | cons x l =>
    cases l with
    | nil => cases h; exact ⟨x, rfl, rfl⟩
    | cons z l => cases h
theorem map_two {α β : Type} {f : α → β} {l : List α} {y z : β} (h : l.map f = [y, z]) : ∃ x x', l = [x, x'] ∧ y = f x ∧ z = f x' := by
  cases l with
  | nil => cases h
  | cons x l =>
    simp only [List.map_cons, List.cons.injEq] at h
    obtain ⟨x', rfl, hz⟩ := map_one h.2
    exact ⟨x, x', rfl, h.1.symm, hz⟩
theorem arr_of {α : Type} {a : Array α} {l : List α} (h : a.toList = l) : a = l.toArray := by rw [← h]
theorem bilt_does (hT : TabOK P tb) (s : Sim w₀ H₀ φ₀ N e g φ a w) {c : Call} {b : Builtin} (hb : c.callee = .builtin b) {ty : TypeId} {d : Nat} (hc : c.operands.all operOK = true) (rs : List Nat) :
    DoesO P w g φ (do let d ← resolve a.eval c ty; invoke d.target d.args) rs (biltO tb b c.argTypes.toList (c.args.toList.map (evT e)) d) := by
  obtain ⟨cal, args, argTypes⟩ := c
  dsimp only at hb ⊢
  subst hb
  intro k h
  have hop : ∀ x ∈ args.toList, operOK x = true := fun x hx => by
    simp only [Call.operands] at hc
    exact Array.all_eq_true_iff_forall_mem.1 hc x (by simpa using hx)
  generalize hts : argTypes.toList = ts at h
  generalize hxs : args.toList.map (evT e) = xs at h
  have hta := arr_of hts
  have e1 : ∀ b, (do let d ← resolve a.eval { callee := .builtin b, args := args, argTypes := argTypes } ty; invoke d.target d.args : Sem Next) = builtin b argTypes ty (args.map fun | .const _ => true | _ => false) (args.map a.eval) := fun b => rfl
  rw [e1]
  have m1 : ∀ x0, ([x0].toArray.map a.eval) = #[a.eval x0] := fun x0 => by simp
  have m2 : ∀ x0 x1, ([x0, x1].toArray.map a.eval) = #[a.eval x0, a.eval x1] := fun x0 x1 => by simp
  unfold biltO at h
  split at h
  · obtain ⟨x0, hx0, rfl⟩ := map_one hxs
    have ha := arr_of hx0
    subst ha hta
    split at h
    · rename_i l hl
      rw [m1]; exact len_does hT s.ok hl (ev_ok s (hop x0 (by simp))) ty _ rs k h
    · exact h.elim
  · obtain ⟨x0, hx0, rfl⟩ := map_one hxs
    have ha := arr_of hx0
    subst ha hta
    split at h
    · rename_i l hl
      rw [m1]; exact cap_does hT s.ok hl (ev_ok s (hop x0 (by simp))) ty _ rs k h
    · exact h.elim
  · obtain ⟨x0, x1, hx0, rfl, rfl⟩ := map_two hxs
    have ha := arr_of hx0
    subst ha hta
    split at h
    · rename_i hl1 hl2
      split at h
      · rename_i l hl
        rw [m2]; exact append_does hT s.ok hl1 hl2 hl (ev_ok s (hop x0 (by simp))) (ev_ok s (hop x1 (by simp))) ty _ rs k h
      · exact h.elim
    · rename_i hl1 hl2
      split at h
      · rename_i l hl
        rw [m2]; exact appendZ_does hT s.ok hl1 hl2 hl (ev_ok s (hop x0 (by simp))) (ev_ok s (hop x1 (by simp))) ty _ rs (fun n zv h1 h2 => src_zero h1 h2) k h
      · exact h.elim
    · exact h.elim
  · obtain ⟨x0, x1, hx0, rfl, rfl⟩ := map_two hxs
    have ha := arr_of hx0
    subst ha hta
    split at h
    · rename_i hl1
      split at h
      · rename_i l hl
        obtain ⟨hpos, h⟩ := cond_K h
        rw [m2]; exact copy_does hT s.ok hl1 hl (by simpa [Nat.blt, Nat.lt_iff_add_one_le] using hpos) (ev_ok s (hop x0 (by simp))) (ev_ok s (hop x1 (by simp))) _ (by simp) ty _ rs k h
      · exact h.elim
    · exact h.elim
  · obtain ⟨x0, hx0, rfl⟩ := map_one hxs
    have ha := arr_of hx0
    subst ha hta
    split at h
    · rename_i hl1
      split at h
      · rename_i l hl
        rw [m1]; exact clear_does hT s.ok hl1 hl (ev_ok s (hop x0 (by simp))) ty _ rs k h
      · exact h.elim
    · exact h.elim
  · obtain ⟨x0, x1, hx0, rfl, rfl⟩ := map_two hxs
    have ha := arr_of hx0
    subst ha
    rw [m2]; exact mm_does (mx := true) s.ok (ev_ok s (hop x0 (by simp))) (ev_ok s (hop x1 (by simp))) rs k h
  · obtain ⟨x0, x1, hx0, rfl, rfl⟩ := map_two hxs
    have ha := arr_of hx0
    subst ha
    rw [m2]; exact mm_does (mx := false) s.ok (ev_ok s (hop x0 (by simp))) (ev_ok s (hop x1 (by simp))) rs k h
  · exact h.elim
theorem opt_ev (s : Sim w₀ H₀ φ₀ N e g φ a w) {o : Option Operand} (hop : ∀ x, o = some x → operOK x = true) : (∀ x, o.map (evT e) = some x → ∃ u, o.map a.eval = some u ∧ RepT w.heap g φ x u) ∧ (o.map (evT e) = none → o.map a.eval = none) := by
  cases o with
  | none => exact ⟨fun x h => (by cases h), fun _ => rfl⟩
  | some y => exact ⟨fun x h => by cases h; exact ⟨_, rfl, ev_ok s (hop y rfl)⟩, fun h => by cases h⟩
theorem parts_ev (s : Sim w₀ H₀ φ₀ N e g φ a w) {ps : List (Nat × Operand)} (hop : ∀ p ∈ ps, operOK p.2 = true) : (ps.map fun p => (p.1, evT e p.2)).map (·.1) = (ps.map fun p => (p.1, a.eval p.2)).map (·.1) ∧
    ∀ (i : Nat) (x : Nat × T) (y : Nat × Value), (ps.map fun p => (p.1, evT e p.2))[i]? = some x → (ps.map fun p => (p.1, a.eval p.2))[i]? = some y → RepT w.heap g φ x.2 y.2 := by
  refine ⟨by simp, fun i x y h1 h2 => ?_⟩
  rw [List.getElem?_map] at h1 h2
  cases hp : ps[i]? with
  | none => rw [hp] at h1; cases h1
  | some p =>
    rw [hp] at h1 h2
    cases h1; cases h2
    exact ev_ok s (hop p (List.mem_of_getElem? hp))
theorem biN_does (hT : TabOK P tb) (ok : HeapOK w.heap g φ) {op : BinOp} {t : TypeId} {ox oy : Operand} {x y : T} {u v : Value} (hx : RepT w.heap g φ x u) (hy : RepT w.heap g φ y v) (rs : List Nat) :
    DoesO P w g φ (do pure (.value (← (do eqGuard op t ox oy u v; binOp op t u v)))) rs (biN op x y) := by
  intro k h
  unfold biN at h
  split at h
  · exact bi_does hT ok hx hy (fun p q hp hq => by rw [v_rep hx] at hp; cases hp) rs k h
  · exact bi_does hT ok hx hy (fun p q hp hq => by rw [v_rep hx] at hp; cases hp) rs k h
  · exact h.elim
theorem opO_does (hT : TabOK P tb) (s : Sim w₀ H₀ φ₀ N e g φ a w) {o : Oper} {d : Nat} (hc : o.op.operands.all operOK = true) (rs : List Nat) : DoesO P w g φ (execOp a.eval o) rs (opO tb o.op d (evT e)) := by
  have op : ∀ x ∈ o.op.operands, operOK x = true := fun x hx => Array.all_eq_true_iff_forall_mem.1 hc x hx
  intro k h
  unfold execOp
  generalize hop : o.op = q at h hc op ⊢
  cases q <;> first | exact h.elim | skip
  case move x => exact move_does s.ok (ev_ok s (op x (by simp [Op.operands]))) rs k h
  case assign x => exact move_does s.ok (ev_ok s (op x (by simp [Op.operands]))) rs k h
  case pick c x y => exact pick_does s.ok (ev_ok s (op c (by simp [Op.operands]))) (ev_ok s (op x (by simp [Op.operands]))) (ev_ok s (op y (by simp [Op.operands]))) rs k h
  case alloc t =>
    simp only [opO] at h
    split at h
    · rename_i heq; exact alloc_does hT s.ok heq rs k h
    · exact h.elim
  case box t x =>
    simp only [opO] at h
    split at h
    · rename_i heq; exact box_does hT s.ok heq (ev_ok s (op x (by simp [Op.operands]))) rs k h
    · exact h.elim
  case build t ps =>
    simp only [opO] at h
    split at h
    · rename_i heq
      obtain ⟨h1, h2⟩ := parts_ev s (ps := ps.toList) fun p hp => op p.2 (show p.2 ∈ (ps.toList.map (·.2)).toArray from List.mem_toArray.2 (List.mem_map.2 ⟨p, hp, rfl⟩))
      have := struct_does hT s.ok heq h1 h2 rs k h
      have e1 : (ps.toList.map fun p => (p.1, a.eval p.2)).toArray = ps.map fun p => (p.1, a.eval p.2) := by rw [← Array.toList_map]
      rw [e1] at this
      exact this
    · exact h.elim
  case buildSlice t n ps =>
    simp only [opO] at h
    split at h
    · rename_i heq
      split at h
      · rename_i hl
        obtain ⟨h1, h2⟩ := parts_ev s (ps := ps.toList) fun p hp => op p.2 (show p.2 ∈ (ps.toList.map (·.2)).toArray from List.mem_toArray.2 (List.mem_map.2 ⟨p, hp, rfl⟩))
        have := rows_does hT s.ok heq hl h1 h2 rs k h
        have e1 : (ps.toList.map fun p => (p.1, a.eval p.2)).toArray = ps.map fun p => (p.1, a.eval p.2) := by rw [← Array.toList_map]
        rw [e1] at this
        exact this
      · exact h.elim
    · exact h.elim
  case load t x =>
    simp only [opO] at h
    split at h
    · rename_i heq; exact load_does hT s.ok heq (ev_ok s (op x (by simp [Op.operands]))) rs k h
    · exact h.elim
  case store t x y =>
    simp only [opO] at h
    split at h
    · rename_i heq; exact store_does hT s.ok heq (ev_ok s (op x (by simp [Op.operands]))) (ev_ok s (op y (by simp [Op.operands]))) rs k h
    · exact h.elim
  case nilCheck x =>
    have r := ev_ok s (op x (by simp [Op.operands]))
    simp only [opO, nilO] at h
    split at h
    · rename_i y heq
      rw [heq] at r
      have r2 := rep_one r
      obtain ⟨b, p, hu⟩ : ∃ b p, a.eval x = .pointer (some ⟨b, p, none⟩) := by
        generalize a.eval x = u at r2
        cases r2 with
        | f _ _ r2 => cases r2; exact ⟨_, _, rfl⟩
      exact ⟨_, h, Does.value s.ok (u := a.eval x) (by simp only [hu]; rfl) r⟩
    · rename_i n i off heq
      rw [heq] at r
      obtain ⟨fl, wd, es, hn, hf4, h⟩ := alive_elim h
      obtain ⟨b, p, hu, _⟩ := pt_add (o := 0) s.ok hn hf4 (rep_one r)
      exact ⟨_, h, Does.value s.ok (u := a.eval x) (by simp only [hu]; rfl) r⟩
    · rename_i heq
      rw [heq] at r
      have r2 := rep_one r
      obtain ⟨f, cap, hu⟩ : ∃ f cap, a.eval x = .func (.func f) #[] cap := by
        generalize a.eval x = u at r2
        cases r2 with
        | f _ _ r2 => cases r2; exact ⟨_, _, rfl⟩
      exact ⟨_, h, Does.value s.ok (u := a.eval x) (by simp only [hu]; rfl) r⟩
    · rename_i heq
      rw [heq] at r
      have r2 := rep_one r
      obtain ⟨f, cap, hu⟩ : ∃ f cap, a.eval x = .func (.func f) #[] cap := by
        generalize a.eval x = u at r2
        cases r2; exact ⟨_, _, rfl⟩
      exact ⟨_, h, Does.value s.ok (u := a.eval x) (by simp only [hu]; rfl) r⟩
    · exact h.elim
  case fieldAddr t x f =>
    simp only [opO] at h
    split at h
    · rename_i hl
      split at h
      · rename_i hf; exact addr_does hT s.ok hl hf (ev_ok s (op x (by simp [Op.operands]))) rs k h
      · exact h.elim
    · exact h.elim
  case field t x f =>
    simp only [opO] at h
    split at h
    · rename_i hl
      split at h
      · rename_i hf; exact field_does hT s.ok hl hf (ev_ok s (op x (by simp [Op.operands]))) rs k h
      · exact h.elim
    · exact h.elim
  case indexAddr t x i =>
    simp only [opO] at h
    split at h
    · rename_i ht
      split at h
      · rename_i hl; exact idx_does hT s.ok ht hl (ev_ok s (op x (by simp [Op.operands]))) (ev_ok s (op i (by simp [Op.operands]))) rs k h
      · exact h.elim
    · exact h.elim
  case index t x i =>
    simp only [opO] at h
    split at h
    · rename_i ht; exact chr_does hT s.ok ht (ev_ok s (op x (by simp [Op.operands]))) (ev_ok s (op i (by simp [Op.operands]))) rs k h
    · exact h.elim
  case binOp op' t x y yt =>
    have rx := ev_ok s (op x (by simp [Op.operands]))
    have ry := ev_ok s (op y (by simp [Op.operands]))
    simp only [opO] at h
    split at h
    · rename_i heq; exact eq_does hT s.ok heq rx ry rs k h
    · exact h.elim
    · rename_i elm z b heq
      obtain ⟨hu, _⟩ := hT.w t _ _ _ heq
      exact bi_does hT s.ok rx ry (fun _ _ _ _ => ⟨elm, hu⟩) rs k h
    · rename_i elm z b heq
      obtain ⟨hu, _⟩ := hT.w t _ _ _ heq
      split at h
      · exact nilS_does s.ok hu rx rs k h
      · exact h.elim
    · rename_i hne1 hne2 hne3 hne4
      exact biN_does hT s.ok rx ry rs k h
  case unOp u t x => exact un_does s.ok (ev_ok s (op x (by simp [Op.operands]))) rs k h
  case extract x i => exact extr_does s.ok (ev_ok s (op x (by simp [Op.operands]))) rs k h
  case convert s' t x =>
    have rx := ev_ok s (op x (by simp [Op.operands]))
    simp only [opO] at h
    split at h
    · rename_i h1 h2; exact bytes_does hT s.ok h1 h2 rx rs k h
    · rename_i _ h1 h2; exact conv_does hT s.ok h1 h2 rx rs k h
    · exact h.elim
  case makeFunc f fst cs =>
    cases f <;> first | exact h.elim | skip
    simp only [opO] at h
    obtain ⟨h0, h⟩ := cond_K h
    have hz : fst = #[] := by have := Nat.eq_of_beq_eq_true h0; exact Array.eq_empty_of_size_eq_zero this
    subst hz
    have := func_does (P := P) s.ok (us := cs.toList.map a.eval) (fun i x hi => by
      rw [List.getElem?_map] at hi
      cases hq : cs.toList[i]? with
      | none => rw [hq] at hi; cases hi
      | some y =>
        rw [hq] at hi
        cases hi
        exact ⟨a.eval y, by rw [List.getElem?_map, hq]; rfl, ev_ok s (op y (show y ∈ (#[] ++ cs : Array Operand) by have := List.mem_of_getElem? hq; simpa using this))⟩) (by simp) rs k h
    have e1 : (cs.toList.map a.eval).toArray = cs.map a.eval := by rw [← Array.toList_map]
    have e2 : (#[] : Array Operand).map a.eval = #[] := by simp
    rw [e1] at this
    rw [← e2] at this
    exact this
  case makeMap t r =>
    simp only [opO] at h
    cases r with
    | none => exact makeMap_does s.ok rs k h
    | some r => exact h.elim
  case lookup t x i ok =>
    simp only [opO] at h
    split at h
    · rename_i ht
      split at h
      · rename_i hk he; exact look_does hT s.ok ht hk he (ev_ok s (op x (by simp [Op.operands]))) (ev_ok s (op i (by simp [Op.operands]))) rs k h
      · exact h.elim
    · exact h.elim
  case mapUpdate t x i y =>
    simp only [opO] at h
    split at h
    · rename_i ht
      split at h
      · rename_i hk; exact mupd_does hT s.ok ht hk (ev_ok s (op x (by simp [Op.operands]))) (ev_ok s (op i (by simp [Op.operands]))) (ev_ok s (op y (by simp [Op.operands]))) rs k h
      · exact h.elim
    · exact h.elim
  case makeSlice t x y =>
    simp only [opO] at h
    split at h
    · rename_i ht
      split at h
      · rename_i hl; exact makeSlice_does hT s.ok ht hl (ev_ok s (op x (by simp [Op.operands]))) (ev_ok s (op y (by simp [Op.operands]))) rs k h
      · exact h.elim
    · exact h.elim
  case slice t x lo hi mx =>
    simp only [opO] at h
    split at h
    · rename_i l hl
      obtain ⟨a1, a2⟩ := opt_ev s (o := lo) fun y hy => op y (by simp [Op.operands, hy])
      obtain ⟨b1, b2⟩ := opt_ev s (o := hi) fun y hy => op y (by simp [Op.operands, hy])
      obtain ⟨c1, c2⟩ := opt_ev s (o := mx) fun y hy => op y (by simp [Op.operands, hy])
      exact slice_does hT s.ok hl (ev_ok s (op x (by simp [Op.operands]))) a1 a2 b1 b2 c1 c2 rs (fun el z bt h => by subst h; rfl) k h
    · exact h.elim
  case call c =>
    simp only [opO] at h
    split at h
    · rename_i b hb; exact bilt_does hT s hb hc rs k h
    · exact h.elim
end
end Go.Proofs.YtecnmodeggnjoaaGreat.Ac
