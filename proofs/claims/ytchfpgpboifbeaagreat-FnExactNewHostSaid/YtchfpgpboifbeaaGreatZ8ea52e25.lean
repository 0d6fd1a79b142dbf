/- Several of our texts, one behind the other, without what this claim does not need: AcM, AcN, AcO, AcP. -/
import Derived.Test.YtchfpgpboifbeaaGreatZ6a6d1539
import Derived.Laws.BytesString
set_option linter.unusedVariables false
set_option linter.unusedSimpArgs false
namespace Go.Proofs.YtchfpgpboifbeaaGreat.Ac
open Go.RowKit
section
variable {P : Program} {tb : Tab} {g : Hp} {φ : Phi} {w : World} {h : Array Obj} {H : Hp}
theorem fold_zip (off : Nat) : ∀ (vs : List Value) (k : Nat) (cs : Array Value), off + k + vs.length ≤ cs.size →
    ((vs.zipIdx k).foldl (fun (cs : Array Value) (x : Value × Nat) => cs.setIfInBounds (off + x.2) x.1) cs).toList = cs.toList.take (off + k) ++ vs ++ cs.toList.drop (off + k + vs.length)
  | [], k, cs, h => by simp
  | v :: vs, k, cs, h => by
    rw [List.zipIdx_cons, List.foldl_cons, fold_zip off vs (k + 1) _ (by simp at h ⊢; omega)]
    simp only [Array.toList_setIfInBounds, List.length_cons] at h ⊢
    apply List.ext_getElem?
    intro q
    have hl : (cs.toList.set (off + k) v).length = cs.size := by simp
    rw [show off + (k + 1) + vs.length = (off + (k + 1)) + vs.length by omega, seg_get (cs.toList.set (off + k) v) (off + (k + 1)) vs (by rw [hl]; omega)]
    rw [show off + k + (vs.length + 1) = (off + k) + (v :: vs).length by simp, seg_get cs.toList (off + k) (v :: vs) (by simp; omega)]
    simp only [List.length_cons]
    by_cases h1 : off + (k + 1) ≤ q ∧ q < off + (k + 1) + vs.length
    · rw [if_pos h1, if_pos (by omega), show q - (off + k) = (q - (off + (k + 1))) + 1 by omega]; rfl
    · rw [if_neg h1]
      by_cases h2 : q = off + k
      · subst h2
        rw [if_pos (by omega), Nat.sub_self, List.getElem?_set_self (by simp; omega)]; rfl
      · rw [if_neg (by omega), List.getElem?_set_ne (fun h => h2 h.symm)]
theorem fill_cons {place : Nat → Option (Nat × Nat)} {cells : Array Value} {i : Nat} {v : Value} {rest : List (Nat × Value)} {off : Nat} (hp : place i = some (off, v.cells.size)) (hle : off + v.cells.size ≤ cells.size) :
    Instr.fill place cells ((i, v) :: rest) = Instr.fill place (cells.toList.take off ++ v.cells.toList ++ cells.toList.drop (off + v.cells.toList.length)).toArray rest := by
  have h2 : ¬ (cells.size < off + v.cells.size) := by omega
  have hf := fold_zip off v.cells.toList 0 cells (by simpa using hle)
  simp only [Nat.add_zero] at hf
  have hz : v.cells.zipIdx.foldl (fun (cs : Array Value) (x : Value × Nat) => match x with | (c, j) => cs.setIfInBounds (off + j) c) cells = (cells.toList.take off ++ v.cells.toList ++ cells.toList.drop (off + v.cells.toList.length)).toArray := by
    rw [← Array.foldl_toList, Array.toList_zipIdx]
    apply Array.ext'
    exact hf
  simp only [Instr.fill, hp]
  rw [if_neg (by simp; omega)]
  exact congrArg (fun c => Instr.fill place c rest) hz
theorem build_elim {sz : Nat} {fs : List (Nat × Nat × Bool)} {place : Nat → Option (Nat × Nat)} (hpl : ∀ (f : Nat) (x : Nat × Nat × Bool), fs[f]? = some x → place f = some (x.1, x.2.1) ∧ x.1 + x.2.1 ≤ sz) : ∀ (ps : List (Nat × T)) (vs : List (Nat × Value)) (zs : List A) (cells : Array Value) (κ : List A → Out) (rs : List Nat) (k : Eff → Prop),
    ps.map (·.1) = vs.map (·.1) → (∀ (i : Nat) (x : Nat × T) (y : Nat × Value), ps[i]? = some x → vs[i]? = some y → RepT h H φ x.2 y.2) → cells.size = sz → RepC h H φ zs cells.toList → (buildK fs ps zs κ).K true g rs k →
    ∃ zs' cells', Instr.fill place cells vs = some cells' ∧ cells'.size = sz ∧ RepC h H φ zs' cells'.toList ∧ (κ zs').K true g rs k
  | [], vs, zs, cells, κ, rs, k, hk, hr, hs, hz, hK => by
    have : vs = [] := by simpa using hk.symm
    subst this
    exact ⟨zs, cells, rfl, hs, hz, hK⟩
  | (f, x) :: ps, [], zs, cells, κ, rs, k, hk, hr, hs, hz, hK => by simp at hk
  | (f, x) :: ps, (f', v) :: vs, zs, cells, κ, rs, k, hk, hr, hs, hz, hK => by
    simp only [List.map_cons, List.cons.injEq] at hk
    obtain ⟨rfl, hk⟩ := hk
    have r := hr 0 _ _ rfl rfl
    cases x with
    | val ag cs =>
      simp only [buildK] at hK
      split at hK
      · rename_i o s _ hf
        obtain ⟨h0, hK⟩ := cond_K hK
        have hcs := Nat.eq_of_beq_eq_true h0
        obtain ⟨hle, hK⟩ := splice_elim hK
        obtain ⟨hp, hsz⟩ := hpl f _ hf
        have rc := rep_cells r
        have hvl := rc.length
        have hv : v.cells.size = s := by rw [← hcs, ← hvl]; simp
        have hfc := fill_cons (place := place) (i := f) (off := o) (rest := vs) (v := v) (cells := cells) (by rw [hp, hv]) (by rw [hv, hs]; exact hsz)
        rw [hfc]
        have hl := hz.length
        refine build_elim hpl ps vs _ _ κ rs k hk (fun i x y h1 h2 => hr (i + 1) x y h1 h2) ?_ ?_ hK
        · simp only [List.size_toArray, List.length_append, List.length_take, List.length_drop, Array.length_toList, hv]; dsimp only at hsz ⊢; omega
        · have e1 : (cells.toList.take o ++ v.cells.toList ++ cells.toList.drop (o + v.cells.toList.length)).toArray.toList = cells.toList.take o ++ v.cells.toList ++ cells.toList.drop (o + v.cells.toList.length) := by simp
          rw [e1, hvl]
          exact ((hz.take o).append rc).append (hz.drop _)
      · exact hK.elim
    | tu _ => exact hK.elim
    | bot => exact hK.elim
theorem places_run {fields : Array Field} {fs : List (Nat × Nat × Bool)} (hlen : fs.length = fields.size) (hfs : ∀ (f : Nat) (x : Nat × Nat × Bool), fs[f]? = some x → ∃ fd inf', fields[f]? = some fd ∧ fd.offset = x.1 ∧ P.info? fd.type = some inf' ∧ inf'.size = x.2.1) :
    (fields.mapM (m := Sem) fun f => do pure (f.offset, ← sizeOf f.type)).run P w = .ok (fs.map fun x => (x.1, x.2.1)).toArray w := by
  have key : ∀ (l : List Field) (k : Nat) (fs : List (Nat × Nat × Bool)), l.length = fs.length → (∀ (f : Nat) (x : Nat × Nat × Bool), fs[f]? = some x → ∃ fd inf', l[f]? = some fd ∧ fd.offset = x.1 ∧ P.info? fd.type = some inf' ∧ inf'.size = x.2.1) →
      (l.mapM (m := Sem) fun f => do pure (f.offset, ← sizeOf f.type)).run P w = .ok (fs.map fun x => (x.1, x.2.1)) w := by
    intro l
    induction l with
    | nil => intro k fs hl _; have : fs = [] := List.eq_nil_of_length_eq_zero hl.symm; subst this; simp
    | cons fd l ih =>
      intro k fs hl hx
      cases fs with
      | nil => simp at hl
      | cons x fs =>
        obtain ⟨fd', inf', h1, h2, h3, h4⟩ := hx 0 x rfl
        cases h1
        have := ih (k + 1) fs (by simpa using hl) fun f x hf => hx (f + 1) x hf
        simp only [List.mapM_cons, Sem.run_bind, sizeOf, typeInfo, run_program, h3, Sem.run_pure, Result.andThen_ok]
        simp only [sizeOf, typeInfo] at this
        rw [this]
        simp [h2, h4]
  rw [← Array.toArray_toList (xs := fields), List.mapM_toArray]
  have := key fields.toList 0 fs (by simp [hlen]) fun f x hf => by
    obtain ⟨fd, inf', h1, h2⟩ := hfs f x hf
    exact ⟨fd, inf', by simpa using h1, h2⟩
  simp only [Functor.map, Sem.run_map, Sem.run_bind', this]
  rfl
theorem struct_does (hT : TabOK P tb) (ok : HeapOK w.heap g φ) {t : TypeId} {l : Lay} (hl : tb t = some l) {ps : List (Nat × T)} {vs : List (Nat × Value)} (hk : ps.map (·.1) = vs.map (·.1))
    (hr : ∀ (i : Nat) (x : Nat × T) (y : Nat × Value), ps[i]? = some x → vs[i]? = some y → RepT w.heap g φ x.2 y.2) (rs : List Nat) : DoesO P w g φ (do pure (.value (← Instr.build t vs.toArray))) rs (buildO l ps) := by
  intro k h
  unfold buildO at h
  split at h
  · rename_i sz z fs bt
    obtain ⟨inf, fields, zv, hu, hi, hs, hz, rfl, h1, h2, _, hfl, hfs⟩ := hT.st t _ _ _ _ hl
    have hpl : ∀ (f : Nat) (x : Nat × Nat × Bool), fs[f]? = some x → (fun f => ((fs.map fun x => (x.1, x.2.1)).toArray)[f]?) f = some (x.1, x.2.1) ∧ x.1 + x.2.1 ≤ sz := fun f x hf => by
      obtain ⟨fd, inf', _, _, _, _, _, g1, _⟩ := hfs f x hf
      exact ⟨by simp [hf], g1⟩
    obtain ⟨zs', cells', hf, hs', hr', h⟩ := build_elim (h := w.heap) (H := g) (φ := φ) hpl ps vs _ zv _ rs k hk hr h2 (constC_ok h1) h
    have hp := places_run (P := P) (w := w) hfl fun f x hf => by
      obtain ⟨fd, inf', g1, g2, g3, g4, _⟩ := hfs f x hf
      exact ⟨fd, inf', g1, g2, g3, g4⟩
    refine ⟨_, h, Does.value ok (u := .agg cells') ?_ ⟨_, rfl, hr'⟩⟩
    simp only [Instr.build, zeroValue, typeInfo, Sem.run_bind, run_program, hi, hz, Sem.run_pure, Result.andThen_ok, run_underlying hu, Value.cells]
    simp only [sizeOf, typeInfo] at hp
    simp only [sizeOf, typeInfo, hp, Result.andThen_ok]
    rw [show Instr.fill (fun x => ((fs.map fun x => (x.1, x.2.1)).toArray)[x]?) zv vs = some cells' from hf]
    rfl
  · exact h.elim
end
end Go.Proofs.YtchfpgpboifbeaaGreat.Ac
set_option linter.unusedVariables false
set_option linter.unusedSimpArgs false
namespace Go.Proofs.YtchfpgpboifbeaaGreat.Ac
open Go.RowKit
section
variable {P : Program} {tb : Tab} {g : Hp} {φ : Phi} {w : World} {h : Array Obj} {H : Hp}
theorem zero_get {z : Array Value} {n sz i j : Nat} (hz : z.size = sz) (hi : i < n) (hj : j < sz) : (Builtin.zeroCells z n).getD (i * sz + j) undef = z.getD j undef := by
  have h1 : i * sz + j < n * z.size := by rw [hz]; exact idx_lt hi hj
  have h2 : (i * sz + j) % sz = j := by rw [Nat.add_comm, Nat.add_mul_mod_self_right]; exact Nat.mod_eq_of_lt hj
  have h3 : i * sz + j < n * sz := hz ▸ h1
  simp [Builtin.zeroCells, Array.getD_eq_getD_getElem?, h3, hz, h2, hj]
theorem zero_arr {z : Array Value} {n sz : Nat} (hz : z.size = sz) : (Array.range (n * sz)).map (fun i => (if n * sz = 0 then (#[] : Array Value) else z)[i % (if n * sz = 0 then (#[] : Array Value) else z).size]!) = Builtin.zeroCells z n := by
  by_cases h0 : n * sz = 0
  · simp [h0, Builtin.zeroCells, hz]
  · simp [h0, Builtin.zeroCells, hz]
theorem makeSlice_does (hT : TabOK P tb) (ok : HeapOK w.heap g φ) {d : Nat} {t el : TypeId} {z : A} {bt : Nat} {l : Lay} (ht : tb t = some (.w (.slice el) z bt)) (hl : tb el = some l) {x y : T} {u v : Value} (hx : RepT w.heap g φ x u) (hy : RepT w.heap g φ y v) (rs : List Nat) :
    DoesO P w g φ (do pure (.value (← Instr.makeSlice t u v))) rs (makeSliceO d l x y) := by
  obtain ⟨ht', _⟩ := hT.w t _ z bt ht
  obtain ⟨inf, zv, hi, hsz, hbt, hz, hzs, hzr⟩ := tab_zero hT hl w.heap g φ
  intro k h
  unfold makeSliceO at h
  split at h
  · rename_i i1 z1 i2 z2
    cases v_rep hx
    cases v_rep hy
    obtain ⟨h0, h⟩ := cond_K h
    obtain ⟨⟨n, c⟩, ⟨rfl, rfl, hnc, hc⟩, hA⟩ := h
    dsimp only at hnc hc hA
    simp only [Bool.and_eq_true] at h0
    have hpos : 0 < l.size := by have := h0.1; simpa [Nat.blt, Nat.lt_iff_add_one_le] using this
    have hby : inf.bytes ≤ 65536 := by rw [hbt]; exact Nat.le_of_ble_eq_true h0.2
    have hcm : inf.bytes * c ≤ 65536 * 2 ^ 30 := Nat.mul_le_mul hby (Nat.le_of_lt hc)
    have w1 : IntKind.i64.wrap (n : Int) = n := by rw [IntKind.wrap_i64]; omega
    have w2 : IntKind.i64.wrap (c : Int) = c := by rw [IntKind.wrap_i64]; omega
    have e1 : ¬ ((inf.bytes : Int) * (c : Int) > 281474976710656) := by
      rw [← Int.natCast_mul]; omega
    have hrun : (do pure (.value (← Instr.makeSlice t (.int i1 n) (.int i2 c))) : Sem Next).run P w = .ok (.value (.slice (some ⟨w.heap.size, 0, none⟩) n c)) (w.alloc (.cells (Builtin.zeroCells zv.cells c) el)) := by
      have e2 : ¬ ((c : Int) < 0) := by omega
      have e3 : ¬ ((n : Int) < 0) := by omega
      have e4 : ¬ ((n : Int) > (c : Int)) := by omega
      have e5 : ¬ (c * inf.bytes > 140737488355328) := by rw [Nat.mul_comm]; omega
      have hza := zero_arr (n := c) hzs
      rw [← hsz] at hza
      by_cases h0 : c * inf.size = 0
      · simp [Instr.makeSlice, run_underlying ht', asInt, asIntOf, typeInfo, hi, w1, w2, askRoom, roomBytes, sizeOf, zeroValue, hz, newRow, e1, e2, e3, e4, e5, h0]
        have hc0 : c = 0 := by
          rcases Nat.mul_eq_zero.1 h0 with h | h
          · exact h
          · omega
        subst hc0
        have e9 : ∀ f : Nat → Value, Array.map f (Array.range 0) = #[] := fun f => by simp [Array.range]
        simp only [Builtin.zeroCells, Nat.zero_mul, e9]
      · simp [Instr.makeSlice, run_underlying ht', asInt, asIntOf, typeInfo, hi, w1, w2, askRoom, roomBytes, sizeOf, zeroValue, hz, newRow, e1, e2, e3, e4, e5, h0]
        rw [hsz, ← hzs]; rfl
    obtain ⟨hr1, hr2⟩ : RowOK l.size (List.replicate n l.zero) ⟨w.heap.size, 0, c⟩ (Builtin.zeroCells zv.cells c) ∧ ∀ i e j x, (List.replicate n l.zero)[i]? = some e → e[j]? = some x → RepE w.heap g φ x ((Builtin.zeroCells zv.cells c).getD (i * l.size + j) undef) := by
      have hzl := hzr.length
      refine ⟨⟨hpos, fun e he => ?_, by simpa using hnc, by simp only [maxLen]; omega, by rw [size_zeroCells, hzs]; simp, fun k hk => zero_one hzr.one hk⟩, fun i e j x hi hj => ?_⟩
      · rw [List.eq_of_mem_replicate he, ← hzl]; simpa using hzs
      · have hin : i < n := by have := (List.getElem?_eq_some_iff.1 hi).1; simpa using this
        rw [List.getElem?_replicate, if_pos hin] at hi
        cases hi
        have hjl := (List.getElem?_eq_some_iff.1 hj).1
        obtain ⟨u, hu, ru⟩ := hzr.at hj
        rw [zero_get hzs (by omega) (by rw [← hzl] at hjl; simpa [hzs] using hjl)]
        have : zv.cells.getD j undef = u := by simp [show zv.cells[j]? = some u by simpa using hu]
        rw [this]; exact ru
    refine new_does (ob := ⟨0, l.size, List.replicate n l.zero⟩) (v := fun m => .val false [.row m 0 n]) (ty := el) (cap := c) ok (fun h => by cases h) hrun rfl rfl rfl rfl hr1 (fun h => absurd rfl h) hr2 (fun m φ' hφ => ⟨_, rfl, .row _ _ _ _ ?_⟩) k hA
    exact RefRow.full (put1_self _ _) hφ (by simp)
  · exact h.elim
theorem lit_elim {l : Lay} {ps : List (Nat × T)} {k : Eff → Prop} : ∀ (n i : Nat) (κ : List (List A) → Out) (rs : List Nat), (litK l ps i n κ).K true g rs k → l.zero.length = l.size →
    ∃ es, (κ es).K true g rs k ∧ es.length = n ∧ ∀ (q : Nat) (e : List A), es[q]? = some e → e.length = l.size ∧ ((∃ ag, get ps (i + q) = some (.val ag e)) ∨ get ps (i + q) = none ∧ e = l.zero)
  | 0, i, κ, rs, h, hz => ⟨[], h, rfl, fun q e he => by simp at he⟩
  | n + 1, i, κ, rs, h, hz => by
    have step : ∀ {e : List A}, e.length = l.size → ((∃ ag, get ps i = some (.val ag e)) ∨ get ps i = none ∧ e = l.zero) → (litK l ps (i + 1) n fun r => κ (e :: r)).K true g rs k →
        ∃ es, (κ es).K true g rs k ∧ es.length = n + 1 ∧ ∀ (q : Nat) (e : List A), es[q]? = some e → e.length = l.size ∧ ((∃ ag, get ps (i + q) = some (.val ag e)) ∨ get ps (i + q) = none ∧ e = l.zero) := by
      intro e he1 he2 h
      obtain ⟨es, h1, h2, h3⟩ := lit_elim n (i + 1) _ rs h hz
      refine ⟨e :: es, h1, by simp [h2], fun q e' he' => ?_⟩
      cases q with
      | zero => cases he'; exact ⟨he1, he2⟩
      | succ q =>
        have := h3 q e' he'
        rw [show i + 1 + q = i + (q + 1) by omega] at this
        exact this
    simp only [litK] at h
    split at h
    · rename_i ag cs hg
      obtain ⟨h0, h⟩ := cond_K h
      exact step (Nat.eq_of_beq_eq_true h0) (.inl ⟨ag, hg⟩) h
    · exact h.elim
    · rename_i hg; exact step hz (.inr ⟨hg, rfl⟩) h
theorem fill_rows {sz n : Nat} : ∀ (vs : List (Nat × Value)) (cells : Array Value), cells.size = n * sz → (∀ p ∈ vs, p.1 < n ∧ p.2.cells.size = sz) → nodupB (vs.map (·.1)) = true → ∃ cells', Instr.fill (fun i => some (i * sz, sz)) cells vs = some cells' ∧ cells'.size = n * sz ∧
    ∀ i j, i < n → j < sz → cells'.getD (i * sz + j) undef = match get vs i with
      | some v => v.cells.getD j undef
      | none => cells.getD (i * sz + j) undef
  | [], cells, hs, _, _ => ⟨cells, rfl, hs, fun i j _ _ => rfl⟩
  | (q, v) :: vs, cells, hs, hp, hd => by
    obtain ⟨hq, hv⟩ := hp (q, v) List.mem_cons_self
    dsimp only at hq hv
    simp only [List.map_cons, nodupB] at hd
    have hfit : q * sz + v.cells.size ≤ cells.size := by
      rw [hv, hs, ← Nat.succ_mul]; exact Nat.mul_le_mul_right _ hq
    rw [fill_cons (off := q * sz) (by rw [hv]) hfit]
    have hvl : v.cells.toList.length = sz := by simpa using hv
    have hs2 : ((cells.toList.take (q * sz) ++ v.cells.toList ++ cells.toList.drop (q * sz + v.cells.toList.length)).toArray).size = n * sz := by
      simp only [List.size_toArray, List.length_append, List.length_take, List.length_drop, Array.length_toList]; omega
    cases hm : memN q (vs.map (·.1)) with
    | true => rw [hm] at hd; cases hd
    | false =>
      rw [hm] at hd
      obtain ⟨cells', h1, h2, h3⟩ := fill_rows vs _ hs2 (fun p h => hp p (List.mem_cons_of_mem _ h)) hd
      refine ⟨cells', h1, h2, fun i j hi hj => ?_⟩
      rw [h3 i j hi hj, seg_getD cells (q * sz) v.cells.toList (by rw [hvl]; rw [hv] at hfit; exact hfit)]
      have ev : ∀ k, v.cells.toList.getD k undef = v.cells.getD k undef := fun k => by simp [List.getD_eq_getElem?_getD]
      simp only [get]
      by_cases hqi : q = i
      · subst hqi
        rw [Nat.beq_refl, cond_true, get_none (by intro hc; rw [memN_iff.2 hc] at hm; cases hm)]
        dsimp only
        rw [if_pos (by omega), show q * sz + j - q * sz = j by omega, ev]
      · rw [beq_false hqi, cond_false]
        cases get vs i with
        | some v' => rfl
        | none =>
          dsimp only
          rw [if_neg]
          rw [hvl]
          rintro ⟨a1, a2⟩
          rcases Nat.lt_or_gt_of_ne hqi with hlt | hgt
          · have := Nat.mul_le_mul_right sz (Nat.succ_le_of_lt hlt)
            rw [Nat.succ_mul] at this; omega
          · have := idx_lt hgt hj; omega
theorem get_map {ps : List (Nat × T)} {vs : List (Nat × Value)} (hk : ps.map (·.1) = vs.map (·.1)) (hr : ∀ (i : Nat) (x : Nat × T) (y : Nat × Value), ps[i]? = some x → vs[i]? = some y → RepT h H φ x.2 y.2) (i : Nat) :
    (get ps i = none ∧ get vs i = none) ∨ ∃ x v, get ps i = some x ∧ get vs i = some v ∧ RepT h H φ x v := by
  induction ps generalizing vs with
  | nil =>
    have : vs = [] := by simpa using hk.symm
    subst this; exact .inl ⟨rfl, rfl⟩
  | cons p ps ih =>
    cases vs with
    | nil => simp at hk
    | cons v vs =>
      obtain ⟨a, x⟩ := p
      obtain ⟨b, v⟩ := v
      simp only [List.map_cons, List.cons.injEq] at hk
      obtain ⟨rfl, hk⟩ := hk
      simp only [get]
      cases hb : Nat.beq a i
      · exact ih hk fun i x y h1 h2 => hr (i + 1) x y h1 h2
      · exact .inr ⟨x, v, rfl, rfl, hr 0 _ _ rfl rfl⟩
theorem mem_get {ps : List (Nat × T)} {i : Nat} {x : T} (h : (i, x) ∈ ps) (hd : nodupB (ps.map (·.1)) = true) : get ps i = some x := by
  induction ps with
  | nil => cases h
  | cons p ps ih =>
    obtain ⟨a, y⟩ := p
    simp only [List.map_cons, nodupB] at hd
    cases hm : memN a (ps.map (·.1)) with
    | true => rw [hm] at hd; cases hd
    | false =>
      rw [hm] at hd
      simp only [get]
      rcases List.mem_cons.1 h with h | h
      · cases h; rw [Nat.beq_refl]; rfl
      · have : a ≠ i := fun e => by
          subst e
          have : a ∈ ps.map (·.1) := List.mem_map.2 ⟨_, h, rfl⟩
          rw [memN_iff.2 this] at hm; cases hm
        rw [beq_false this]; exact ih h hd
theorem rows_does (hT : TabOK P tb) (ok : HeapOK w.heap g φ) {d n : Nat} {t el : TypeId} {z : A} {bt : Nat} {l : Lay} (ht : tb t = some (.w (.slice el) z bt)) (hl : tb el = some l) {ps : List (Nat × T)} {vs : List (Nat × Value)} (hk : ps.map (·.1) = vs.map (·.1))
    (hr : ∀ (i : Nat) (x : Nat × T) (y : Nat × Value), ps[i]? = some x → vs[i]? = some y → RepT w.heap g φ x.2 y.2) (rs : List Nat) : DoesO P w g φ (do pure (.value (← Instr.buildSlice t n vs.toArray))) rs (buildSliceO d l n ps) := by
  obtain ⟨ht', _⟩ := hT.w t _ z bt ht
  obtain ⟨inf, zv, hi, hsz, hbt, hz, hzs, hzr⟩ := tab_zero hT hl w.heap g φ
  intro k h
  unfold buildSliceO at h
  obtain ⟨h0, hA⟩ := cond_K h
  clear h
  simp only [Bool.and_eq_true] at h0
  obtain ⟨⟨⟨h01, h02⟩, h03⟩, h04⟩ := h0
  have hpos : 0 < l.size := by simpa [Nat.blt, Nat.lt_iff_add_one_le] using h01
  have hzl := hzr.length
  obtain ⟨es, h, hlen, hes⟩ := lit_elim n 0 _ rs hA (by rw [← hzl]; simpa using hzs)
  have hsmall : n * l.size ≤ 65536 := Nat.le_of_ble_eq_true h04
  have hmemn : ∀ p ∈ ps, p.1 < n := fun p hp => by
    have := List.all_eq_true.1 h03 p hp
    simpa [Nat.blt, Nat.lt_iff_add_one_le] using this
  -- each part is as long as an element
  have hsv : ∀ p ∈ vs, p.1 < n ∧ p.2.cells.size = l.size := by
    intro p hp
    obtain ⟨i, hi, rfl⟩ := List.mem_iff_getElem.1 hp
    have hli : i < ps.length := by have := congrArg List.length hk; simp at this; omega
    have hv : vs[i]? = some vs[i] := List.getElem?_eq_getElem hi
    have hx : ps[i]? = some ps[i] := List.getElem?_eq_getElem hli
    have e1 : ps[i].1 = vs[i].1 := by
      have := congrArg (·[i]?) hk
      simpa [hx, hv] using this
    have hn := hmemn _ (List.getElem_mem hli)
    refine ⟨e1 ▸ hn, ?_⟩
    have r := hr i _ _ hx hv
    have hg := mem_get (i := ps[i].1) (x := ps[i].2) (List.getElem_mem hli) h02
    obtain ⟨e, he⟩ : ∃ e, es[ps[i].1]? = some e := ⟨es[ps[i].1]'(by omega), List.getElem?_eq_getElem _⟩
    obtain ⟨g1, g2⟩ := hes _ _ he
    rw [Nat.zero_add, hg] at g2
    rcases g2 with ⟨ag, g2⟩ | ⟨g2, _⟩
    · rw [Option.some.inj g2] at r
      have := (rep_cells r).length
      rw [g1] at this
      simpa using this
    · cases g2
  obtain ⟨cells', hf, hs', hget⟩ := fill_rows (sz := l.size) (n := n) vs (Builtin.zeroCells zv.cells n) (by rw [size_zeroCells, hzs]) hsv (by rw [← hk]; exact h02)
  have hrun : (do pure (.value (← Instr.buildSlice t n vs.toArray)) : Sem Next).run P w = .ok (.value (.slice (some ⟨w.heap.size, 0, none⟩) n n)) (w.alloc (.cells cells' el)) := by
    have e1 : ¬ (n * inf.size > 16777216) := by rw [hsz]; omega
    have hza := zero_arr (n := n) hzs
    rw [← hsz] at hza hf
    by_cases h0 : n * inf.size = 0
    · rw [h0] at hza
      simp only [if_true] at hza
      simp [Instr.buildSlice, run_underlying ht', sizeOf, typeInfo, zeroValue, hi, hz, h0, newRow]
      simp at hza
      rw [hza, hf]
      simp [Instr.buildSlice, newRow]
    · simp only [h0, if_false] at hza
      simp [Instr.buildSlice, run_underlying ht', sizeOf, typeInfo, zeroValue, hi, hz, h0, newRow, e1]
      rw [hza, hf]
      simp [newRow]
  have key : ∀ (i : Nat) (e : List A) (j : Nat) (x : A), es[i]? = some e → e[j]? = some x → RepE w.heap g φ x (cells'.getD (i * l.size + j) undef) := by
    intro i e j x hi hj
    have hin : i < n := by have := (List.getElem?_eq_some_iff.1 hi).1; omega
    obtain ⟨g1, g2⟩ := hes i e hi
    have hjl := (List.getElem?_eq_some_iff.1 hj).1
    rw [g1] at hjl
    rw [hget i j hin hjl]
    rw [Nat.zero_add] at g2
    have fin : ∀ {cs : Array Value}, RepC w.heap g φ e cs.toList → RepE w.heap g φ x (cs.getD j undef) := by
      intro cs hc
      obtain ⟨u, hu, ru⟩ := hc.at hj
      have : cs.getD j undef = u := by simp [show cs[j]? = some u by simpa using hu]
      rw [this]; exact ru
    rcases get_map hk hr i with ⟨a1, a2⟩ | ⟨x', v', a1, a2, a3⟩
    · rw [a2]
      rcases g2 with ⟨ag, g2⟩ | ⟨_, rfl⟩
      · rw [a1] at g2; cases g2
      · dsimp only
        rw [zero_get hzs hin hjl]
        exact fin hzr
    · rw [a2]
      rcases g2 with ⟨ag, g2⟩ | ⟨g2, _⟩
      · rw [a1] at g2
        cases g2
        exact fin (rep_cells a3)
      · rw [a1] at g2; cases g2
  refine new_does (ob := ⟨2, l.size, es⟩) (v := fun m => .val false [.row m 0 n]) (ty := el) (cap := n) (u := .slice (some ⟨w.heap.size, 0, none⟩) n n) ok (fun h => by cases h) hrun rfl rfl rfl rfl ⟨hpos, fun e he => ?_, by dsimp only; omega, by simp only [maxLen]; have := Nat.le_mul_of_pos_right n hpos; omega, by rw [hs']; simp, fun q hq => ?_⟩ (fun _ => hlen) key (fun m φ' hφ => ⟨_, rfl, .row _ _ _ _ ?_⟩) k h
  · obtain ⟨i, hi, rfl⟩ := List.mem_iff_getElem.1 he
    exact (hes i _ (List.getElem?_eq_getElem hi)).1
  · rw [hs'] at hq
    have hd : q / l.size < n := Nat.div_lt_of_lt_mul (by rw [Nat.mul_comm]; exact hq)
    have hm : q % l.size < l.size := Nat.mod_lt _ hpos
    have he : (es[q / l.size]'(by omega)).length = l.size := (hes _ _ (List.getElem?_eq_getElem _)).1
    have := (key (q / l.size) (es[q / l.size]'(by omega)) (q % l.size) ((es[q / l.size]'(by omega))[q % l.size]'(by omega)) (List.getElem?_eq_getElem _) (List.getElem?_eq_getElem _)).one
    have e1 : q / l.size * l.size + q % l.size = q := by have := Nat.div_add_mod q l.size; rw [Nat.mul_comm] at this; exact this
    rw [e1] at this; exact this
  · exact RefRow.full (put1_self _ _) hφ hlen.symm
end
end Go.Proofs.YtchfpgpboifbeaaGreat.Ac
set_option linter.unusedVariables false
set_option linter.unusedSimpArgs false
namespace Go.Proofs.YtchfpgpboifbeaaGreat.Ac
open Go.RowKit
section
variable {P : Program} {tb : Tab} {g : Hp} {φ : Phi} {w : World} {h : Array Obj} {H : Hp}
theorem put1_same {n : Nat} {ob : Ob} (hn : g n = some (some ob)) : put1 g n (some ob) = g := by
  funext q
  by_cases hq : q = n
  · subst hq; rw [put1_self, hn]
  · rw [put1_ne _ hq]
theorem retag_ok (ok : HeapOK h g φ) {n fl : Nat} {ob : Ob} (hf4 : ob.fl ≠ 4) (hf4' : fl ≠ 4) {ex : List (List A)} (hn : g n = some (some ob)) (hex : ∀ hd, φ (n, []) = some hd → ob.es.length + ex.length ≤ hd.cap ∧ (fl ≠ 0 → ob.es.length + ex.length = hd.cap)) (hw : ∀ e ∈ ex, e.length = ob.wd ∧ ∀ x ∈ e, x = .un none)
    (h0 : φ (n, []) = none → ex = []) : HeapOK h (put1 g n (some ⟨fl, ob.wd, ob.es ++ ex⟩)) φ ∧ Turn h g φ h (put1 g n (some ⟨fl, ob.wd, ob.es ++ ex⟩)) φ := by
  rcases ((ok.ob n _ hn).row hf4) with ⟨hes, hp⟩ | ⟨hd, c, ty, g1, g2, g3, g4, g5⟩
  · have := h0 hp
    subst this
    rw [hes, List.append_nil]
    have t : Turn h g φ h (put1 g n (some ⟨fl, ob.wd, []⟩)) φ := by
      refine ⟨rfl, fun b hb hO => ⟨hO, rfl⟩, fun m hm => ?_, fun m x hm => .inr ?_⟩
      · rw [put1_ne _ fun e => by rw [e, hn] at hm; cases hm]; exact hm
      · by_cases e : m = n
        · subst e
          rw [hn] at hm
          cases hm
          exact ⟨_, put1_self _ _, rfl, rfl, by rw [hes]; exact Nat.le_refl _⟩
        · exact ⟨x, (put1_ne _ e).trans hm, rfl, rfl, Nat.le_refl _⟩
    refine ⟨all_ob (fun m x hm => ?_) ok.lt ok.apart ok.old ok.inj, t⟩
    by_cases e : m = n
    · subst e; rw [put1_self] at hm; cases hm
      exact obRow (ok.ob m _ hn).1 hf4' (.inl ⟨rfl, hp⟩)
    · rw [put1_ne _ e] at hm
      exact (ok.ob m x hm).keep (fun _ _ r => r.turn t) (fun q => rfl) fun _ _ _ => rfl
  · obtain ⟨a1, a2⟩ := hex hd g1
    refine upd_ok (ob' := ⟨fl, ob.wd, ob.es ++ ex⟩) ok hf4' hn g1 (fun _ _ => rfl) g2 rfl (by simp) ⟨g3.wd0, fun e he => ?_, by simpa using a1, g3.cap, g3.size, g3.one⟩ (fun h => by simpa using a2 h) fun i e j x hi hj => ?_
    · rcases List.mem_append.1 he with he | he
      · exact g3.len e he
      · exact (hw e he).1
    · dsimp only at hi ⊢
      by_cases hlt : i < ob.es.length
      · rw [List.getElem?_append_left hlt] at hi
        exact g5 i e j x hi hj
      · rw [List.getElem?_append_right (by omega)] at hi
        obtain ⟨b1, b2⟩ := hw e (List.mem_of_getElem? hi)
        have := b2 x (List.mem_of_getElem? hj)
        subst this
        refine .e _ _ _ (.un none _ (g3.one _ ?_) (fun n h => by cases h))
        have h1 := (List.getElem?_eq_some_iff.1 hi).1
        have h2 := (List.getElem?_eq_some_iff.1 hj).1
        rw [b1] at h2
        have := idx_lt (i := i) (i' := hd.cap) (j := j) (wd := ob.wd) (by omega) h2
        rw [g3.size]; omega
theorem cap_does (hT : TabOK P tb) (ok : HeapOK w.heap g φ) {t : TypeId} {l : Lay} (hl : tb t = some l) {x : T} {u : Value} (hx : RepT w.heap g φ x u) (ty : TypeId) (cn : Array Bool) (rs : List Nat) :
    DoesO P w g φ (builtin .cap #[t] ty cn #[u]) rs (capO l x) := by
  have run : ∀ {el : TypeId} {z : A} {bt : Nat}, l = .w (.slice el) z bt → ∀ {a : Option Addr} {n cap : Nat}, u = .slice a n cap → (builtin .cap #[t] ty cn #[u]).run P w = .ok (.value (.int .i64 cap)) w := by
    rintro el z bt rfl a n cap rfl
    obtain ⟨hu, _⟩ := hT.w t _ z bt hl
    simp [builtin, Builtin.cap_, run_underlying hu, goInt]
  intro k h
  unfold capO at h
  split at h
  · rename_i el z bt wd es
    have r := rep_one hx
    cases r with
    | f _ _ r =>
    cases r with
    | nil => exact ⟨_, h _ (.inr rfl), Does.value ok (run rfl rfl) (tI_rep _ _)⟩
    | sl _ _ b off cap c ty fr hw he hb hO hlen hs hc hr => exact ⟨_, h _ (.inl hc), Does.value ok (run rfl rfl) (tI_rep _ _)⟩
  · have r := rep_one hx
    cases r with
    | nl a => exact ⟨_, h, Does.value ok (run rfl rfl) (tI_rep _ _)⟩
  · rename_i el z bt n lo hi
    obtain ⟨fl, wd, es, hn, hf4, hA⟩ := alive_elim h
    clear h
    have r := rep_one hx
    have r2 : RefRow g φ n lo hi u := by cases r; assumption
    have r3 := r2.2
    rw [hn] at r3
    obtain ⟨h1, h2, r3⟩ := r3
    dsimp only at h2 r3
    split at hA
    · rcases ((ok.ob n _ hn).row hf4) with ⟨hes, hp⟩ | ⟨hd, c, ty', g1, g2, g3, g4, g5⟩
      · rw [hp] at r3
        obtain ⟨a, rfl⟩ := r3
        dsimp only at hes
        subst hes
        refine ⟨_, hA, Does.value ok (u := .int .i64 (0 : Nat)) (run rfl rfl) ?_⟩
        rw [List.length_nil, Nat.zero_sub]; exact tI_rep _ _
      · rw [g1] at r3
        obtain ⟨a, rfl, _⟩ := r3
        have := g4 (show (1 : Nat) ≠ 0 by decide)
        dsimp only at this
        rw [this] at hA
        exact ⟨_, hA, Does.value ok (run rfl rfl) (tI_rep _ _)⟩
    · rcases ((ok.ob n _ hn).row hf4) with ⟨hes, hp⟩ | ⟨hd, c, ty', g1, g2, g3, g4, g5⟩
      · rw [hp] at r3
        obtain ⟨a, rfl⟩ := r3
        dsimp only at hes
        subst hes
        have hK := hA 0 (by simp [maxLen])
        obtain ⟨ok', t'⟩ := retag_ok (fl := 1) (ex := []) ok hf4 (by decide) hn (fun hd h => by rw [hp] at h; cases h) (fun e he => by cases he) fun _ => rfl
        rw [← putH_one] at ok' t'
        refine ⟨_, hK, Does.made (run rfl rfl) ok' t' ?_ rfl rfl rfl (Nat.le_refl _)⟩
        rw [List.length_nil, Nat.zero_add, Nat.zero_sub]; exact tI_rep _ _
      · rw [g1] at r3
        obtain ⟨a, rfl, _⟩ := r3
        have hle := g3.le
        have hcm := g3.cap
        dsimp only at hle
        have hK := hA (hd.cap - es.length) (by omega)
        obtain ⟨ok', t'⟩ := retag_ok (fl := 1) (ex := junk wd (hd.cap - es.length)) ok hf4 (by decide) hn (fun hd' h => by rw [g1] at h; cases h; simp [junk]; omega) (fun e he => by
          have := List.eq_of_mem_replicate he
          subst this
          exact ⟨by simp, fun x hx => List.eq_of_mem_replicate hx⟩) fun h => by rw [g1] at h; cases h
        rw [← putH_one] at ok' t'
        refine ⟨_, hK, Does.made (run rfl rfl) ok' t' ?_ rfl rfl rfl (Nat.le_refl _)⟩
        rw [show es.length + (hd.cap - es.length) - lo = hd.cap - lo by omega]; exact tI_rep _ _
    · exact hA.elim
  · exact h.elim
theorem write_slice (ok : HeapOK w.heap g φ) {n lo hi fl wd m : Nat} {es new : List (List A)} {news : List Value} (hn : g n = some (some ⟨fl, wd, es⟩)) (hf4 : fl ≠ 4) {u : Value} (r : RefRow g φ n lo hi u) (hs : Src w g φ wd new m news) (hm : lo + m ≤ hi) (hpos : 0 < m) :
    ∃ b off c ty cap, u = .slice (some ⟨b, off, none⟩) (hi - lo) cap ∧ w.heap[b]? = some (.cells c ty (0, 0)) ∧ off + news.length ≤ c.size ∧
      HeapOK (w.setRow b (c.toList.take off ++ news ++ c.toList.drop (off + news.length)).toArray).heap (put1 g n (some ⟨fl, wd, es.take lo ++ new ++ es.drop (lo + m)⟩)) φ ∧
      Turn w.heap g φ (w.setRow b (c.toList.take off ++ news ++ c.toList.drop (off + news.length)).toArray).heap (put1 g n (some ⟨fl, wd, es.take lo ++ new ++ es.drop (lo + m)⟩)) φ := by
  have r3 := r.2
  rw [hn] at r3
  obtain ⟨h1, h2, r3⟩ := r3
  dsimp only at h2 r3
  rcases ((ok.ob n _ hn).row hf4) with ⟨hes, hp⟩ | ⟨hd, c, ty', g1, g2, g3, g4, g5⟩
  · dsimp only at hes; subst hes; simp at h2; omega
  · rw [g1] at r3
    obtain ⟨a, rfl, ha⟩ := r3
    rw [ha (.inr (by have := g3.le; dsimp only at this; omega))]
    dsimp only at g3 g4 g5
    have hfit : hd.off + lo * wd + news.length ≤ c.size := by
      rw [g3.size, hs.sz, Nat.add_assoc, ← Nat.add_mul]
      exact Nat.add_le_add_left (Nat.mul_le_mul_right _ (by have := g3.le; omega)) _
    have htl : (es.take lo).length = lo := by simp; omega
    have hl3 : (es.take lo ++ new ++ es.drop (lo + m)).length = es.length := by simp only [List.length_append, htl, hs.len, List.length_drop]; omega
    have hsg := seg_get es lo new (by rw [hs.len]; omega)
    rw [hs.len] at hsg
    refine ⟨_, _, c, ty', _, rfl, g2, hfit, write_ok ok hf4 hn g1 g2 g3 g4 g5 (es' := es.take lo ++ new ++ es.drop (lo + m)) hfit hs.one (fun e he => by
      simp only [List.mem_append] at he
      rcases he with (he | he) | he
      · exact g3.len e (List.mem_of_mem_take he)
      · exact hs.wd e he
      · exact g3.len e (List.mem_of_mem_drop he)) hl3 fun i e j x hi hj => ?_⟩
    rw [hsg] at hi
    split at hi
    · rename_i hii
      have h1 := (List.getElem?_eq_some_iff.1 hi).1
      have h2 := (List.getElem?_eq_some_iff.1 hj).1
      rw [hs.wd e (List.mem_of_getElem? hi)] at h2
      rw [hs.len] at h1
      have h3 : (i - lo) * wd + j < m * wd := idx_lt h1 h2
      have e4 : i * wd = lo * wd + (i - lo) * wd := by rw [← Nat.add_mul]; congr 1; omega
      refine .inl ⟨by omega, by rw [hs.sz]; omega, ?_⟩
      rw [show hd.off + i * wd + j - (hd.off + lo * wd) = (i - lo) * wd + j by omega]
      exact hs.rep _ e j x hi hj
    · rename_i hii
      have h2 := (List.getElem?_eq_some_iff.1 hj).1
      rw [g3.len e (List.mem_of_getElem? hi)] at h2
      refine .inr ⟨?_, e, hi, hj⟩
      rw [hs.sz]
      rintro ⟨a1, a2⟩
      rcases Nat.lt_or_ge i lo with hlt2 | hge2
      · have := idx_lt hlt2 h2; omega
      · have := Nat.mul_le_mul_right wd (show lo + m ≤ i by omega)
        rw [Nat.add_mul] at this; omega
theorem Src.take {size m k : Nat} {new : List (List A)} {news : List Value} (s : Src w g φ size new m news) (hk : k ≤ m) : Src w g φ size (new.take k) k (news.take (k * size)) := by
  refine ⟨by simp [s.len, hk], fun e he => s.wd e (List.mem_of_mem_take he), by rw [List.length_take, s.sz]; exact Nat.min_eq_left (Nat.mul_le_mul_right _ hk), fun x hx => s.one x (List.mem_of_mem_take hx), fun i e j x hi hj => ?_⟩
  rw [List.getElem?_take] at hi
  split at hi
  · rename_i hik
    have h2 := (List.getElem?_eq_some_iff.1 hj).1
    rw [s.wd e (List.mem_of_getElem? hi)] at h2
    have h3 : i * size + j < k * size := idx_lt hik h2
    have := s.rep i e j x hi hj
    rwa [List.getD_eq_getElem?_getD, List.getElem?_take, if_pos h3, ← List.getD_eq_getElem?_getD]
  · cases hi
theorem copy_does (hT : TabOK P tb) (ok : HeapOK w.heap g φ) {t el : TypeId} {z : A} {bt : Nat} {l : Lay} (ht : tb t = some (.w (.slice el) z bt)) (hl : tb el = some l) (hpos : 0 < l.size) {x y : T} {vx vy : Value} (hx : RepT w.heap g φ x vx) (hy : RepT w.heap g φ y vy) (ts : Array TypeId) (hts : ts[0]? = some t) (ty : TypeId) (cn : Array Bool) (rs : List Nat) :
    DoesO P w g φ (builtin .copy ts ty cn #[vx, vy]) rs (copyO l x y) := by
  obtain ⟨ht', _⟩ := hT.w t _ z bt ht
  obtain ⟨inf, hi, hsz, _⟩ := tab_size hT hl
  intro k h
  unfold copyO at h
  obtain ⟨new, rs', m, news, hA, ⟨a, cap, rfl, hf⟩, hs⟩ := src_elim (P := P) ok hpos hy h
  clear h
  rw [← hsz] at hf
  split at hA
  · rename_i n lo hi'
    obtain ⟨fl, wd, es, hn, hf4, hB⟩ := alive_elim hA
    clear hA
    obtain ⟨hb, hB⟩ := cond_K hB
    have e1 := Nat.eq_of_beq_eq_true hb
    subst e1
    obtain ⟨es', hes', h⟩ := hB
    rw [hs.len] at hes' h
    have r := rep_one hx
    have r2 : RefRow g φ n lo hi' vx := by cases r; assumption
    have r3 := r2.2
    rw [hn] at r3
    obtain ⟨h1, h2, r3⟩ := r3
    dsimp only at h2 r3
    have hk : min m (hi' - lo) ≤ m := Nat.min_le_left _ _
    have hfc := (hf w rfl).2 _ hk
    have htake : new.take (hi' - lo) = new.take (min m (hi' - lo)) := by
      rcases Nat.le_total m (hi' - lo) with h | h
      · rw [Nat.min_eq_left h, List.take_of_length_le (by rw [hs.len]; exact h), List.take_of_length_le (by rw [hs.len]; exact Nat.le_refl _)]
      · rw [Nat.min_eq_right h]
    rw [htake] at hes'
    rcases Nat.eq_zero_or_pos (min m (hi' - lo)) with h0 | h0
    · rw [h0] at hes' hfc h
      simp only [List.take_zero, List.append_nil, Nat.add_zero, List.take_append_drop, Nat.zero_mul] at hes' hfc
      subst hes'
      have hvx : ∃ a' cap', vx = .slice a' (hi' - lo) cap' := by
        cases hp : φ (n, []) with
        | none =>
          rw [hp] at r3
          obtain ⟨a', rfl⟩ := r3
          rcases ((ok.ob n _ hn).row hf4) with ⟨h3, _⟩ | ⟨hd', c, ty, g1, _⟩
          · simp only at h3; subst h3; simp at h2
            exact ⟨a', 0, by rw [h2, Nat.zero_sub]⟩
          · rw [hp] at g1; cases g1
        | some hd => rw [hp] at r3; obtain ⟨a', rfl, _⟩ := r3; exact ⟨_, _, rfl⟩
      obtain ⟨a', cap', rfl⟩ := hvx
      have h0' : Nat.min m (hi' - lo) = 0 := h0
      refine ⟨_, h, Does.made (u := .int .i64 (0 : Nat)) (φ' := φ) (w' := w) ?_ ?_ ?_ (tI_rep _ _) rfl rfl rfl (Nat.le_refl _)⟩
      · cases a' <;> simp [builtin, Builtin.copy_, hts, run_underlying ht', sizeOf, typeInfo, hi, Builtin.lenOf, h0', hfc, storeCells, goInt]
      · rw [putH_one, put1_same hn]; exact ok
      · rw [putH_one, put1_same hn]; exact Turn.refl _ _ _
    · obtain ⟨b, off, c, ty', cap', rfl, hbk, hfit, ok', t'⟩ := write_slice ok hn hf4 r2 (hs.take hk) (by have := Nat.min_le_right m (hi' - lo); omega) h0
      rw [hes', ← putH_one] at ok' t'
      have hone := (hs.take hk).one
      have hst := run_storeCells_at P b off ty' (news.take (min m (hi' - lo) * l.size)) 0 c w hbk (by simpa using hfit) hone
      simp only [Nat.add_zero] at hst
      rw [← hsz] at hst
      clear hes' htake
      generalize hkk : min m (hi' - lo) = kk at h hfc hst h0 hk ok' t' hfit hone ⊢
      have hkk' : Nat.min m (hi' - lo) = kk := hkk
      refine ⟨_, h, Does.made (u := .int .i64 (kk : Int)) ?_ ok' t' (tI_rep _ _) rfl rfl rfl (by simp [World.setRow])⟩
      rw [← hsz]
      simp [builtin, Builtin.copy_, hts, run_underlying ht', sizeOf, typeInfo, hi, Builtin.lenOf, hkk', hfc, hst, goInt]
  · have r := rep_one hx
    cases r with
    | nl a' =>
      have hfc := (hf w rfl).2 0 (Nat.zero_le _)
      simp only [Nat.zero_mul, List.take_zero] at hfc
      have h0' : Nat.min m 0 = 0 := Nat.min_zero m
      refine ⟨_, hA, Does.value ok (u := .int .i64 0) ?_ (tI_rep _ _)⟩
      cases a' <;> simp [builtin, Builtin.copy_, hts, run_underlying ht', sizeOf, typeInfo, hi, Builtin.lenOf, h0', hfc, storeCells, goInt]
  · exact hA.elim
end
end Go.Proofs.YtchfpgpboifbeaaGreat.Ac
set_option linter.unusedVariables false
set_option linter.unusedSimpArgs false
namespace Go.Proofs.YtchfpgpboifbeaaGreat.Ac
open Go.RowKit
section
variable {P : Program} {tb : Tab} {g : Hp} {φ : Phi} {w : World} {h : Array Obj} {H : Hp}
theorem src_zero {l : Lay} {zv : Value} {n : Nat} (hzs : zv.cells.size = l.size) (hzr : RepC w.heap g φ l.zero zv.cells.toList) : Src w g φ l.size (List.replicate n l.zero) n (Builtin.zeroCells zv.cells n).toList := by
  have hzl := hzr.length
  refine ⟨by simp, fun e he => ?_, by simp [size_zeroCells, hzs], fun x hx => ?_, fun i e j x hi hj => ?_⟩
  · rw [List.eq_of_mem_replicate he, ← hzl]; simpa using hzs
  · obtain ⟨q, hq, rfl⟩ := List.mem_iff_getElem.1 hx
    have hq' : q < (Builtin.zeroCells zv.cells n).size := by simpa using hq
    have := zero_one (k := q) hzr.one hq'
    simpa [hq'] using this
  · have hin : i < n := by have := (List.getElem?_eq_some_iff.1 hi).1; simpa using this
    rw [List.getElem?_replicate, if_pos hin] at hi
    cases hi
    have hjl := (List.getElem?_eq_some_iff.1 hj).1
    obtain ⟨u, hu, ru⟩ := hzr.at hj
    have e0 : (Builtin.zeroCells zv.cells n).toList.getD (i * l.size + j) undef = (Builtin.zeroCells zv.cells n).getD (i * l.size + j) undef := by simp [List.getD_eq_getElem?_getD]
    rw [e0, zero_get hzs hin (by rw [← hzl] at hjl; simpa [hzs] using hjl)]
    have : zv.cells.getD j undef = u := by simp [show zv.cells[j]? = some u by simpa using hu]
    rw [this]; exact ru
theorem row_len (ok : HeapOK h g φ) {n lo hi fl wd : Nat} {es : List (List A)} (hn : g n = some (some ⟨fl, wd, es⟩)) (hf4 : fl ≠ 4) {u : Value} (r : RefRow g φ n lo hi u) : lo ≤ hi ∧ hi ≤ es.length ∧ ∃ a cap, u = .slice a (hi - lo) cap := by
  have r3 := r.2
  rw [hn] at r3
  obtain ⟨h1, h2, r3⟩ := r3
  refine ⟨h1, h2, ?_⟩
  cases hp : φ (n, []) with
  | none =>
    rw [hp] at r3
    obtain ⟨a', rfl⟩ := r3
    rcases ((ok.ob n _ hn).row hf4) with ⟨h3, _⟩ | ⟨hd', c, ty, g1, _⟩
    · simp only at h3; subst h3; simp at h2
      exact ⟨a', 0, by rw [h2, Nat.zero_sub]⟩
    · rw [hp] at g1; cases g1
  | some hd => rw [hp] at r3; obtain ⟨a', rfl, _⟩ := r3; exact ⟨_, _, rfl⟩
theorem clear_does (hT : TabOK P tb) (ok : HeapOK w.heap g φ) {t el : TypeId} {z : A} {bt : Nat} {l : Lay} (ht : tb t = some (.w (.slice el) z bt)) (hl : tb el = some l) {x : T} {vx : Value} (hx : RepT w.heap g φ x vx) (ty : TypeId) (cn : Array Bool) (rs : List Nat) :
    DoesO P w g φ (builtin .clear #[t] ty cn #[vx]) rs (clearO l x) := by
  obtain ⟨ht', _⟩ := hT.w t _ z bt ht
  obtain ⟨inf, zv, hi, hsz, hbt, hz, hzs, hzr⟩ := tab_zero hT hl w.heap g φ
  intro k h
  unfold clearO at h
  split at h
  · rename_i n lo hi'
    obtain ⟨fl, wd, es, hn, hf4, hB⟩ := alive_elim h
    clear h
    obtain ⟨hb, hB⟩ := cond_K hB
    have e1 := Nat.eq_of_beq_eq_true hb
    subst e1
    obtain ⟨es', hes', h⟩ := hB
    have r := rep_one hx
    have r2 : RefRow g φ n lo hi' vx := by cases r; assumption
    obtain ⟨h1, h2, a, cap, rfl⟩ := row_len ok hn hf4 r2
    rcases Nat.eq_zero_or_pos (hi' - lo) with h0 | h0
    · have : hi' = lo := by omega
      subst this
      simp only [Nat.sub_self, List.replicate_zero, List.append_nil, List.take_append_drop] at hes'
      subst hes'
      rw [Nat.sub_self]
      refine ⟨_, h, Does.made (u := .tuple #[]) (φ' := φ) (w' := w) ?_ ?_ ?_ trivial rfl rfl rfl (Nat.le_refl _)⟩
      · cases a <;> simp [builtin, Builtin.clear_, run_underlying ht']
      · rw [putH_one, put1_same hn]; exact ok
      · rw [putH_one, put1_same hn]; exact Turn.refl _ _ _
    · obtain ⟨b, off, c, ty', cap', hu, hbk, hfit, ok', t'⟩ := write_slice ok hn hf4 r2 (src_zero (n := hi' - lo) hzs hzr) (by omega) h0
      cases hu
      rw [show lo + (hi' - lo) = hi' by omega, hes', ← putH_one] at ok' t'
      have hone := (src_zero (w := w) (n := hi' - lo) hzs hzr).one
      have hst := run_storeCells_at P b off ty' (Builtin.zeroCells zv.cells (hi' - lo)).toList 0 c w hbk (by simpa using hfit) hone
      simp only [Nat.add_zero] at hst
      generalize hkk : hi' - lo = kk at *
      obtain ⟨q, rfl⟩ : ∃ q, kk = q + 1 := ⟨kk - 1, by omega⟩
      refine ⟨_, h, Does.made (u := .tuple #[]) ?_ ok' t' trivial rfl rfl rfl (by simp [World.setRow])⟩
      simp [builtin, Builtin.clear_, run_underlying ht', zeroValue, typeInfo, hi, hz, hst]
  · have r := rep_one hx
    cases r with
    | nl a => exact ⟨_, h, Does.value ok (u := .tuple #[]) (by cases a <;> simp [builtin, Builtin.clear_, run_underlying ht']) trivial⟩
  · exact h.elim
theorem elc_elim {le : Option Lay} {wd : Nat} {o : Out} {rs : List Nat} {k : Eff → Prop} (h : (elc le wd o).K true g rs k) : ∃ l, le = some l ∧ l.size = wd ∧ o.K true g rs k := by
  unfold elc at h
  split at h
  · obtain ⟨h0, h⟩ := cond_K h
    exact ⟨_, rfl, Nat.eq_of_beq_eq_true h0, h⟩
  · exact h.elim
theorem elk_elim {le : Option Lay} {o : Out} {rs : List Nat} {k : Eff → Prop} (h : (elk le o).K true g rs k) : ∃ l, le = some l ∧ o.K true g rs k := by
  unfold elk at h
  split at h
  · exact ⟨_, rfl, h⟩
  · exact h.elim
theorem slice_does (hT : TabOK P tb) (ok : HeapOK w.heap g φ) {d : Nat} {t : TypeId} {l : Lay} (hl : tb t = some l) {le : Option Lay} {x : T} {u : Value} (hx : RepT w.heap g φ x u) {lo hi mx : Option T} {ul uh um : Option Value} (hlo : ∀ x, lo = some x → ∃ u, ul = some u ∧ RepT w.heap g φ x u) (hlo0 : lo = none → ul = none)
    (hhi : ∀ x, hi = some x → ∃ u, uh = some u ∧ RepT w.heap g φ x u) (hhi0 : hi = none → uh = none) (hmx : ∀ x, mx = some x → ∃ u, um = some u ∧ RepT w.heap g φ x u) (hmx0 : mx = none → um = none) (rs : List Nat) (hel : ∀ el z bt, l = .w (.slice el) z bt → le = tb el) :
    DoesO P w g φ (do pure (.value (← Instr.sliceAt t u ul uh um))) rs (sliceO d l le x lo hi mx) := by
  -- a slice of a slice
  have sl : ∀ {el : TypeId} {z : A} {bt : Nat}, l = .w (.slice el) z bt → ∀ {ll : Lay}, le = some ll → ∀ {ad : Option Addr} {len cap a b : Nat}, u = .slice ad len cap → um = none → bndP lo 0 a → bndP hi len b → a ≤ b → b ≤ cap →
      (do pure (.value (← Instr.sliceAt t u ul uh um)) : Sem Next).run P w = .ok (.value (.slice (if cap = a then ad else ad.map (·.add (a * ll.size))) (b - a) (cap - a))) w := by
    rintro el z bt rfl ll hle ad len cap a b rfl rfl ha hb hab hbc
    obtain ⟨hu, _⟩ := hT.w t _ z bt hl
    have hle' := (hel el z bt rfl).symm.trans hle
    obtain ⟨inf, hi', hs, _⟩ := tab_size hT hle'
    have := bounds_run (P := P) (w := w) (isS := true) (cap := cap) hlo hlo0 hhi hhi0 ha hb hab hbc
    simp [Instr.sliceAt, Instr.slice, run_underlying hu, this, sizeOf, typeInfo, hi', hs]
  have sl0 : ∀ {el : TypeId} {z : A} {bt : Nat}, l = .w (.slice el) z bt → ∀ {ll : Lay}, le = some ll → ∀ {ad : Option Addr} {len cap : Nat} {i1 i2 : IntKind}, u = .slice ad len cap → lo = none → hi = some (.val false [.f (.v (.int i1 0))]) → mx = some (.val false [.f (.v (.int i2 0))]) →
      ∃ a', (do pure (.value (← Instr.sliceAt t u ul uh um)) : Sem Next).run P w = .ok (.value (.slice a' 0 0)) w := by
    rintro el z bt rfl ll hle ad len cap i1 i2 rfl rfl rfl rfl
    obtain ⟨hu, _⟩ := hT.w t _ z bt hl
    have hle' := (hel el z bt rfl).symm.trans hle
    obtain ⟨inf, hi', hs, _⟩ := tab_size hT hle'
    obtain ⟨u1, rfl, r1⟩ := hhi _ rfl
    obtain ⟨u2, rfl, r2⟩ := hmx _ rfl
    cases v_rep r1
    cases v_rep r2
    rw [hlo0 rfl]
    refine ⟨ad, ?_⟩
    simp [Instr.sliceAt, Instr.slice, run_underlying hu, Instr.sliceBounds, Instr.sliceBound, asIntOf, sizeOf, typeInfo, hi']
  intro k h
  unfold sliceO at h
  split at h
  · have hm := hmx0 rfl
    split at h
    · rename_i z bt s
      obtain ⟨hu, _⟩ := hT.w t _ z bt hl
      obtain ⟨⟨a, b⟩, ⟨ha, hb, hab, hbs⟩, h⟩ := h
      cases v_rep hx
      have := bounds_run (P := P) (w := w) (isS := false) (cap := s.size) hlo hlo0 hhi hhi0 ha hb hab hbs
      dsimp only at this h
      subst hm
      exact ⟨_, h, Does.value ok (u := .string (s.extract a b)) (by simp [Instr.sliceAt, Instr.slice, run_underlying hu, this]) (tS_rep _)⟩
    · rename_i el z bt wd es
      obtain ⟨ll, hle, hwd, hA⟩ := elc_elim h
      clear h
      obtain ⟨⟨a, b, es'⟩, ⟨ha, hb, hab, hbs, hes'⟩, h⟩ := hA
      dsimp only at ha hb hab hbs hes' h
      have r := rep_one hx
      cases r with
      | f _ _ r =>
      cases r with
      | nil _ ad cap =>
        have hb0 : b = 0 := by simpa using hbs
        have ha0 : a = 0 := by omega
        subst hb0 ha0
        refine ⟨_, h, Does.value ok (sl rfl hle rfl hm ha hb (Nat.le_refl _) (Nat.zero_le _)) ⟨_, rfl, .f _ _ ?_⟩⟩
        have : es' = [] := by simpa using hes'.symm
        subst this
        exact .nil _ _ _
      | sl _ _ bb off cap c ty fr hw he hbk hO hlen hs hc hr =>
        refine ⟨_, h, Does.value ok (sl rfl hle rfl hm ha hb hab (Nat.le_trans hbs hc)) ⟨_, rfl, .f _ _ ?_⟩⟩
        have hl2 : es'.length = b - a := by rw [← hes']; simp; omega
        by_cases hlt : a = b
        · have : es' = [] := List.eq_nil_of_length_eq_zero (by omega)
          subst this
          rw [hlt, Nat.sub_self]
          exact .nil _ _ _
        · rw [if_neg (by omega), ← hl2]
          have ead : (some (⟨bb, off, none⟩ : Addr)).map (·.add (a * ll.size)) = some ⟨bb, off + a * wd, none⟩ := by rw [hwd, Option.map_some, Addr.add_lit]
          rw [ead]
          refine .sl wd es' bb (off + a * wd) (cap - a) c ty fr hw (fun e => by rw [e] at hl2; simp at hl2; omega) hbk hO (fun e he => ?_) ?_ (by omega) fun i e j x hi' hj => ?_
          · rw [← hes'] at he; exact hlen e (List.mem_of_mem_take (List.mem_of_mem_drop he))
          · rw [hl2, Nat.add_assoc, ← Nat.add_mul]
            have := Nat.mul_le_mul_right wd (show a + (b - a) ≤ es.length by omega)
            omega
          · rw [← hes', List.getElem?_drop, List.getElem?_take] at hi'
            split at hi'
            · have := hr _ e j x hi' hj
              rw [Nat.add_mul] at this
              rw [show off + a * wd + i * wd + j = off + (a * wd + i * wd) + j by omega]
              exact this
            · cases hi'
    · rename_i el z bt
      obtain ⟨ll, hle, ⟨ha, hb⟩, h⟩ := elk_elim h
      have r := rep_one hx
      cases r with
      | nl ad =>
        refine ⟨_, h, Does.value ok (sl rfl hle rfl hm ha hb (Nat.le_refl _) (Nat.le_refl _)) ⟨_, rfl, ?_⟩⟩
        exact .nl _
    · rename_i el z bt n p q
      obtain ⟨fl, wd, es, hn, hf4, hA⟩ := alive_elim h
      clear h
      obtain ⟨ll, hle, hwd, hB⟩ := elc_elim hA
      clear hA
      have r := rep_one hx
      have r2 : RefRow g φ n p q u := by cases r; assumption
      obtain ⟨h1, h2, ad0, cap0, hu0⟩ := row_len ok hn hf4 r2
      have r3 := r2.2
      rw [hn] at r3
      obtain ⟨_, _, r3⟩ := r3
      dsimp only at h2 r3
      have key : ∀ a b : Nat, bndP lo 0 a → bndP hi (q - p) b → a ≤ b → (p + b ≤ q ∨ (p = 0 ∨ p < q) ∧ p + b ≤ es.length) → Does P w g φ (do pure (.value (← Instr.sliceAt t u ul uh um))) ⟨.val false [.row n (p + a) (p + b)], n :: rs, []⟩ := by
        intro a b ha hb hab hbs
        have hbe : p + b ≤ es.length := by omega
        rcases ((ok.ob n _ hn).row hf4) with ⟨hes, hp⟩ | ⟨hd, c, ty', g1, g2, g3, g4, g5⟩
        · rw [hp] at r3
          obtain ⟨a', rfl⟩ := r3
          dsimp only at hes
          subst hes
          have e1 : p = 0 := by simp at hbe; omega
          have e2 : b = 0 := by simp at hbe; omega
          have e3 : a = 0 := by omega
          have e4 : q = 0 := by simp at h2; omega
          subst e1 e2 e3 e4
          refine Does.value ok (sl rfl hle rfl hm ha hb (Nat.le_refl _) (Nat.le_refl _)) ⟨_, rfl, .row _ _ _ _ (RefRow.mk' hn (Nat.le_refl _) (Nat.le_refl _) ?_)⟩
          rw [hp]; exact ⟨_, rfl⟩
        · rw [g1] at r3
          obtain ⟨a', rfl, ha'⟩ := r3
          dsimp only at g3 g4
          have hcap : p + b ≤ hd.cap := by have := g3.le; omega
          refine Does.value ok (sl rfl hle rfl hm ha hb hab (by omega)) ⟨_, rfl, .row _ _ _ _ (RefRow.mk' hn (by omega) hbe ?_)⟩
          rw [g1]
          refine ⟨_, by rw [show b - a = p + b - (p + a) by omega, show hd.cap - p - a = hd.cap - (p + a) by omega], fun hne => ?_⟩
          by_cases hca : hd.cap - p = a
          · rw [if_pos hca]
            have hpc : p ≤ hd.cap := by have := g3.le; omega
            have : p + a = 0 := by omega
            have hp0 : p = 0 := by omega
            have ha0 : a = 0 := by omega
            rw [ha' (.inl hp0), hp0, ha0]
          · rw [if_neg hca]
            rw [ha' (by omega), Option.map_some, Addr.add_lit, hwd, Nat.add_mul, Nat.add_assoc]
      cases hb : Nat.beq p 0
      · rw [hb] at hB
        obtain ⟨⟨a, b⟩, ⟨ha, hb, hab, hbs⟩, h⟩ := hB
        exact ⟨_, h, key a b ha hb hab (hbs.imp id fun h => ⟨.inr h.1, h.2⟩)⟩
      · rw [hb] at hB
        have := Nat.eq_of_beq_eq_true hb
        subst this
        have row : (slRow n q es lo hi).K true g (n :: rs) k → ∃ ε, k ε ∧ Does P w g φ (do pure (.value (← Instr.sliceAt t u ul uh um))) ε := by
          rintro ⟨⟨a, b⟩, ⟨ha, hb, hab, hbs⟩, h⟩
          have := key a b ha hb hab (by rw [Nat.zero_add]; exact hbs.imp id fun h => ⟨.inl rfl, h⟩)
          simp only [Nat.zero_add] at this
          exact ⟨_, h, this⟩
        dsimp only [cond_true] at hB
        split at hB
        · rename_i zz hop
          obtain ⟨hB1, hB2⟩ := hB
          by_cases hzq : zz ≤ (q : Int)
          · exact row (hB1 hzq)
          · obtain ⟨⟨b, es'⟩, ⟨hz1, hz2, hz3⟩, h⟩ := hB2 hzq
            dsimp only at hz1 hz2 hz3 h
            have hbq : q < b := by omega
            unfold openHi at hop
            split at hop
            · cases hop
              dsimp only [Out.K] at h
              split at h
              · rename_i hm'
                rcases ((ok.ob n _ hn).row hf4) with ⟨hes, hp⟩ | ⟨hd, c, ty', g1, g2, g3, g4, g5⟩
                · dsimp only at hes; subst hes; simp at hz2; omega
                · rw [g1] at r3
                  obtain ⟨a', rfl, ha'⟩ := r3
                  dsimp only at g3 g4 g5
                  have hcap : b ≤ hd.cap := by have := g3.le; omega
                  have hlen : es'.length = b := by rw [← hz3]; simp; omega
                  obtain ⟨φ', ok', t', hp'⟩ := shift_ok (h' := w.heap) (ob' := ⟨0, wd, es'⟩) (hd := hd) ok (fun h => by cases h) hn hm' (Nat.le_refl _) (fun _ _ _ => rfl) (.inr ⟨hd, g1, rfl⟩) g2
                    ⟨g3.wd0, fun e he => g3.len e (by rw [← hz3] at he; exact List.mem_of_mem_take he), by dsimp only; omega, g3.cap, g3.size, g3.one⟩ (fun h => absurd rfl h) (fun i e j x hi hj => by
                      dsimp only at hi
                      rw [← hz3, List.getElem?_take] at hi
                      split at hi
                      · exact g5 i e j x hi hj
                      · cases hi)
                  have hrun := sl rfl hle rfl hm (a := 0) (b := b) rfl hz1 (Nat.zero_le _) (by omega)
                  refine ⟨_, h, Does.made hrun (by rw [putH_cons, putH_one]; exact ok') (by rw [putH_cons, putH_one]; exact t') (by
                    rw [putH_cons, putH_one]
                    refine ⟨_, rfl, .row _ _ _ _ ?_⟩
                    have e1 : (if hd.cap - 0 = 0 then a' else a'.map (·.add (0 * ll.size))) = some ⟨hd.b, hd.off, none⟩ := by
                      rw [if_neg (by omega), ha' (.inl rfl), Option.map_some, Addr.add_lit]; simp
                    rw [e1]
                    simp only [Nat.sub_zero]
                    exact RefRow.full (put1_self _ _) hp' hlen.symm) rfl rfl rfl (Nat.le_refl _)⟩
              · exact h.elim
            · cases hop
        · exact row hB
    · exact h.elim
  · rename_i m0
    split at h
    · rename_i lo0
      split at h
      · rename_i el z bt n p q hi0
        obtain ⟨fl, wd, es, hn, hf4, hA⟩ := alive_elim h
        clear h
        obtain ⟨ll, hle, ⟨a, b, c⟩, ⟨ha, hb, hc, hab, hbc, hcq⟩, h⟩ := elk_elim hA
        dsimp only at ha hb hc hab hbc hcq h
        obtain ⟨hu, _⟩ := hT.w t _ z bt hl
        have hle' := (hel el z bt rfl).symm.trans hle
        obtain ⟨inf, hi', hs, _⟩ := tab_size hT hle'
        have r := rep_one hx
        have r2 : RefRow g φ n p q u := by cases r; assumption
        obtain ⟨_, _, ad, cap, rfl⟩ := row_len ok hn hf4 r2
        have hqc : c ≤ cap := by
          have r3 := r2.2
          rw [hn] at r3
          obtain ⟨h1, h2, r3⟩ := r3
          dsimp only at h2
          cases hp : φ (n, []) with
          | none =>
            rcases ((ok.ob n _ hn).row hf4) with ⟨h3, _⟩ | ⟨hd', c', ty, g1, _⟩
            · dsimp only at h3; subst h3; simp at h2; omega
            · rw [hp] at g1; cases g1
          | some hd =>
            rw [hp] at r3
            obtain ⟨a', e, _⟩ := r3
            cases e
            rcases ((ok.ob n _ hn).row hf4) with ⟨_, h3⟩ | ⟨hd', c', ty, g1, g2, g3, _⟩
            · rw [hp] at h3; cases h3
            · rw [hp] at g1
              cases g1
              have := g3.le
              dsimp only at this
              omega
        obtain ⟨u1, rfl, r1⟩ := hlo _ rfl
        obtain ⟨u2, rfl, r2'⟩ := hhi _ rfl
        obtain ⟨u3, rfl, r3'⟩ := hmx _ rfl
        have b3 := fun code => bound_run (P := P) (w := w) r3' hc hqc code
        have b2 := fun code => bound_run (P := P) (w := w) r2' hb hbc code
        have b1 := fun code => bound_run (P := P) (w := w) r1 ha hab code
        refine ⟨_, h, Does.value ok (u := .slice (if c = a then ad else ad.map (·.add (a * ll.size))) (b - a) (c - a)) ?_ ⟨_, rfl, .un _ _ rfl fun n hn => by cases hn; exact ⟨_, _, rfl⟩⟩⟩
        simp [Instr.sliceAt, Instr.slice, run_underlying hu, Instr.sliceBounds, b1, b2, b3, sizeOf, typeInfo, hi', hs]
      · exact h.elim
    · split at h
      · split at h
        · obtain ⟨ll, hle, hA⟩ := elk_elim h
          clear h
          obtain ⟨fl, wd, es, hn, hf4, h⟩ := alive_elim hA
          have r := rep_one hx
          have r2 := by cases r; assumption
          obtain ⟨_, _, ad, cap, hu⟩ := row_len ok hn hf4 r2
          obtain ⟨a', hrun⟩ := sl0 rfl hle hu rfl rfl rfl
          exact ⟨_, h, Does.value ok hrun ⟨_, rfl, .nl _⟩⟩
        · obtain ⟨ll, hle, h⟩ := elk_elim h
          have r := rep_one hx
          cases r with
          | f _ _ r =>
          cases r with
          | nil => obtain ⟨a', hrun⟩ := sl0 rfl hle rfl rfl rfl rfl; exact ⟨_, h, Does.value ok hrun ⟨_, rfl, .nl _⟩⟩
          | sl => obtain ⟨a', hrun⟩ := sl0 rfl hle rfl rfl rfl rfl; exact ⟨_, h, Does.value ok hrun ⟨_, rfl, .nl _⟩⟩
        · obtain ⟨ll, hle, h⟩ := elk_elim h
          have r := rep_one hx
          cases r with
          | nl ad => obtain ⟨a', hrun⟩ := sl0 rfl hle rfl rfl rfl rfl; exact ⟨_, h, Does.value ok hrun ⟨_, rfl, .nl _⟩⟩
        · exact h.elim
      · exact h.elim
end
end Go.Proofs.YtchfpgpboifbeaaGreat.Ac
