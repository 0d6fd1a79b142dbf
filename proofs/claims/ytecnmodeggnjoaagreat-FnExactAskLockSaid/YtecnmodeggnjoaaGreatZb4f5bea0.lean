/- Several of our texts, one behind the other, without what this claim does not need: AcM, AcN. -/
import Derived.Test.YtecnmodeggnjoaaGreatZacc279f8
set_option linter.unusedVariables false
set_option linter.unusedSimpArgs false
namespace Go.Proofs.YtecnmodeggnjoaaGreat.Ac
open Go.RowKit
section
variable {P : Program} {tb : Tab} {g : Hp} {φ : Phi} {w : World} {h : Array Obj} {H : Hp}
theorem fold_zip (off : Nat) : ∀ (vs : List Value) (k : Nat) (cs : Array Value), off + k + vs.length ≤ cs.size →
    ((vs.zipIdx k).foldl (fun (cs : Array Value) (x : Value × Nat) => cs.setIfInBounds (off + x.2) x.1) cs).toList = cs.toList.take (off + k) ++ vs ++ cs.toList.drop (off + k + vs.length)
  | [], k, cs, h => by simp
  | v :: vs, k, cs, h => by
    rw [List.zipIdx_cons, List.foldl_cons, fold_zip off vs (k + 1) _ (by simp at h ⊢; omega)]
    simp only [Array.toList_setIfInBounds, List.length_cons] at h ⊢
    apply List.ext_getElem?
    intro q
    have hl : (cs.toList.set (off + k) v).length = cs.size := by simp
    rw [show off + (k + 1) + vs.length = (off + (k + 1)) + vs.length by omega, seg_get (cs.toList.set (off + k) v) (off + (k + 1)) vs (by rw [hl]; omega)]
    rw [show off + k + (vs.length + 1) = (off + k) + (v :: vs).length by simp, seg_get cs.toList (off + k) (v :: vs) (by simp; omega)]
    simp only [List.length_cons]
    by_cases h1 : off + (k + 1) ≤ q ∧ q < off + (k + 1) + vs.length
    · rw [if_pos h1, if_pos (by omega), show q - (off + k) = (q - (off + (k + 1))) + 1 by omega]; rfl
    · rw [if_neg h1]
      by_cases h2 : q = off + k
      · subst h2
        rw [if_pos (by omega), Nat.sub_self, List.getElem?_set_self (by simp; omega)]; rfl
      · rw [if_neg (by omega), List.getElem?_set_ne (fun h => h2 h.symm)]
theorem fill_cons {place : Nat → Option (Nat × Nat)} {cells : Array Value} {i : Nat} {v : Value} {rest : List (Nat × Value)} {off : Nat} (hp : place i = some (off, v.cells.size)) (hle : off + v.cells.size ≤ cells.size) :
    Instr.fill place cells ((i, v) :: rest) = Instr.fill place (cells.toList.take off ++ v.cells.toList ++ cells.toList.drop (off + v.cells.toList.length)).toArray rest := by
  have h2 : ¬ (cells.size < off + v.cells.size) := by omega
  have hf := fold_zip off v.cells.toList 0 cells (by simpa using hle)
  simp only [Nat.add_zero] at hf
  have hz : v.cells.zipIdx.foldl (fun (cs : Array Value) (x : Value × Nat) => match x with | (c, j) => cs.setIfInBounds (off + j) c) cells = (cells.toList.take off ++ v.cells.toList ++ cells.toList.drop (off + v.cells.toList.length)).toArray := by
    rw [← Array.foldl_toList, Array.toList_zipIdx]
    apply Array.ext'
    exact hf
  simp only [Instr.fill, hp]
  rw [if_neg (by simp; omega)]
  exact congrArg (fun c => Instr.fill place c rest) hz
theorem build_elim {sz : Nat} {fs : List (Nat × Nat × Bool)} {place : Nat → Option (Nat × Nat)} (hpl : ∀ (f : Nat) (x : Nat × Nat × Bool), fs[f]? = some x → place f = some (x.1, x.2.1) ∧ x.1 + x.2.1 ≤ sz) : ∀ (ps : List (Nat × T)) (vs : List (Nat × Value)) (zs : List A) (cells : Array Value) (κ : List A → Out) (rs : List Nat) (k : Eff → Prop),
    ps.map (·.1) = vs.map (·.1) → (∀ (i : Nat) (x : Nat × T) (y : Nat × Value), ps[i]? = some x → vs[i]? = some y → RepT h H φ x.2 y.2) → cells.size = sz → RepC h H φ zs cells.toList → (buildK fs ps zs κ).K true g rs k →
    ∃ zs' cells', Instr.fill place cells vs = some cells' ∧ cells'.size = sz ∧ RepC h H φ zs' cells'.toList ∧ (κ zs').K true g rs k
  | [], vs, zs, cells, κ, rs, k, hk, hr, hs, hz, hK => by
    have : vs = [] := by simpa using hk.symm
    subst this
    exact ⟨zs, cells, rfl, hs, hz, hK⟩
  | (f, x) :: ps, [], zs, cells, κ, rs, k, hk, hr, hs, hz, hK => by simp at hk
  | (f, x) :: ps, (f', v) :: vs, zs, cells, κ, rs, k, hk, hr, hs, hz, hK => by
    simp only [List.map_cons, List.cons.injEq] at hk
    obtain ⟨rfl, hk⟩ := hk
    have r := hr 0 _ _ rfl rfl
    cases x with
    | val ag cs =>
      simp only [buildK] at hK
      split at hK
      · rename_i o s _ hf
        obtain ⟨h0, hK⟩ := cond_K hK
        have hcs := Nat.eq_of_beq_eq_true h0
        obtain ⟨hle, hK⟩ := splice_elim hK
        obtain ⟨hp, hsz⟩ := hpl f _ hf
        have rc := rep_cells r
        have hvl := rc.length
        have hv : v.cells.size = s := by rw [← hcs, ← hvl]; simp
        have hfc := fill_cons (place := place) (i := f) (off := o) (rest := vs) (v := v) (cells := cells) (by rw [hp, hv]) (by rw [hv, hs]; exact hsz)
        rw [hfc]
        have hl := hz.length
        refine build_elim hpl ps vs _ _ κ rs k hk (fun i x y h1 h2 => hr (i + 1) x y h1 h2) ?_ ?_ hK
        · simp only [List.size_toArray, List.length_append, List.length_take, List.length_drop, Array.length_toList, hv]; dsimp only at hsz ⊢; omega
        · have e1 : (cells.toList.take o ++ v.cells.toList ++ cells.toList.drop (o + v.cells.toList.length)).toArray.toList = cells.toList.take o ++ v.cells.toList ++ cells.toList.drop (o + v.cells.toList.length) := by simp
          rw [e1, hvl]
          exact ((hz.take o).append rc).append (hz.drop _)
      · exact hK.elim
    | tu _ => exact hK.elim
    | bot => exact hK.elim
theorem places_run {fields : Array Field} {fs : List (Nat × Nat × Bool)} (hlen : fs.length = fields.size) (hfs : ∀ (f : Nat) (x : Nat × Nat × Bool), fs[f]? = some x → ∃ fd inf', fields[f]? = some fd ∧ fd.offset = x.1 ∧ P.info? fd.type = some inf' ∧ inf'.size = x.2.1) :
    (fields.mapM (m := Sem) fun f => do pure (f.offset, ← sizeOf f.type)).run P w = .ok (fs.map fun x => (x.1, x.2.1)).toArray w := by
  have key : ∀ (l : List Field) (k : Nat) (fs : List (Nat × Nat × Bool)), l.length = fs.length → (∀ (f : Nat) (x : Nat × Nat × Bool), fs[f]? = some x → ∃ fd inf', l[f]? = some fd ∧ fd.offset = x.1 ∧ P.info? fd.type = some inf' ∧ inf'.size = x.2.1) →
      (l.mapM (m := Sem) fun f => do pure (f.offset, ← sizeOf f.type)).run P w = .ok (fs.map fun x => (x.1, x.2.1)) w := by
    intro l
    induction l with
    | nil => intro k fs hl _; have : fs = [] := List.eq_nil_of_length_eq_zero hl.symm; subst this; simp
    | cons fd l ih =>
      intro k fs hl hx
      cases fs with
      | nil => simp at hl
      | cons x fs =>
        obtain ⟨fd', inf', h1, h2, h3, h4⟩ := hx 0 x rfl
        cases h1
        have := ih (k + 1) fs (by simpa using hl) fun f x hf => hx (f + 1) x hf
        simp only [List.mapM_cons, Sem.run_bind, sizeOf, typeInfo, run_program, h3, Sem.run_pure, Result.andThen_ok]
        simp only [sizeOf, typeInfo] at this
        rw [this]
        simp [h2, h4]
  rw [← Array.toArray_toList (xs := fields), List.mapM_toArray]
  have := key fields.toList 0 fs (by simp [hlen]) fun f x hf => by
    obtain ⟨fd, inf', h1, h2⟩ := hfs f x hf
    exact ⟨fd, inf', by simpa using h1, h2⟩
  simp only [Functor.map, Sem.run_map, Sem.run_bind', this]
  rfl
theorem struct_does (hT : TabOK P tb) (ok : HeapOK w.heap g φ) {t : TypeId} {l : Lay} (hl : tb t = some l) {ps : List (Nat × T)} {vs : List (Nat × Value)} (hk : ps.map (·.1) = vs.map (·.1))
    (hr : ∀ (i : Nat) (x : Nat × T) (y : Nat × Value), ps[i]? = some x → vs[i]? = some y → RepT w.heap g φ x.2 y.2) (rs : List Nat) : DoesO P w g φ (do pure (.value (← Instr.build t vs.toArray))) rs (buildO l ps) := by
  intro k h
  unfold buildO at h
  split at h
  · rename_i sz z fs bt
    obtain ⟨inf, fields, zv, hu, hi, hs, hz, rfl, h1, h2, _, hfl, hfs⟩ := hT.st t _ _ _ _ hl
    have hpl : ∀ (f : Nat) (x : Nat × Nat × Bool), fs[f]? = some x → (fun f => ((fs.map fun x => (x.1, x.2.1)).toArray)[f]?) f = some (x.1, x.2.1) ∧ x.1 + x.2.1 ≤ sz := fun f x hf => by
      obtain ⟨fd, inf', _, _, _, _, _, g1, _⟩ := hfs f x hf
      exact ⟨by simp [hf], g1⟩
    obtain ⟨zs', cells', hf, hs', hr', h⟩ := build_elim (h := w.heap) (H := g) (φ := φ) hpl ps vs _ zv _ rs k hk hr h2 (constC_ok h1) h
    have hp := places_run (P := P) (w := w) hfl fun f x hf => by
      obtain ⟨fd, inf', g1, g2, g3, g4, _⟩ := hfs f x hf
      exact ⟨fd, inf', g1, g2, g3, g4⟩
    refine ⟨_, h, Does.value ok (u := .agg cells') ?_ ⟨_, rfl, hr'⟩⟩
    simp only [Instr.build, zeroValue, typeInfo, Sem.run_bind, run_program, hi, hz, Sem.run_pure, Result.andThen_ok, run_underlying hu, Value.cells]
    simp only [sizeOf, typeInfo] at hp
    simp only [sizeOf, typeInfo, hp, Result.andThen_ok]
    rw [show Instr.fill (fun x => ((fs.map fun x => (x.1, x.2.1)).toArray)[x]?) zv vs = some cells' from hf]
    rfl
  · exact h.elim
end
end Go.Proofs.YtecnmodeggnjoaaGreat.Ac
set_option linter.unusedVariables false
set_option linter.unusedSimpArgs false
namespace Go.Proofs.YtecnmodeggnjoaaGreat.Ac
open Go.RowKit
section
variable {P : Program} {tb : Tab} {g : Hp} {φ : Phi} {w : World} {h : Array Obj} {H : Hp}
theorem zero_get {z : Array Value} {n sz i j : Nat} (hz : z.size = sz) (hi : i < n) (hj : j < sz) : (Builtin.zeroCells z n).getD (i * sz + j) undef = z.getD j undef := by
  have h1 : i * sz + j < n * z.size := by rw [hz]; exact idx_lt hi hj
  have h2 : (i * sz + j) % sz = j := by rw [Nat.add_comm, Nat.add_mul_mod_self_right]; exact Nat.mod_eq_of_lt hj
  have h3 : i * sz + j < n * sz := hz ▸ h1
  simp [Builtin.zeroCells, Array.getD_eq_getD_getElem?, h3, hz, h2, hj]
theorem zero_arr {z : Array Value} {n sz : Nat} (hz : z.size = sz) : (Array.range (n * sz)).map (fun i => (if n * sz = 0 then (#[] : Array Value) else z)[i % (if n * sz = 0 then (#[] : Array Value) else z).size]!) = Builtin.zeroCells z n := by
  by_cases h0 : n * sz = 0
  · simp [h0, Builtin.zeroCells, hz]
  · simp [h0, Builtin.zeroCells, hz]
theorem makeSlice_does (hT : TabOK P tb) (ok : HeapOK w.heap g φ) {d : Nat} {t el : TypeId} {z : A} {bt : Nat} {l : Lay} (ht : tb t = some (.w (.slice el) z bt)) (hl : tb el = some l) {x y : T} {u v : Value} (hx : RepT w.heap g φ x u) (hy : RepT w.heap g φ y v) (rs : List Nat) :
    DoesO P w g φ (do pure (.value (← Instr.makeSlice t u v))) rs (makeSliceO d l x y) := by
  obtain ⟨ht', _⟩ := hT.w t _ z bt ht
  obtain ⟨inf, zv, hi, hsz, hbt, hz, hzs, hzr⟩ := tab_zero hT hl w.heap g φ
  intro k h
  unfold makeSliceO at h
  split at h
  · rename_i i1 z1 i2 z2
    cases v_rep hx
    cases v_rep hy
    obtain ⟨h0, h⟩ := cond_K h
    obtain ⟨⟨n, c⟩, ⟨rfl, rfl, hnc, hc⟩, hA⟩ := h
    dsimp only at hnc hc hA
    simp only [Bool.and_eq_true] at h0
    have hpos : 0 < l.size := by have := h0.1; simpa [Nat.blt, Nat.lt_iff_add_one_le] using this
    have hby : inf.bytes ≤ 65536 := by rw [hbt]; exact Nat.le_of_ble_eq_true h0.2
    have hcm : inf.bytes * c ≤ 65536 * 2 ^ 30 := Nat.mul_le_mul hby (Nat.le_of_lt hc)
    have w1 : IntKind.i64.wrap (n : Int) = n := by rw [IntKind.wrap_i64]; omega
    have w2 : IntKind.i64.wrap (c : Int) = c := by rw [IntKind.wrap_i64]; omega
    have e1 : ¬ ((inf.bytes : Int) * (c : Int) > 281474976710656) := by
      rw [← Int.natCast_mul]; omega
    have hrun : (do pure (.value (← Instr.makeSlice t (.int i1 n) (.int i2 c))) : Sem Next).run P w = .ok (.value (.slice (some ⟨w.heap.size, 0, none⟩) n c)) (w.alloc (.cells (Builtin.zeroCells zv.cells c) el)) := by
      have e2 : ¬ ((c : Int) < 0) := by omega
      have e3 : ¬ ((n : Int) < 0) := by omega
      have e4 : ¬ ((n : Int) > (c : Int)) := by omega
      have e5 : ¬ (c * inf.bytes > 140737488355328) := by rw [Nat.mul_comm]; omega
      have hza := zero_arr (n := c) hzs
      rw [← hsz] at hza
      by_cases h0 : c * inf.size = 0
      · simp [Instr.makeSlice, run_underlying ht', asInt, asIntOf, typeInfo, hi, w1, w2, askRoom, roomBytes, sizeOf, zeroValue, hz, newRow, e1, e2, e3, e4, e5, h0]
        have hc0 : c = 0 := by
          rcases Nat.mul_eq_zero.1 h0 with h | h
          · exact h
          · omega
        subst hc0
        have e9 : ∀ f : Nat → Value, Array.map f (Array.range 0) = #[] := fun f => by simp [Array.range]
        simp only [Builtin.zeroCells, Nat.zero_mul, e9]
      · simp [Instr.makeSlice, run_underlying ht', asInt, asIntOf, typeInfo, hi, w1, w2, askRoom, roomBytes, sizeOf, zeroValue, hz, newRow, e1, e2, e3, e4, e5, h0]
        rw [hsz, ← hzs]; rfl
    obtain ⟨hr1, hr2⟩ : RowOK l.size (List.replicate n l.zero) ⟨w.heap.size, 0, c⟩ (Builtin.zeroCells zv.cells c) ∧ ∀ i e j x, (List.replicate n l.zero)[i]? = some e → e[j]? = some x → RepE w.heap g φ x ((Builtin.zeroCells zv.cells c).getD (i * l.size + j) undef) := by
      have hzl := hzr.length
      refine ⟨⟨hpos, fun e he => ?_, by simpa using hnc, by simp only [maxLen]; omega, by rw [size_zeroCells, hzs]; simp, fun k hk => zero_one hzr.one hk⟩, fun i e j x hi hj => ?_⟩
      · rw [List.eq_of_mem_replicate he, ← hzl]; simpa using hzs
      · have hin : i < n := by have := (List.getElem?_eq_some_iff.1 hi).1; simpa using this
        rw [List.getElem?_replicate, if_pos hin] at hi
        cases hi
        have hjl := (List.getElem?_eq_some_iff.1 hj).1
        obtain ⟨u, hu, ru⟩ := hzr.at hj
        rw [zero_get hzs (by omega) (by rw [← hzl] at hjl; simpa [hzs] using hjl)]
        have : zv.cells.getD j undef = u := by simp [show zv.cells[j]? = some u by simpa using hu]
        rw [this]; exact ru
    refine new_does (ob := ⟨0, l.size, List.replicate n l.zero⟩) (v := fun m => .val false [.row m 0 n]) (ty := el) (cap := c) ok (fun h => by cases h) hrun rfl rfl rfl rfl hr1 (fun h => absurd rfl h) hr2 (fun m φ' hφ => ⟨_, rfl, .row _ _ _ _ ?_⟩) k hA
    exact RefRow.full (put1_self _ _) hφ (by simp)
  · exact h.elim
theorem lit_elim {l : Lay} {ps : List (Nat × T)} {k : Eff → Prop} : ∀ (n i : Nat) (κ : List (List A) → Out) (rs : List Nat), (litK l ps i n κ).K true g rs k → l.zero.length = l.size →
    ∃ es, (κ es).K true g rs k ∧ es.length = n ∧ ∀ (q : Nat) (e : List A), es[q]? = some e → e.length = l.size ∧ ((∃ ag, get ps (i + q) = some (.val ag e)) ∨ get ps (i + q) = none ∧ e = l.zero)
  | 0, i, κ, rs, h, hz => ⟨[], h, rfl, fun q e he => by simp at he⟩
  | n + 1, i, κ, rs, h, hz => by
    have step : ∀ {e : List A}, e.length = l.size → ((∃ ag, get ps i = some (.val ag e)) ∨ get ps i = none ∧ e = l.zero) → (litK l ps (i + 1) n fun r => κ (e :: r)).K true g rs k →
        ∃ es, (κ es).K true g rs k ∧ es.length = n + 1 ∧ ∀ (q : Nat) (e : List A), es[q]? = some e → e.length = l.size ∧ ((∃ ag, get ps (i + q) = some (.val ag e)) ∨ get ps (i + q) = none ∧ e = l.zero) := by
      intro e he1 he2 h
      obtain ⟨es, h1, h2, h3⟩ := lit_elim n (i + 1) _ rs h hz
      refine ⟨e :: es, h1, by simp [h2], fun q e' he' => ?_⟩
      cases q with
      | zero => cases he'; exact ⟨he1, he2⟩
      | succ q =>
        have := h3 q e' he'
        rw [show i + 1 + q = i + (q + 1) by omega] at this
        exact this
    simp only [litK] at h
    split at h
    · rename_i ag cs hg
      obtain ⟨h0, h⟩ := cond_K h
      exact step (Nat.eq_of_beq_eq_true h0) (.inl ⟨ag, hg⟩) h
    · exact h.elim
    · rename_i hg; exact step hz (.inr ⟨hg, rfl⟩) h
theorem fill_rows {sz n : Nat} : ∀ (vs : List (Nat × Value)) (cells : Array Value), cells.size = n * sz → (∀ p ∈ vs, p.1 < n ∧ p.2.cells.size = sz) → nodupB (vs.map (·.1)) = true → ∃ cells', Instr.fill (fun i => some (i * sz, sz)) cells vs = some cells' ∧ cells'.size = n * sz ∧
    ∀ i j, i < n → j < sz → cells'.getD (i * sz + j) undef = match get vs i with
      | some v => v.cells.getD j undef
      | none => cells.getD (i * sz + j) undef
  | [], cells, hs, _, _ => ⟨cells, rfl, hs, fun i j _ _ => rfl⟩
  | (q, v) :: vs, cells, hs, hp, hd => by
    obtain ⟨hq, hv⟩ := hp (q, v) List.mem_cons_self
    dsimp only at hq hv
    simp only [List.map_cons, nodupB] at hd
    have hfit : q * sz + v.cells.size ≤ cells.size := by
      rw [hv, hs, ← Nat.succ_mul]; exact Nat.mul_le_mul_right _ hq
    rw [fill_cons (off := q * sz) (by rw [hv]) hfit]
    have hvl : v.cells.toList.length = sz := by simpa using hv
    have hs2 : ((cells.toList.take (q * sz) ++ v.cells.toList ++ cells.toList.drop (q * sz + v.cells.toList.length)).toArray).size = n * sz := by
      simp only [List.size_toArray, List.length_append, List.length_take, List.length_drop, Array.length_toList]; omega
    cases hm : memN q (vs.map (·.1)) with
    | true => rw [hm] at hd; cases hd
    | false =>
      rw [hm] at hd
      obtain ⟨cells', h1, h2, h3⟩ := fill_rows vs _ hs2 (fun p h => hp p (List.mem_cons_of_mem _ h)) hd
      refine ⟨cells', h1, h2, fun i j hi hj => ?_⟩
      rw [h3 i j hi hj, seg_getD cells (q * sz) v.cells.toList (by rw [hvl]; rw [hv] at hfit; exact hfit)]
      have ev : ∀ k, v.cells.toList.getD k undef = v.cells.getD k undef := fun k => by simp [List.getD_eq_getElem?_getD]
      simp only [get]
      by_cases hqi : q = i
      · subst hqi
        rw [Nat.beq_refl, cond_true, get_none (by intro hc; rw [memN_iff.2 hc] at hm; cases hm)]
        dsimp only
        rw [if_pos (by omega), show q * sz + j - q * sz = j by omega, ev]
      · rw [beq_false hqi, cond_false]
        cases get vs i with
        | some v' => rfl
        | none =>
          dsimp only
          rw [if_neg]
          rw [hvl]
          rintro ⟨a1, a2⟩
          rcases Nat.lt_or_gt_of_ne hqi with hlt | hgt
          · have := Nat.mul_le_mul_right sz (Nat.succ_le_of_lt hlt)
            rw [Nat.succ_mul] at this; omega
          · have := idx_lt hgt hj; omega
theorem get_map {ps : List (Nat × T)} {vs : List (Nat × Value)} (hk : ps.map (·.1) = vs.map (·.1)) (hr : ∀ (i : Nat) (x : Nat × T) (y : Nat × Value), ps[i]? = some x → vs[i]? = some y → RepT h H φ x.2 y.2) (i : Nat) :
    (get ps i = none ∧ get vs i = none) ∨ ∃ x v, get ps i = some x ∧ get vs i = some v ∧ RepT h H φ x v := by
  induction ps generalizing vs with
  | nil =>
    have : vs = [] := by simpa using hk.symm
    subst this; exact .inl ⟨rfl, rfl⟩
  | cons p ps ih =>
    cases vs with
    | nil => simp at hk
    | cons v vs =>
      obtain ⟨a, x⟩ := p
      obtain ⟨b, v⟩ := v
      simp only [List.map_cons, List.cons.injEq] at hk
      obtain ⟨rfl, hk⟩ := hk
      simp only [get]
      cases hb : Nat.beq a i
      · exact ih hk fun i x y h1 h2 => hr (i + 1) x y h1 h2
      · exact .inr ⟨x, v, rfl, rfl, hr 0 _ _ rfl rfl⟩
theorem mem_get {ps : List (Nat × T)} {i : Nat} {x : T} (h : (i, x) ∈ ps) (hd : nodupB (ps.map (·.1)) = true) : get ps i = some x := by
  induction ps with
  | nil => cases h
  | cons p ps ih =>
    obtain ⟨a, y⟩ := p
    simp only [List.map_cons, nodupB] at hd
    cases hm : memN a (ps.map (·.1)) with
    | true => rw [hm] at hd; cases hd
    | false =>
      rw [hm] at hd
      simp only [get]
      rcases List.mem_cons.1 h with h | h
      · cases h; rw [Nat.beq_refl]; rfl
      · have : a ≠ i := fun e => by
          subst e
          have : a ∈ ps.map (·.1) := List.mem_map.2 ⟨_, h, rfl⟩
          rw [memN_iff.2 this] at hm; cases hm
        rw [beq_false this]; exact ih h hd
theorem rows_does (hT : TabOK P tb) (ok : HeapOK w.heap g φ) {d n : Nat} {t el : TypeId} {z : A} {bt : Nat} {l : Lay} (ht : tb t = some (.w (.slice el) z bt)) (hl : tb el = some l) {ps : List (Nat × T)} {vs : List (Nat × Value)} (hk : ps.map (·.1) = vs.map (·.1))
    (hr : ∀ (i : Nat) (x : Nat × T) (y : Nat × Value), ps[i]? = some x → vs[i]? = some y → RepT w.heap g φ x.2 y.2) (rs : List Nat) : DoesO P w g φ (do pure (.value (← Instr.buildSlice t n vs.toArray))) rs (buildSliceO d l n ps) := by
  obtain ⟨ht', _⟩ := hT.w t _ z bt ht
  obtain ⟨inf, zv, hi, hsz, hbt, hz, hzs, hzr⟩ := tab_zero hT hl w.heap g φ
  intro k h
  unfold buildSliceO at h
  obtain ⟨h0, hA⟩ := cond_K h
  clear h
  simp only [Bool.and_eq_true] at h0
  obtain ⟨⟨⟨h01, h02⟩, h03⟩, h04⟩ := h0
  have hpos : 0 < l.size := by simpa [Nat.blt, Nat.lt_iff_add_one_le] using h01
  have hzl := hzr.length
  obtain ⟨es, h, hlen, hes⟩ := lit_elim n 0 _ rs hA (by rw [← hzl]; simpa using hzs)
  have hsmall : n * l.size ≤ 65536 := Nat.le_of_ble_eq_true h04
  have hmemn : ∀ p ∈ ps, p.1 < n := fun p hp => by
    have := List.all_eq_true.1 h03 p hp
    simpa [Nat.blt, Nat.lt_iff_add_one_le] using this
  -- each part is as long as an element
  have hsv : ∀ p ∈ vs, p.1 < n ∧ p.2.cells.size = l.size := by
    intro p hp
    obtain ⟨i, hi, rfl⟩ := List.mem_iff_getElem.1 hp
    have hli : i < ps.length := by have := congrArg List.length hk; simp at this; omega
    have hv : vs[i]? = some vs[i] := List.getElem?_eq_getElem hi
    have hx : ps[i]? = some ps[i] := List.getElem?_eq_getElem hli
    have e1 : ps[i].1 = vs[i].1 := by
      have := congrArg (·[i]?) hk
      simpa [hx, hv] using this
    have hn := hmemn _ (List.getElem_mem hli)
    refine ⟨e1 ▸ hn, ?_⟩
    have r := hr i _ _ hx hv
    have hg := mem_get (i := ps[i].1) (x := ps[i].2) (List.getElem_mem hli) h02
    obtain ⟨e, he⟩ : ∃ e, es[ps[i].1]? = some e := ⟨es[ps[i].1]'(by omega), List.getElem?_eq_getElem _⟩
    obtain ⟨g1, g2⟩ := hes _ _ he
    rw [Nat.zero_add, hg] at g2
    rcases g2 with ⟨ag, g2⟩ | ⟨g2, _⟩
    · rw [Option.some.inj g2] at r
      have := (rep_cells r).length
      rw [g1] at this
      simpa using this
    · cases g2
  obtain ⟨cells', hf, hs', hget⟩ := fill_rows (sz := l.size) (n := n) vs (Builtin.zeroCells zv.cells n) (by rw [size_zeroCells, hzs]) hsv (by rw [← hk]; exact h02)
  have hrun : (do pure (.value (← Instr.buildSlice t n vs.toArray)) : Sem Next).run P w = .ok (.value (.slice (some ⟨w.heap.size, 0, none⟩) n n)) (w.alloc (.cells cells' el)) := by
    have e1 : ¬ (n * inf.size > 16777216) := by rw [hsz]; omega
    have hza := zero_arr (n := n) hzs
    rw [← hsz] at hza hf
    by_cases h0 : n * inf.size = 0
    · rw [h0] at hza
      simp only [if_true] at hza
      simp [Instr.buildSlice, run_underlying ht', sizeOf, typeInfo, zeroValue, hi, hz, h0, newRow]
      simp at hza
      rw [hza, hf]
      simp [Instr.buildSlice, newRow]
    · simp only [h0, if_false] at hza
      simp [Instr.buildSlice, run_underlying ht', sizeOf, typeInfo, zeroValue, hi, hz, h0, newRow, e1]
      rw [hza, hf]
      simp [newRow]
  have key : ∀ (i : Nat) (e : List A) (j : Nat) (x : A), es[i]? = some e → e[j]? = some x → RepE w.heap g φ x (cells'.getD (i * l.size + j) undef) := by
    intro i e j x hi hj
    have hin : i < n := by have := (List.getElem?_eq_some_iff.1 hi).1; omega
    obtain ⟨g1, g2⟩ := hes i e hi
    have hjl := (List.getElem?_eq_some_iff.1 hj).1
    rw [g1] at hjl
    rw [hget i j hin hjl]
    rw [Nat.zero_add] at g2
    have fin : ∀ {cs : Array Value}, RepC w.heap g φ e cs.toList → RepE w.heap g φ x (cs.getD j undef) := by
      intro cs hc
      obtain ⟨u, hu, ru⟩ := hc.at hj
      have : cs.getD j undef = u := by simp [show cs[j]? = some u by simpa using hu]
      rw [this]; exact ru
    rcases get_map hk hr i with ⟨a1, a2⟩ | ⟨x', v', a1, a2, a3⟩
    · rw [a2]
      rcases g2 with ⟨ag, g2⟩ | ⟨_, rfl⟩
      · rw [a1] at g2; cases g2
      · dsimp only
        rw [zero_get hzs hin hjl]
        exact fin hzr
    · rw [a2]
      rcases g2 with ⟨ag, g2⟩ | ⟨g2, _⟩
      · rw [a1] at g2
        cases g2
        exact fin (rep_cells a3)
      · rw [a1] at g2; cases g2
  refine new_does (ob := ⟨2, l.size, es⟩) (v := fun m => .val false [.row m 0 n]) (ty := el) (cap := n) (u := .slice (some ⟨w.heap.size, 0, none⟩) n n) ok (fun h => by cases h) hrun rfl rfl rfl rfl ⟨hpos, fun e he => ?_, by dsimp only; omega, by simp only [maxLen]; have := Nat.le_mul_of_pos_right n hpos; omega, by rw [hs']; simp, fun q hq => ?_⟩ (fun _ => hlen) key (fun m φ' hφ => ⟨_, rfl, .row _ _ _ _ ?_⟩) k h
  · obtain ⟨i, hi, rfl⟩ := List.mem_iff_getElem.1 he
    exact (hes i _ (List.getElem?_eq_getElem hi)).1
  · rw [hs'] at hq
    have hd : q / l.size < n := Nat.div_lt_of_lt_mul (by rw [Nat.mul_comm]; exact hq)
    have hm : q % l.size < l.size := Nat.mod_lt _ hpos
    have he : (es[q / l.size]'(by omega)).length = l.size := (hes _ _ (List.getElem?_eq_getElem _)).1
    have := (key (q / l.size) (es[q / l.size]'(by omega)) (q % l.size) ((es[q / l.size]'(by omega))[q % l.size]'(by omega)) (List.getElem?_eq_getElem _) (List.getElem?_eq_getElem _)).one
    have e1 : q / l.size * l.size + q % l.size = q := by have := Nat.div_add_mod q l.size; rw [Nat.mul_comm] at this; exact this
    rw [e1] at this; exact this
  · exact RefRow.full (put1_self _ _) hφ hlen.symm
end
end Go.Proofs.YtecnmodeggnjoaaGreat.Ac
