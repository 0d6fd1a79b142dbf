/- Several of our texts, one behind the other, without what this claim does not need: AcG, AcH. -/
import Derived.Test.YtecnmodeggnjoaaGreatZ12224cb1
import Derived.Lib.SlicesS
set_option linter.unusedVariables false
set_option linter.unusedSimpArgs false
namespace Go.Proofs.YtecnmodeggnjoaaGreat.Ac
open Go.RowKit
section
variable {α : Type} {sq : Bool} {g : Hp} {q : Eff → Prop}
theorem cond_K {b : Bool} {o : Out} {rs : List Nat} (h : (cond b o .no).K sq g rs q) : b = true ∧ o.K sq g rs q := by
  cases b
  · exact h.elim
  · exact ⟨rfl, h⟩
theorem alive_elim {n : Nat} {κ : Nat → Nat → List (List A) → Out} {rs : List Nat} (h : (aliveO n κ).K sq g rs q) : ∃ fl wd es, g n = some (some ⟨fl, wd, es⟩) ∧ fl ≠ 4 ∧ (κ fl wd es).K sq g (n :: rs) q := by
  unfold aliveO at h
  dsimp only [Out.K] at h
  split at h
  · rename_i fl wd es heq
    cases hb : Nat.beq fl 4 with
    | true => rw [hb] at h; exact h.elim
    | false => rw [hb] at h; exact ⟨fl, wd, es, heq, (fun e => by rw [e] at hb; cases hb), h⟩
  · exact h.elim
theorem el_elim {fl i : Nat} {es : List (List A)} {κ : List A → Out} {rs : List Nat} (h : (elO fl es i κ).K sq g rs q) : ∃ e, es[i]? = some e ∧ (fl = 3 → es = [e] ∧ i = 0) ∧ (κ e).K sq g rs q := by
  unfold elO at h
  cases hb : Nat.beq fl 3
  · rw [hb] at h
    obtain ⟨e, he, h⟩ := h
    exact ⟨e, he, fun h3 => by rw [h3] at hb; exact absurd hb (by decide), h⟩
  · rw [hb] at h
    dsimp only [cond_true] at h
    split at h
    · rename_i e
      obtain ⟨h0, h⟩ := cond_K h
      have := Nat.eq_of_beq_eq_true h0
      subst this
      exact ⟨e, rfl, fun _ => ⟨rfl, rfl⟩, h⟩
    · exact h.elim
theorem set_elim {fl wd i : Nat} {es : List (List A)} {e e' : List A} {κ : Ob → Out} {rs : List Nat} (h3 : fl = 3 → es = [e] ∧ i = 0) (h : (setO fl wd es i e' κ).K sq g rs q) : (κ ⟨fl, wd, es.set i e'⟩).K sq g rs q := by
  unfold setO at h
  cases hb : Nat.beq fl 3
  · rw [hb] at h; exact h
  · rw [hb] at h
    have := Nat.eq_of_beq_eq_true hb
    obtain ⟨rfl, rfl⟩ := h3 this
    subst this
    exact h
theorem tak_elim : ∀ {xs : List α} {s : Nat} {κ : List α → Out} {rs : List Nat}, (takK xs s κ).K sq g rs q → s ≤ xs.length ∧ (κ (xs.take s)).K sq g rs q
  | xs, 0, κ, rs, h => ⟨Nat.zero_le _, by simpa [takK] using h⟩
  | x :: xs, s + 1, κ, rs, h => by
    obtain ⟨h1, h2⟩ := tak_elim (xs := xs) (s := s) (κ := fun r => κ (x :: r)) h
    exact ⟨Nat.succ_le_succ h1, h2⟩
  | [], _ + 1, κ, rs, h => h.elim
theorem seg_elim : ∀ {xs : List α} {o s : Nat} {κ : List α → Out} {rs : List Nat}, (segK xs o s κ).K sq g rs q → o + s ≤ xs.length ∧ (κ ((xs.drop o).take s)).K sq g rs q
  | xs, 0, s, κ, rs, h => by
    have h' : (takK xs s κ).K sq g rs q := by cases xs <;> exact h
    obtain ⟨h1, h2⟩ := tak_elim h'
    exact ⟨by omega, h2⟩
  | x :: xs, o + 1, s, κ, rs, h => by
    obtain ⟨h1, h2⟩ := seg_elim (xs := xs) (o := o) h
    exact ⟨by simp; omega, h2⟩
  | [], _ + 1, s, κ, rs, h => h.elim
theorem ov_elim : ∀ {xs ys : List α} {κ : List α → Out} {rs : List Nat}, (ovK xs ys κ).K sq g rs q → ys.length ≤ xs.length ∧ (κ (ys ++ xs.drop ys.length)).K sq g rs q
  | xs, [], κ, rs, h => ⟨Nat.zero_le _, by cases xs <;> exact h⟩
  | x :: xs, y :: ys, κ, rs, h => by
    obtain ⟨h1, h2⟩ := ov_elim (xs := xs) (ys := ys) (κ := fun r => κ (y :: r)) h
    exact ⟨Nat.succ_le_succ h1, h2⟩
  | [], _ :: _, κ, rs, h => h.elim
theorem splice_elim : ∀ {xs : List α} {n : Nat} {ys : List α} {κ : List α → Out} {rs : List Nat}, (spliceK xs n ys κ).K sq g rs q → n + ys.length ≤ xs.length ∧ (κ (xs.take n ++ ys ++ xs.drop (n + ys.length))).K sq g rs q
  | xs, 0, ys, κ, rs, h => by
    have h' : (ovK xs ys κ).K sq g rs q := by cases xs <;> exact h
    obtain ⟨h1, h2⟩ := ov_elim h'
    exact ⟨by omega, by simpa using h2⟩
  | x :: xs, n + 1, ys, κ, rs, h => by
    obtain ⟨h1, h2⟩ := splice_elim (xs := xs) (n := n) (ys := ys) (κ := fun r => κ (x :: r)) h
    refine ⟨by simp; omega, ?_⟩
    have : n + 1 + ys.length = (n + ys.length) + 1 := by omega
    simpa [this] using h2
  | [], _ + 1, ys, κ, rs, h => h.elim
theorem allF_elim {β : Type} : ∀ {xs : List L} {κ : List A → Out} {rs : List Nat}, (allF (α := β) xs κ).K sq g rs q → (κ (xs.map .f)).K sq g rs q
  | [], κ, rs, h => h
  | x :: xs, κ, rs, h => allF_elim (xs := xs) (κ := fun r => κ (.f x :: r)) h
theorem drop_elim : ∀ {xs : List α} {n : Nat} {κ : List α → Out} {rs : List Nat}, (dropK xs n κ).K sq g rs q → n ≤ xs.length ∧ (κ (xs.drop n)).K sq g rs q
  | xs, 0, κ, rs, h => ⟨Nat.zero_le _, by cases xs <;> exact h⟩
  | x :: xs, n + 1, κ, rs, h => by
    obtain ⟨h1, h2⟩ := drop_elim (xs := xs) (n := n) h
    exact ⟨Nat.succ_le_succ h1, h2⟩
  | [], _ + 1, κ, rs, h => h.elim
theorem seg_get (c : List α) (o : Nat) (vs : List α) (hle : o + vs.length ≤ c.length) (k : Nat) :
    (c.take o ++ vs ++ c.drop (o + vs.length))[k]? = if o ≤ k ∧ k < o + vs.length then vs[k - o]? else c[k]? := by
  have ht : (c.take o).length = o := by simp; omega
  by_cases h1 : k < o
  · rw [List.append_assoc, List.getElem?_append_left (by omega), if_neg (by omega), List.getElem?_take, if_pos h1]
  · by_cases h2 : k < o + vs.length
    · rw [List.getElem?_append_left (by simp; omega), List.getElem?_append_right (by omega), if_pos (by omega), ht]
    · rw [List.getElem?_append_right (by simp; omega), if_neg (by omega), List.getElem?_drop]
      congr 1; simp; omega
end
section
variable {h : Array Obj} {g : Hp} {q : Eff → Prop}
def isOw : A → Bool
  | .ow _ _ => true
  | _ => false
theorem xs_ok {d n i fl wd : Nat} {sq : Bool} (hf4 : fl ≠ 4) : ∀ (l : List A) (k j : Nat) (e : List A) (es : List (List A)) (g' : Hp) (φ' : Phi) (κ : List A → List (Nat × Option Ob) → Out) (rs : List Nat),
    HeapOK h g' φ' → g' n = some (some ⟨fl, wd, es⟩) → es[i]? = some e → (∀ t x, l[t]? = some x → e[j + t]? = some x) → (∀ k', k ≤ k' → g (16 * (d + 1) + k') = none → g' (16 * (d + 1) + k') = none) → (xsK d k l κ).K sq g rs q →
    ∃ xs ns φ'' e' rs', (κ xs ns).K sq g rs' q ∧ xs.length = l.length ∧ (ns = [] → xs = l) ∧ (∀ x ∈ xs, isOw x = false) ∧ e'.length = e.length ∧ (∀ t x, xs[t]? = some x → e'[j + t]? = some x) ∧ (∀ p, p < j ∨ j + l.length ≤ p → e'[p]? = e[p]?) ∧
      (∀ y ∈ ns, ∃ k', k ≤ k' ∧ y.1 = 16 * (d + 1) + k') ∧
      HeapOK h (put1 (putH ns g') n (some ⟨fl, wd, es.set i e'⟩)) φ'' ∧ Turn h g' φ' h (put1 (putH ns g') n (some ⟨fl, wd, es.set i e'⟩)) φ'' := by
  intro l
  induction l with
  | nil =>
    intro k j e es g' φ' κ rs hk hn he hl hg hq
    refine ⟨[], [], φ', e, rs, hq, rfl, fun _ => rfl, fun x hx => (by cases hx), rfl, fun t x hx => (by simp at hx), fun p _ => rfl, fun y hy => (by cases hy), ?_⟩
    have hs : es.set i e = es := by
      obtain ⟨hi, rfl⟩ := List.getElem?_eq_some_iff.1 he
      exact List.set_getElem_self hi
    have : put1 (putH [] g') n (some ⟨fl, wd, es.set i e⟩) = g' := by
      funext m
      by_cases hm : m = n
      · subst hm; rw [put1_self, hs, hn]
      · rw [put1_ne _ hm]; rfl
    rw [this]
    exact ⟨hk, Turn.refl _ _ _⟩
  | cons x l ih =>
    intro k j e es g' φ' κ rs hk hn he hl hg hq
    have hcons : ∀ {xs : List A} {y : A} {e1 e' : List A}, e1[j]? = some y → (∀ t x, xs[t]? = some x → e'[j + 1 + t]? = some x) → e'[j]? = e1[j]? → ∀ t x, (y :: xs)[t]? = some x → e'[j + t]? = some x := by
      intro xs y e1 e' h1 h2 h3 t x hx
      cases t with
      | zero => cases hx; rw [Nat.add_zero, h3]; exact h1
      | succ t =>
        rw [show j + (t + 1) = j + 1 + t by omega]
        exact h2 t x hx
    have hxj : e[j]? = some x := by simpa using hl 0 x rfl
    have hl' : ∀ t y, l[t]? = some y → e[j + 1 + t]? = some y := fun t y hy => by
      rw [show j + 1 + t = j + (t + 1) by omega]; exact hl (t + 1) y hy
    by_cases hx : isOw x = true
    · cases x with
      | ow wd' ys =>
        simp only [xsK, Out.K] at hq
        split at hq
        · rename_i hm
          have hm' : g' (16 * (d + 1) + k) = none := hg k (Nat.le_refl _) hm
          obtain ⟨φ1, ok1, t1⟩ := xpl_ok hk hn hf4 hm' he hxj
          have hnm : n ≠ 16 * (d + 1) + k := fun e => by rw [e, hm'] at hn; cases hn
          have hi := (List.getElem?_eq_some_iff.1 he).1
          have hjl := (List.getElem?_eq_some_iff.1 hxj).1
          obtain ⟨xs, ns, φ'', e', rs', h1, h2, h3, h4, h5, h6, h7, h7', h8, h9⟩ := ih (k + 1) (j + 1) (e.set j (.row (16 * (d + 1) + k) 0 ys.length)) (es.set i (e.set j (.row (16 * (d + 1) + k) 0 ys.length))) _ φ1 _ _ ok1
            (by rw [put1_ne _ hnm]; exact put1_self _ _) (by rw [List.getElem?_set_self hi]) (fun t y hy => by rw [List.getElem?_set_ne (by omega)]; exact hl' t y hy)
            (fun k' hk' hg0 => by
              have h0 := hg k' (by omega) hg0
              rw [put1_ne _ (by omega), put1_ne _ (fun e => by rw [← e, h0] at hn; cases hn)]
              exact h0) hq
          have hfin : put1 (putH ns (put1 (put1 g' n (some ⟨fl, wd, es.set i (e.set j (.row (16 * (d + 1) + k) 0 ys.length))⟩)) (16 * (d + 1) + k) (some ⟨0, wd', ys⟩))) n (some ⟨fl, wd, (es.set i (e.set j (.row (16 * (d + 1) + k) 0 ys.length))).set i e'⟩) =
              put1 (putH ((16 * (d + 1) + k, some ⟨0, wd', ys⟩) :: ns) g') n (some ⟨fl, wd, es.set i e'⟩) := by
            rw [List.set_set]
            funext m
            by_cases hmn : m = n
            · subst hmn; rw [put1_self, put1_self]
            · rw [put1_ne _ hmn, put1_ne _ hmn, putH_cons]
              by_cases hmk : m = 16 * (d + 1) + k
              · subst hmk
                rw [put1_self, putH_ne, put1_self]
                intro hc
                obtain ⟨y, hy, e0⟩ := List.mem_map.1 hc
                obtain ⟨k', hk', e1⟩ := h7' y hy
                omega
              · rw [put1_ne _ hmk]
                simp only [putH]
                cases get ns m with
                | some o => rfl
                | none => rw [put1_ne _ hmk, put1_ne _ hmn]
          rw [hfin] at h8 h9
          refine ⟨_, _, φ'', e', rs', h1, by simp [h2], fun h => (by cases h), fun y hy => ?_, by simpa using h5, hcons (e1 := e.set j (.row (16 * (d + 1) + k) 0 ys.length)) (by rw [List.getElem?_set_self hjl]) h6 (h7 j (.inl (by omega))), fun p hp => ?_, fun y hy => ?_, h8, t1.trans h9⟩
          · rcases List.mem_cons.1 hy with rfl | hy
            · rfl
            · exact h4 y hy
          · rw [h7 p (by simp at hp; omega), List.getElem?_set_ne]
            simp at hp; omega
          · rcases List.mem_cons.1 hy with rfl | hy
            · exact ⟨k, Nat.le_refl _, rfl⟩
            · obtain ⟨k', hk', e1⟩ := h7' y hy; exact ⟨k', by omega, e1⟩
        · exact hq.elim
      | _ => cases hx
    · have hq' : (xsK d k l fun xs ns => κ (x :: xs) ns).K sq g rs q := by cases x <;> first | exact hq | exact absurd rfl hx
      obtain ⟨xs, ns, φ'', e', rs', h1, h2, h3, h4, h5, h6, h7, h7', h8, h9⟩ := ih k (j + 1) e es g' φ' _ rs hk hn he hl' hg hq'
      refine ⟨_, _, φ'', e', rs', h1, by simp [h2], fun h => by rw [h3 h], fun y hy => ?_, h5, hcons (e1 := e) hxj h6 (h7 j (.inl (by omega))), fun p hp => h7 p (by simp at hp; omega), h7', h8, h9⟩
      rcases List.mem_cons.1 hy with rfl | hy
      · simpa using hx
      · exact h4 y hy
end
end Go.Proofs.YtecnmodeggnjoaaGreat.Ac
set_option linter.unusedVariables false
set_option linter.unusedSimpArgs false
namespace Go.Proofs.YtecnmodeggnjoaaGreat.Ac
open Go.RowKit
section
variable {P : Program} {tb : Tab} {g : Hp} {φ : Phi} {w : World} {h : Array Obj} {H : Hp}
theorem run_loadW {t : TypeId} {d : TypeDesc} (hu : P.underlying t = some d) (hd : d.aggD = false) {ad : Addr} {u : Value} (hc : w.cell? ad = some u) : (loadVar t ad).run P w = .ok u w := by
  have hagg : (isAgg t).run P w = .ok false w := by
    unfold isAgg
    rw [Sem.run_bind, run_underlying hu w]
    cases d <;> simp_all [TypeDesc.aggD]
  simp [loadVar, Sem.run_bind, hagg, hc]
theorem run_loadS {t : TypeId} {d : TypeDesc} (hu : P.underlying t = some d) (hd : d.aggD = true) {inf : TypeInfo} (hi : P.info? t = some inf) {b off : Nat} {cs : List Value} (hs : inf.size = cs.length)
    (hc : ∀ j v, cs[j]? = some v → w.cell? ⟨b, off + j, none⟩ = some v) : (loadVar t ⟨b, off, none⟩).run P w = .ok (.agg cs.toArray) w := by
  have hl : (loadCells ⟨b, off, none⟩ cs.length).run P w = .ok cs.toArray w :=
    run_loadCells_list (P := P) w ⟨b, off, none⟩ cs fun j v hv => by rw [Addr.add_lit]; exact hc j v hv
  have hagg : (isAgg t).run P w = .ok true w := by
    unfold isAgg
    rw [Sem.run_bind, run_underlying hu w]
    cases d <;> simp_all [TypeDesc.aggD]
  simp [loadVar, Sem.run_bind, hagg, sizeOf, typeInfo, hi, hs, hl]
theorem load_val (hT : TabOK P tb) {t : TypeId} {l : Lay} (hl : tb t = some l) {cs : List A} {us : List Value} (hr : RepC h H φ cs us) {b off : Nat} (hc : ∀ j v, us[j]? = some v → w.cell? ⟨b, off + j, none⟩ = some v)
    (hv : cs.length = l.size) : ∃ u, (loadVar t ⟨b, off, none⟩).run P w = .ok u w ∧ RepT h H φ (mkT l cs) u := by
  cases l with
  | w d z bt =>
    match cs, us, hr, hv with
    | [x], [u], hr, _ =>
      obtain ⟨hu, hd, _⟩ := hT.w t d z bt hl
      exact ⟨u, run_loadW hu hd (hc 0 u rfl), x, rfl, hr.1⟩
    | [x], [], hr, _ => exact hr.elim
    | [x], _ :: _ :: _, hr, _ => exact hr.2.elim
  | st sz z fs bt =>
    obtain ⟨inf, fields, zv, hu, hi, hs, _⟩ := hT.st t sz z fs bt hl
    have hlen : us.length = sz := by rw [hr.length]; exact hv
    exact ⟨.agg us.toArray, run_loadS hu rfl hi (by rw [hlen, hs]) hc, _, rfl, by simpa using hr⟩
theorem getD_cell {b i : Nat} {c : Array Value} {ty : TypeId} {fr : Nat × Nat} (hb : w.heap[b]? = some (.cells c ty fr)) (hi : i < c.size) : w.cell? ⟨b, i, none⟩ = some (c.getD i undef) := by
  rw [cell_of_row w b i c ty fr hb]
  simp [hi]
theorem range_get {n j : Nat} {f : Nat → Value} {v : Value} (h : ((List.range n).map f)[j]? = some v) : j < n ∧ v = f j := by
  rw [List.getElem?_map] at h
  cases hj : (List.range n)[j]? with
  | none => rw [hj] at h; cases h
  | some j' =>
    rw [hj] at h
    cases h
    obtain ⟨hjl, hjj⟩ := List.getElem?_eq_some_iff.1 hj
    simp at hjl hjj
    subst hjj
    exact ⟨hjl, rfl⟩
theorem RepA.toE {X : Place} {x : A} {u : Value} (r : RepA h H φ X x u) (hx : isOw x = false) : RepE h H φ x u := by
  cases r with
  | e X x u r => exact r
  | nilo => cases hx
  | ow => cases hx
theorem ref_row (ok : HeapOK h g φ) {n fl wd : Nat} {es : List (List A)} (hn : g n = some (some ⟨fl, wd, es⟩)) (hf4 : fl ≠ 4) {i off : Nat} {u : Value} (r : RepE h g φ (.pt n i off) u) :
    ∃ hd, φ (n, []) = some hd ∧ u = .pointer (some ⟨hd.b, hd.off + i * wd + off, none⟩) ∧ ∃ c ty, h[hd.b]? = some (.cells c ty (0, 0)) ∧ RowOK wd es hd c ∧ (fl ≠ 0 → es.length = hd.cap) ∧
      ∀ i e j x, es[i]? = some e → e[j]? = some x → RepA h g φ (n, [(i, j)]) x (c.getD (hd.off + i * wd + j) undef) := by
  cases r with
  | pt _ _ _ _ r =>
    have r2 := r.2
    rw [hn] at r2
    obtain ⟨hd, hp, rfl⟩ := r2
    rcases ((ok.ob n _ hn).row hf4) with ⟨_, h0⟩ | ⟨hd', c, ty, h1, h2, h3, h4, h5⟩
    · rw [hp] at h0; cases h0
    · rw [hp] at h1
      cases h1
      exact ⟨hd, hp, rfl, c, ty, h2, h3, h4, h5⟩
theorem RowOK.in {wd : Nat} {es : List (List A)} {hd : Hd} {c : Array Value} (ok : RowOK wd es hd c) {i : Nat} {e : List A} (he : es[i]? = some e) : e.length = wd ∧ hd.off + i * wd + wd ≤ c.size := by
  have hil := (List.getElem?_eq_some_iff.1 he).1
  refine ⟨ok.len e (List.mem_of_getElem? he), ?_⟩
  rw [ok.size, Nat.add_assoc, ← Nat.succ_mul]
  exact Nat.add_le_add_left (Nat.mul_le_mul_right _ (by have := ok.le; omega)) _
theorem load_does (hT : TabOK P tb) (ok : HeapOK w.heap g φ) {d : Nat} {t : TypeId} {l : Lay} (hl : tb t = some l) {x : T} {u : Value} (hx : RepT w.heap g φ x u) (rs : List Nat) :
    DoesO P w g φ (do pure (.value (← Instr.loadAt t u))) rs (loadO d l x) := by
  intro k h
  have fin : ∀ {b off : Nat} {v : T} {rd : List Nat} {us : List (Nat × Option Ob)} {φ' : Phi}, u = .pointer (some ⟨b, off, none⟩) → HeapOK w.heap (putH us g) φ' → Turn w.heap g φ w.heap (putH us g) φ' →
      (∃ u', (loadVar t ⟨b, off, none⟩).run P w = .ok u' w ∧ RepT w.heap (putH us g) φ' v u') → Does P w g φ (do pure (.value (← Instr.loadAt t u))) ⟨v, rd, us⟩ := by
    rintro b off v rd us φ' rfl ok' t' ⟨u', hrun, hv⟩
    exact Does.made (by simp [Instr.loadAt, Instr.sureAddr, hrun]) ok' t' hv rfl rfl rfl (Nat.le_refl _)
  unfold loadO at h
  split at h
  · rename_i n i off
    obtain ⟨fl, wd, es, hn, hf4, h⟩ := alive_elim h
    obtain ⟨e, he, h3, h⟩ := el_elim h
    obtain ⟨hoff, h⟩ := seg_elim h
    obtain ⟨hd, hp, rfl, c, ty, hb, hrow, hfl, hcell⟩ := ref_row ok hn hf4 (rep_one hx)
    obtain ⟨hel, hin⟩ := hrow.in he
    have hseg : ((e.drop off).take l.size).length = l.size := by simp; omega
    obtain ⟨xs, ns, φ'', e', rs', h1, h2, h3', h4, h5, h6, h7, h7', h8, h9⟩ := xs_ok hf4 (h := w.heap) (n := n) (i := i) (fl := fl) (wd := wd) _ 0 off e es g φ _ _ ok hn he (fun t x hx => by
      rw [List.getElem?_take] at hx
      split at hx
      · rw [List.getElem?_drop] at hx; exact hx
      · cases hx) (fun _ _ h => h) h
    have hlen : xs.length = l.size := h2.trans hseg
    have hrep : RepC w.heap (put1 (putH ns g) n (some ⟨fl, wd, es.set i e'⟩)) φ'' xs ((List.range xs.length).map fun t => c.getD (hd.off + i * wd + off + t) undef) := by
      refine RepC_of _ fun t x hx => ?_
      rcases h9.live n _ hn with hdead | ⟨ob', _, hφ, _⟩
      · rw [put1_self] at hdead; cases hdead
      rcases ((h8.ob n _ (put1_self _ _)).row hf4) with ⟨_, g0⟩ | ⟨hd', c', ty', g1, g2, g3, g4, g5⟩
      · rw [hφ, hp] at g0; cases g0
      · rw [hφ, hp] at g1
        cases g1
        rw [hb] at g2
        cases g2
        have := (g5 i e' (off + t) x (List.getElem?_set_self (List.getElem?_eq_some_iff.1 he).1) (h6 t x hx)).toE (h4 x (List.mem_of_getElem? hx))
        rw [← Nat.add_assoc] at this
        exact this
    have hload := load_val (w := w) hT hl hrep (b := hd.b) (off := hd.off + i * wd + off) (fun j v hv => by
      obtain ⟨hj, rfl⟩ := range_get hv
      exact getD_cell hb (by omega)) hlen
    have hee : e.take off ++ xs ++ e.drop (off + xs.length) = e' := by
      apply List.ext_getElem?
      intro p
      rw [seg_get e off xs (by omega)]
      split
      · rename_i hp
        have hpx : p - off < xs.length := by omega
        have := h6 (p - off) xs[p - off] (by simp [hpx])
        rw [show off + (p - off) = p by omega] at this
        rw [this]; simp [hpx]
      · rename_i hp
        exact (h7 p (by rw [hseg, ← hlen]; omega)).symm
    cases ns with
    | nil =>
      have hxs := h3' rfl
      have he' : e' = e := by
        rw [← hee, hxs, hseg]
        rw [show e.take off ++ (e.drop off).take l.size ++ e.drop (off + l.size) = e by rw [List.append_assoc, ← List.drop_drop, List.take_append_drop, List.take_append_drop]]
      have hg : put1 (putH [] g) n (some ⟨fl, wd, es.set i e'⟩) = putH [] g := by
        rw [he']
        obtain ⟨hi, rfl⟩ := List.getElem?_eq_some_iff.1 he
        rw [List.set_getElem_self hi]
        funext m
        by_cases hm : m = n
        · subst hm; rw [put1_self]; exact hn.symm
        · rw [put1_ne _ hm]
      rw [hg] at h8 h9 hload
      exact ⟨_, h1, fin rfl h8 h9 hload⟩
    | cons y ns =>
      obtain ⟨_, h1⟩ := splice_elim h1
      have h1 := set_elim h3 h1
      rw [hee] at h1
      refine ⟨_, h1, ?_⟩
      rw [← putH_cons] at h8 h9 hload
      exact fin rfl h8 h9 hload
  · rename_i y
    obtain ⟨hs, h⟩ := tak_elim h
    have h := allF_elim h
    have r := rep_one hx
    cases r with
    | f _ _ r =>
      cases r with
      | pv _ b off c ty fr he hb hO hsz hr =>
        refine ⟨_, h, fin rfl ok (Turn.refl _ _ _) (load_val (w := w) (us := (List.range l.size).map fun j => c.getD (off + j) undef) hT hl ?_ (fun j v hv => ?_) (by simp; omega))⟩
        · have hlen : ((y.take l.size).map A.f).length = l.size := by simp; omega
          have := RepC_of (h := w.heap) (H := putH [] g) (φ := φ) (xs := (y.take l.size).map A.f) (fun j => c.getD (off + j) undef) fun j x hx => ?_
          · rw [hlen] at this; exact this
          · rw [List.getElem?_map, List.getElem?_take] at hx
            split at hx
            · cases hxx : y[j]? with
              | none => rw [hxx] at hx; cases hx
              | some x' => rw [hxx] at hx; cases hx; exact .f _ _ (hr j x' hxx)
            · cases hx
        · obtain ⟨hj, rfl⟩ := range_get hv
          exact getD_cell hb (by omega)
  · exact h.elim
theorem tab_size (hT : TabOK P tb) {i : Nat} {l : Lay} (hl : tb i = some l) : ∃ inf, P.info? i = some inf ∧ inf.size = l.size ∧ inf.bytes = l.bt := by
  cases l with
  | w d z bt => obtain ⟨_, _, inf, zv, h1, h2, _, _, _, h3⟩ := hT.w i d z bt hl; exact ⟨inf, h1, h2, h3⟩
  | st sz z fs bt => obtain ⟨inf, _, zv, _, h1, h2, _, _, _, _, h3, _⟩ := hT.st i sz z fs bt hl; exact ⟨inf, h1, h2, h3⟩
theorem run_storeV {t : TypeId} {inf : TypeInfo} (hi : P.info? t = some inf) {b off : Nat} {c : Array Value} {ty : TypeId} (hb : w.heap[b]? = some (.cells c ty (0, 0))) {v : Value} (hs : v.cells.toList.length = inf.size)
    (h1 : ∀ x ∈ v.cells.toList, x.oneCell' = true) (hfit : off + v.cells.toList.length ≤ c.size) :
    (do Instr.storeAt t (.pointer (some ⟨b, off, none⟩)) v; pure Next.skip : Sem Next).run P w = .ok .skip (w.setRow b (c.toList.take off ++ v.cells.toList ++ c.toList.drop (off + v.cells.toList.length)).toArray) := by
  have := run_storeCells_at P b off ty v.cells.toList 0 c w hb (by simpa using hfit) h1
  simp only [Nat.add_zero] at this
  have hs' : v.cells.size = inf.size := by simpa using hs
  simp [Instr.storeAt, Instr.sureAddr, storeVar, sizeOf, typeInfo, hi, hs', this]
theorem seg_getD (c : Array Value) (o : Nat) (vs : List Value) (hle : o + vs.length ≤ c.size) (k : Nat) :
    ((c.toList.take o ++ vs ++ c.toList.drop (o + vs.length)).toArray).getD k undef = if o ≤ k ∧ k < o + vs.length then vs.getD (k - o) undef else c.getD k undef := by
  have := seg_get c.toList o vs (by simpa using hle) k
  simp only [Array.getD_eq_getD_getElem?, List.getElem?_toArray, this]
  split <;> simp
theorem write_ok (ok : HeapOK w.heap g φ) {n fl wd : Nat} (hf4 : fl ≠ 4) {es es' : List (List A)} (hn : g n = some (some ⟨fl, wd, es⟩)) {hd : Hd} {c : Array Value} {ty : TypeId} (hp : φ (n, []) = some hd) (hb : w.heap[hd.b]? = some (.cells c ty (0, 0)))
    (hrow : RowOK wd es hd c) (hfl : fl ≠ 0 → es.length = hd.cap) (hcell : ∀ i e j x, es[i]? = some e → e[j]? = some x → RepA w.heap g φ (n, [(i, j)]) x (c.getD (hd.off + i * wd + j) undef))
    {o : Nat} {vs : List Value} (hle : o + vs.length ≤ c.size) (h1 : ∀ x ∈ vs, x.oneCell' = true) (hlen : ∀ e ∈ es', e.length = wd) (hl : es'.length = es.length)
    (hnew : ∀ i e' j x, es'[i]? = some e' → e'[j]? = some x → (o ≤ hd.off + i * wd + j ∧ hd.off + i * wd + j < o + vs.length ∧ RepE w.heap g φ x (vs.getD (hd.off + i * wd + j - o) undef)) ∨
      (¬ (o ≤ hd.off + i * wd + j ∧ hd.off + i * wd + j < o + vs.length) ∧ ∃ e, es[i]? = some e ∧ e[j]? = some x)) :
    HeapOK (w.setRow hd.b (c.toList.take o ++ vs ++ c.toList.drop (o + vs.length)).toArray).heap (put1 g n (some ⟨fl, wd, es'⟩)) φ ∧
    Turn w.heap g φ (w.setRow hd.b (c.toList.take o ++ vs ++ c.toList.drop (o + vs.length)).toArray).heap (put1 g n (some ⟨fl, wd, es'⟩)) φ := by
  have hs2 : ((c.toList.take o ++ vs ++ c.toList.drop (o + vs.length)).toArray).size = c.size := by simp only [List.size_toArray, List.length_append, List.length_take, List.length_drop, Array.length_toList]; omega
  refine upd_ok ok hf4 hn hp (fun m hm => setRow_other w hd.b m _ hm) (setRow_heap w hd.b c _ ty _ hb) rfl (by dsimp only; omega) ⟨hrow.wd0, hlen, by dsimp only; rw [hl]; exact hrow.le, hrow.cap, hs2.trans hrow.size, fun k hk => ?_⟩ (fun h => by dsimp only; rw [hl]; exact hfl h) fun i e' j x he' hx => ?_
  · rw [seg_getD c o vs hle]
    split
    · rename_i hk2
      have hkl : k - o < vs.length := by omega
      rw [List.getD_eq_getElem?_getD, List.getElem?_eq_getElem hkl]
      exact h1 _ (List.getElem_mem _)
    · exact hrow.one k (by rw [hs2] at hk; exact hk)
  · rw [seg_getD c o vs hle]
    rcases hnew i e' j x he' hx with ⟨a1, a2, a3⟩ | ⟨a1, e, a2, a3⟩
    · rw [if_pos ⟨a1, a2⟩]; exact .e _ _ _ a3
    · rw [if_neg a1]; exact hcell i e j x a2 a3
theorem idx_lt {i i' j wd : Nat} (h : i < i') (hj : j < wd) : i * wd + j < i' * wd := by
  have := Nat.mul_le_mul_right wd (Nat.succ_le_of_lt h)
  rw [Nat.succ_mul] at this
  omega
theorem store_does (hT : TabOK P tb) (ok : HeapOK w.heap g φ) {t : TypeId} {l : Lay} (hl : tb t = some l) {x y : T} {u v : Value} (hx : RepT w.heap g φ x u) (hy : RepT w.heap g φ y v) (rs : List Nat) :
    DoesO P w g φ (do Instr.storeAt t u v; pure .skip) rs (storeO l x y) := by
  intro k h
  obtain ⟨inf, hi, hsz, _⟩ := tab_size hT hl
  unfold storeO at h
  split at h
  · rename_i n i off ag cs
    obtain ⟨h0, h⟩ := cond_K h
    have hcl : cs.length = l.size := Nat.eq_of_beq_eq_true h0
    obtain ⟨fl, wd, es, hn, hf4, h⟩ := alive_elim h
    obtain ⟨e, he, h3, h⟩ := el_elim h
    obtain ⟨hoff, h⟩ := splice_elim h
    have h := set_elim h3 h
    obtain ⟨hd, hp, rfl, c, ty, hb, hrow, hfl, hcell⟩ := ref_row ok hn hf4 (rep_one hx)
    obtain ⟨hel, hin⟩ := hrow.in he
    have rc := rep_cells hy
    have hvl := rc.length
    have hfit : hd.off + i * wd + off + v.cells.toList.length ≤ c.size := by rw [hvl]; omega
    have hrun := run_storeV (P := P) (w := w) hi hb (v := v) (by rw [hvl, hcl, hsz]) rc.one hfit
    have hil := (List.getElem?_eq_some_iff.1 he).1
    obtain ⟨ok', t'⟩ := write_ok ok hf4 hn hp hb hrow hfl hcell (es' := es.set i (e.take off ++ cs ++ e.drop (off + cs.length))) hfit rc.one (fun e' he' => by
        rcases List.mem_or_eq_of_mem_set he' with h | rfl
        · exact hrow.len e' h
        · simp; omega) (by simp) fun i' e' j x' he' hx' => by
      have hjl : j < wd := by
        have := (List.getElem?_eq_some_iff.1 hx').1
        rcases List.mem_or_eq_of_mem_set (List.mem_of_getElem? he') with h | rfl
        · rw [hrow.len e' h] at this; exact this
        · simp at this; omega
      by_cases hii : i = i'
      · subst hii
        rw [List.getElem?_set_self hil] at he'
        cases he'
        rw [seg_get e off cs hoff] at hx'
        split at hx'
        · rename_i hj
          obtain ⟨u, hu, ru⟩ := rc.at hx'
          refine .inl ⟨by omega, by rw [hvl]; omega, ?_⟩
          rw [show hd.off + i * wd + j - (hd.off + i * wd + off) = j - off by omega, List.getD_eq_getElem?_getD, hu]
          exact ru
        · rename_i hj
          exact .inr ⟨by rw [hvl]; omega, e, he, hx'⟩
      · rw [List.getElem?_set_ne hii] at he'
        refine .inr ⟨?_, e', he', hx'⟩
        rw [hvl]
        rintro ⟨a1, a2⟩
        rcases Nat.lt_or_gt_of_ne hii with hlt | hgt
        · have := Nat.mul_le_mul_right wd (Nat.succ_le_of_lt hlt)
          rw [Nat.succ_mul] at this
          omega
        · have := idx_lt (j := j) hgt hjl; omega
    rw [← putH_one] at ok' t'
    exact ⟨_, h, Does.skip hrun ok' t' rfl rfl rfl (by simp [World.setRow])⟩
  · exact h.elim
end
end Go.Proofs.YtecnmodeggnjoaaGreat.Ac
