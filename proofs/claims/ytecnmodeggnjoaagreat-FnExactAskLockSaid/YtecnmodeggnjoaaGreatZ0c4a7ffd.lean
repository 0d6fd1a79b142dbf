/- Several of our texts, one behind the other, without what this claim does not need: AcP. -/
import Derived.Test.YtecnmodeggnjoaaGreatZ887406d6
set_option linter.unusedVariables false
set_option linter.unusedSimpArgs false
namespace Go.Proofs.YtecnmodeggnjoaaGreat.Ac
open Go.RowKit
section
variable {P : Program} {tb : Tab} {g : Hp} {φ : Phi} {w : World} {h : Array Obj} {H : Hp}
theorem src_zero {l : Lay} {zv : Value} {n : Nat} (hzs : zv.cells.size = l.size) (hzr : RepC w.heap g φ l.zero zv.cells.toList) : Src w g φ l.size (List.replicate n l.zero) n (Builtin.zeroCells zv.cells n).toList := by
  have hzl := hzr.length
  refine ⟨by simp, fun e he => ?_, by simp [size_zeroCells, hzs], fun x hx => ?_, fun i e j x hi hj => ?_⟩
  · rw [List.eq_of_mem_replicate he, ← hzl]; simpa using hzs
  · obtain ⟨q, hq, rfl⟩ := List.mem_iff_getElem.1 hx
    have hq' : q < (Builtin.zeroCells zv.cells n).size := by simpa using hq
    have := zero_one (k := q) hzr.one hq'
    simpa [hq'] using this
  · have hin : i < n := by have := (List.getElem?_eq_some_iff.1 hi).1; simpa using this
    rw [List.getElem?_replicate, if_pos hin] at hi
    cases hi
    have hjl := (List.getElem?_eq_some_iff.1 hj).1
    obtain ⟨u, hu, ru⟩ := hzr.at hj
    have e0 : (Builtin.zeroCells zv.cells n).toList.getD (i * l.size + j) undef = (Builtin.zeroCells zv.cells n).getD (i * l.size + j) undef := by simp [List.getD_eq_getElem?_getD]
    rw [e0, zero_get hzs hin (by rw [← hzl] at hjl; simpa [hzs] using hjl)]
    have : zv.cells.getD j undef = u := by simp [show zv.cells[j]? = some u by simpa using hu]
    rw [this]; exact ru
theorem row_len (ok : HeapOK h g φ) {n lo hi fl wd : Nat} {es : List (List A)} (hn : g n = some (some ⟨fl, wd, es⟩)) (hf4 : fl ≠ 4) {u : Value} (r : RefRow g φ n lo hi u) : lo ≤ hi ∧ hi ≤ es.length ∧ ∃ a cap, u = .slice a (hi - lo) cap := by
  have r3 := r.2
  rw [hn] at r3
  obtain ⟨h1, h2, r3⟩ := r3
  refine ⟨h1, h2, ?_⟩
  cases hp : φ (n, []) with
  | none =>
    rw [hp] at r3
    obtain ⟨a', rfl⟩ := r3
    rcases ((ok.ob n _ hn).row hf4) with ⟨h3, _⟩ | ⟨hd', c, ty, g1, _⟩
    · simp only at h3; subst h3; simp at h2
      exact ⟨a', 0, by rw [h2, Nat.zero_sub]⟩
    · rw [hp] at g1; cases g1
  | some hd => rw [hp] at r3; obtain ⟨a', rfl, _⟩ := r3; exact ⟨_, _, rfl⟩
theorem clear_does (hT : TabOK P tb) (ok : HeapOK w.heap g φ) {t el : TypeId} {z : A} {bt : Nat} {l : Lay} (ht : tb t = some (.w (.slice el) z bt)) (hl : tb el = some l) {x : T} {vx : Value} (hx : RepT w.heap g φ x vx) (ty : TypeId) (cn : Array Bool) (rs : List Nat) :
    DoesO P w g φ (builtin .clear #[t] ty cn #[vx]) rs (clearO l x) := by
  obtain ⟨ht', _⟩ := hT.w t _ z bt ht
  obtain ⟨inf, zv, hi, hsz, hbt, hz, hzs, hzr⟩ := tab_zero hT hl w.heap g φ
  intro k h
  unfold clearO at h
  split at h
  · rename_i n lo hi'
    obtain ⟨fl, wd, es, hn, hf4, hB⟩ := alive_elim h
    clear h
    obtain ⟨hb, hB⟩ := cond_K hB
    have e1 := Nat.eq_of_beq_eq_true hb
    subst e1
    obtain ⟨es', hes', h⟩ := hB
    have r := rep_one hx
    have r2 : RefRow g φ n lo hi' vx := by cases r; assumption
    obtain ⟨h1, h2, a, cap, rfl⟩ := row_len ok hn hf4 r2
    rcases Nat.eq_zero_or_pos (hi' - lo) with h0 | h0
    · have : hi' = lo := by omega
      subst this
      simp only [Nat.sub_self, List.replicate_zero, List.append_nil, List.take_append_drop] at hes'
      subst hes'
      rw [Nat.sub_self]
      refine ⟨_, h, Does.made (u := .tuple #[]) (φ' := φ) (w' := w) ?_ ?_ ?_ trivial rfl rfl rfl (Nat.le_refl _)⟩
      · cases a <;> simp [builtin, Builtin.clear_, run_underlying ht']
      · rw [putH_one, put1_same hn]; exact ok
      · rw [putH_one, put1_same hn]; exact Turn.refl _ _ _
    · obtain ⟨b, off, c, ty', cap', hu, hbk, hfit, ok', t'⟩ := write_slice ok hn hf4 r2 (src_zero (n := hi' - lo) hzs hzr) (by omega) h0
      cases hu
      rw [show lo + (hi' - lo) = hi' by omega, hes', ← putH_one] at ok' t'
      have hone := (src_zero (w := w) (n := hi' - lo) hzs hzr).one
      have hst := run_storeCells_at P b off ty' (Builtin.zeroCells zv.cells (hi' - lo)).toList 0 c w hbk (by simpa using hfit) hone
      simp only [Nat.add_zero] at hst
      generalize hkk : hi' - lo = kk at *
      obtain ⟨q, rfl⟩ : ∃ q, kk = q + 1 := ⟨kk - 1, by omega⟩
      refine ⟨_, h, Does.made (u := .tuple #[]) ?_ ok' t' trivial rfl rfl rfl (by simp [World.setRow])⟩
      simp [builtin, Builtin.clear_, run_underlying ht', zeroValue, typeInfo, hi, hz, hst]
  · have r := rep_one hx
    cases r with
    | nl a => exact ⟨_, h, Does.value ok (u := .tuple #[]) (by cases a <;> simp [builtin, Builtin.clear_, run_underlying ht']) trivial⟩
  · exact h.elim
theorem elc_elim {le : Option Lay} {wd : Nat} {o : Out} {rs : List Nat} {k : Eff → Prop} (h : (elc le wd o).K true g rs k) : ∃ l, le = some l ∧ l.size = wd ∧ o.K true g rs k := by
  unfold elc at h
  split at h
  · obtain ⟨h0, h⟩ := cond_K h
    exact ⟨_, rfl, Nat.eq_of_beq_eq_true h0, h⟩
  · exact h.elim
theorem elk_elim {le : Option Lay} {o : Out} {rs : List Nat} {k : Eff → Prop} (h : (elk le o).K true g rs k) : ∃ l, le = some l ∧ o.K true g rs k := by
  unfold elk at h
  split at h
  · exact ⟨_, rfl, h⟩
  · exact h.elim
theorem slice_does (hT : TabOK P tb) (ok : HeapOK w.heap g φ) {d : Nat} {t : TypeId} {l : Lay} (hl : tb t = some l) {le : Option Lay} {x : T} {u : Value} (hx : RepT w.heap g φ x u) {lo hi mx : Option T} {ul uh um : Option Value} (hlo : ∀ x, lo = some x → ∃ u, ul = some u ∧ RepT w.heap g φ x u) (hlo0 : lo = none → ul = none)
    (hhi : ∀ x, hi = some x → ∃ u, uh = some u ∧ RepT w.heap g φ x u) (hhi0 : hi = none → uh = none) (hmx : ∀ x, mx = some x → ∃ u, um = some u ∧ RepT w.heap g φ x u) (hmx0 : mx = none → um = none) (rs : List Nat) (hel : ∀ el z bt, l = .w (.slice el) z bt → le = tb el) :
    DoesO P w g φ (do pure (.value (← Instr.sliceAt t u ul uh um))) rs (sliceO d l le x lo hi mx) := by
  -- a slice of a slice
  have sl : ∀ {el : TypeId} {z : A} {bt : Nat}, l = .w (.slice el) z bt → ∀ {ll : Lay}, le = some ll → ∀ {ad : Option Addr} {len cap a b : Nat}, u = .slice ad len cap → um = none → bndP lo 0 a → bndP hi len b → a ≤ b → b ≤ cap →
      (do pure (.value (← Instr.sliceAt t u ul uh um)) : Sem Next).run P w = .ok (.value (.slice (if cap = a then ad else ad.map (·.add (a * ll.size))) (b - a) (cap - a))) w := by
    rintro el z bt rfl ll hle ad len cap a b rfl rfl ha hb hab hbc
    obtain ⟨hu, _⟩ := hT.w t _ z bt hl
    have hle' := (hel el z bt rfl).symm.trans hle
    obtain ⟨inf, hi', hs, _⟩ := tab_size hT hle'
    have := bounds_run (P := P) (w := w) (isS := true) (cap := cap) hlo hlo0 hhi hhi0 ha hb hab hbc
    simp [Instr.sliceAt, Instr.slice, run_underlying hu, this, sizeOf, typeInfo, hi', hs]
  have sl0 : ∀ {el : TypeId} {z : A} {bt : Nat}, l = .w (.slice el) z bt → ∀ {ll : Lay}, le = some ll → ∀ {ad : Option Addr} {len cap : Nat} {i1 i2 : IntKind}, u = .slice ad len cap → lo = none → hi = some (.val false [.f (.v (.int i1 0))]) → mx = some (.val false [.f (.v (.int i2 0))]) →
      ∃ a', (do pure (.value (← Instr.sliceAt t u ul uh um)) : Sem Next).run P w = .ok (.value (.slice a' 0 0)) w := by
    rintro el z bt rfl ll hle ad len cap i1 i2 rfl rfl rfl rfl
    obtain ⟨hu, _⟩ := hT.w t _ z bt hl
    have hle' := (hel el z bt rfl).symm.trans hle
    obtain ⟨inf, hi', hs, _⟩ := tab_size hT hle'
    obtain ⟨u1, rfl, r1⟩ := hhi _ rfl
    obtain ⟨u2, rfl, r2⟩ := hmx _ rfl
    cases v_rep r1
    cases v_rep r2
    rw [hlo0 rfl]
    refine ⟨ad, ?_⟩
    simp [Instr.sliceAt, Instr.slice, run_underlying hu, Instr.sliceBounds, Instr.sliceBound, asIntOf, sizeOf, typeInfo, hi']
  intro k h
  unfold sliceO at h
  split at h
  · have hm := hmx0 rfl
    split at h
    · rename_i z bt s
      obtain ⟨hu, _⟩ := hT.w t _ z bt hl
      obtain ⟨⟨a, b⟩, ⟨ha, hb, hab, hbs⟩, h⟩ := h
      cases v_rep hx
      have := bounds_run (P := P) (w := w) (isS := false) (cap := s.size) hlo hlo0 hhi hhi0 ha hb hab hbs
      dsimp only at this h
      subst hm
      exact ⟨_, h, Does.value ok (u := .string (s.extract a b)) (by simp [Instr.sliceAt, Instr.slice, run_underlying hu, this]) (tS_rep _)⟩
    · rename_i el z bt wd es
      obtain ⟨ll, hle, hwd, hA⟩ := elc_elim h
      clear h
      obtain ⟨⟨a, b, es'⟩, ⟨ha, hb, hab, hbs, hes'⟩, h⟩ := hA
      dsimp only at ha hb hab hbs hes' h
      have r := rep_one hx
      cases r with
      | f _ _ r =>
      cases r with
      | nil _ ad cap =>
        have hb0 : b = 0 := by simpa using hbs
        have ha0 : a = 0 := by omega
        subst hb0 ha0
        refine ⟨_, h, Does.value ok (sl rfl hle rfl hm ha hb (Nat.le_refl _) (Nat.zero_le _)) ⟨_, rfl, .f _ _ ?_⟩⟩
        have : es' = [] := by simpa using hes'.symm
        subst this
        exact .nil _ _ _
      | sl _ _ bb off cap c ty fr hw he hbk hO hlen hs hc hr =>
        refine ⟨_, h, Does.value ok (sl rfl hle rfl hm ha hb hab (Nat.le_trans hbs hc)) ⟨_, rfl, .f _ _ ?_⟩⟩
        have hl2 : es'.length = b - a := by rw [← hes']; simp; omega
        by_cases hlt : a = b
        · have : es' = [] := List.eq_nil_of_length_eq_zero (by omega)
          subst this
          rw [hlt, Nat.sub_self]
          exact .nil _ _ _
        · rw [if_neg (by omega), ← hl2]
          have ead : (some (⟨bb, off, none⟩ : Addr)).map (·.add (a * ll.size)) = some ⟨bb, off + a * wd, none⟩ := by rw [hwd, Option.map_some, Addr.add_lit]
          rw [ead]
          refine .sl wd es' bb (off + a * wd) (cap - a) c ty fr hw (fun e => by rw [e] at hl2; simp at hl2; omega) hbk hO (fun e he => ?_) ?_ (by omega) fun i e j x hi' hj => ?_
          · rw [← hes'] at he; exact hlen e (List.mem_of_mem_take (List.mem_of_mem_drop he))
          · rw [hl2, Nat.add_assoc, ← Nat.add_mul]
            have := Nat.mul_le_mul_right wd (show a + (b - a) ≤ es.length by omega)
            omega
          · rw [← hes', List.getElem?_drop, List.getElem?_take] at hi'
            split at hi'
            · have := hr _ e j x hi' hj
              rw [Nat.add_mul] at this
              rw [show off + a * wd + i * wd + j = off + (a * wd + i * wd) + j by omega]
              exact this
            · cases hi'
    · rename_i el z bt
      obtain ⟨ll, hle, ⟨ha, hb⟩, h⟩ := elk_elim h
      have r := rep_one hx
      cases r with
      | nl ad =>
        refine ⟨_, h, Does.value ok (sl rfl hle rfl hm ha hb (Nat.le_refl _) (Nat.le_refl _)) ⟨_, rfl, ?_⟩⟩
        exact .nl _
    · rename_i el z bt n p q
      obtain ⟨fl, wd, es, hn, hf4, hA⟩ := alive_elim h
      clear h
      obtain ⟨ll, hle, hwd, hB⟩ := elc_elim hA
      clear hA
      have r := rep_one hx
      have r2 : RefRow g φ n p q u := by cases r; assumption
      obtain ⟨h1, h2, ad0, cap0, hu0⟩ := row_len ok hn hf4 r2
      have r3 := r2.2
      rw [hn] at r3
      obtain ⟨_, _, r3⟩ := r3
      dsimp only at h2 r3
      have key : ∀ a b : Nat, bndP lo 0 a → bndP hi (q - p) b → a ≤ b → (p + b ≤ q ∨ (p = 0 ∨ p < q) ∧ p + b ≤ es.length) → Does P w g φ (do pure (.value (← Instr.sliceAt t u ul uh um))) ⟨.val false [.row n (p + a) (p + b)], n :: rs, []⟩ := by
        intro a b ha hb hab hbs
        have hbe : p + b ≤ es.length := by omega
        rcases ((ok.ob n _ hn).row hf4) with ⟨hes, hp⟩ | ⟨hd, c, ty', g1, g2, g3, g4, g5⟩
        · rw [hp] at r3
          obtain ⟨a', rfl⟩ := r3
          dsimp only at hes
          subst hes
          have e1 : p = 0 := by simp at hbe; omega
          have e2 : b = 0 := by simp at hbe; omega
          have e3 : a = 0 := by omega
          have e4 : q = 0 := by simp at h2; omega
          subst e1 e2 e3 e4
          refine Does.value ok (sl rfl hle rfl hm ha hb (Nat.le_refl _) (Nat.le_refl _)) ⟨_, rfl, .row _ _ _ _ (RefRow.mk' hn (Nat.le_refl _) (Nat.le_refl _) ?_)⟩
          rw [hp]; exact ⟨_, rfl⟩
        · rw [g1] at r3
          obtain ⟨a', rfl, ha'⟩ := r3
          dsimp only at g3 g4
          have hcap : p + b ≤ hd.cap := by have := g3.le; omega
          refine Does.value ok (sl rfl hle rfl hm ha hb hab (by omega)) ⟨_, rfl, .row _ _ _ _ (RefRow.mk' hn (by omega) hbe ?_)⟩
          rw [g1]
          refine ⟨_, by rw [show b - a = p + b - (p + a) by omega, show hd.cap - p - a = hd.cap - (p + a) by omega], fun hne => ?_⟩
          by_cases hca : hd.cap - p = a
          · rw [if_pos hca]
            have hpc : p ≤ hd.cap := by have := g3.le; omega
            have : p + a = 0 := by omega
            have hp0 : p = 0 := by omega
            have ha0 : a = 0 := by omega
            rw [ha' (.inl hp0), hp0, ha0]
          · rw [if_neg hca]
            rw [ha' (by omega), Option.map_some, Addr.add_lit, hwd, Nat.add_mul, Nat.add_assoc]
      cases hb : Nat.beq p 0
      · rw [hb] at hB
        obtain ⟨⟨a, b⟩, ⟨ha, hb, hab, hbs⟩, h⟩ := hB
        exact ⟨_, h, key a b ha hb hab (hbs.imp id fun h => ⟨.inr h.1, h.2⟩)⟩
      · rw [hb] at hB
        have := Nat.eq_of_beq_eq_true hb
        subst this
        have row : (slRow n q es lo hi).K true g (n :: rs) k → ∃ ε, k ε ∧ Does P w g φ (do pure (.value (← Instr.sliceAt t u ul uh um))) ε := by
          rintro ⟨⟨a, b⟩, ⟨ha, hb, hab, hbs⟩, h⟩
          have := key a b ha hb hab (by rw [Nat.zero_add]; exact hbs.imp id fun h => ⟨.inl rfl, h⟩)
          simp only [Nat.zero_add] at this
          exact ⟨_, h, this⟩
        dsimp only [cond_true] at hB
        split at hB
        · rename_i zz hop
          obtain ⟨hB1, hB2⟩ := hB
          by_cases hzq : zz ≤ (q : Int)
          · exact row (hB1 hzq)
          · obtain ⟨⟨b, es'⟩, ⟨hz1, hz2, hz3⟩, h⟩ := hB2 hzq
            dsimp only at hz1 hz2 hz3 h
            have hbq : q < b := by omega
            unfold openHi at hop
            split at hop
            · cases hop
              dsimp only [Out.K] at h
              split at h
              · rename_i hm'
                rcases ((ok.ob n _ hn).row hf4) with ⟨hes, hp⟩ | ⟨hd, c, ty', g1, g2, g3, g4, g5⟩
                · dsimp only at hes; subst hes; simp at hz2; omega
                · rw [g1] at r3
                  obtain ⟨a', rfl, ha'⟩ := r3
                  dsimp only at g3 g4 g5
                  have hcap : b ≤ hd.cap := by have := g3.le; omega
                  have hlen : es'.length = b := by rw [← hz3]; simp; omega
                  obtain ⟨φ', ok', t', hp'⟩ := shift_ok (h' := w.heap) (ob' := ⟨0, wd, es'⟩) (hd := hd) ok (fun h => by cases h) hn hm' (Nat.le_refl _) (fun _ _ _ => rfl) (.inr ⟨hd, g1, rfl⟩) g2
                    ⟨g3.wd0, fun e he => g3.len e (by rw [← hz3] at he; exact List.mem_of_mem_take he), by dsimp only; omega, g3.cap, g3.size, g3.one⟩ (fun h => absurd rfl h) (fun i e j x hi hj => by
                      dsimp only at hi
                      rw [← hz3, List.getElem?_take] at hi
                      split at hi
                      · exact g5 i e j x hi hj
                      · cases hi)
                  have hrun := sl rfl hle rfl hm (a := 0) (b := b) rfl hz1 (Nat.zero_le _) (by omega)
                  refine ⟨_, h, Does.made hrun (by rw [putH_cons, putH_one]; exact ok') (by rw [putH_cons, putH_one]; exact t') (by
                    rw [putH_cons, putH_one]
                    refine ⟨_, rfl, .row _ _ _ _ ?_⟩
                    have e1 : (if hd.cap - 0 = 0 then a' else a'.map (·.add (0 * ll.size))) = some ⟨hd.b, hd.off, none⟩ := by
                      rw [if_neg (by omega), ha' (.inl rfl), Option.map_some, Addr.add_lit]; simp
                    rw [e1]
                    simp only [Nat.sub_zero]
                    exact RefRow.full (put1_self _ _) hp' hlen.symm) rfl rfl rfl (Nat.le_refl _)⟩
              · exact h.elim
            · cases hop
        · exact row hB
    · exact h.elim
  · rename_i m0
    split at h
    · rename_i lo0
      split at h
      · rename_i el z bt n p q hi0
        obtain ⟨fl, wd, es, hn, hf4, hA⟩ := alive_elim h
        clear h
        obtain ⟨ll, hle, ⟨a, b, c⟩, ⟨ha, hb, hc, hab, hbc, hcq⟩, h⟩ := elk_elim hA
        dsimp only at ha hb hc hab hbc hcq h
        obtain ⟨hu, _⟩ := hT.w t _ z bt hl
        have hle' := (hel el z bt rfl).symm.trans hle
        obtain ⟨inf, hi', hs, _⟩ := tab_size hT hle'
        have r := rep_one hx
        have r2 : RefRow g φ n p q u := by cases r; assumption
        obtain ⟨_, _, ad, cap, rfl⟩ := row_len ok hn hf4 r2
        have hqc : c ≤ cap := by
          have r3 := r2.2
          rw [hn] at r3
          obtain ⟨h1, h2, r3⟩ := r3
          dsimp only at h2
          cases hp : φ (n, []) with
          | none =>
            rcases ((ok.ob n _ hn).row hf4) with ⟨h3, _⟩ | ⟨hd', c', ty, g1, _⟩
            · dsimp only at h3; subst h3; simp at h2; omega
            · rw [hp] at g1; cases g1
          | some hd =>
            rw [hp] at r3
            obtain ⟨a', e, _⟩ := r3
            cases e
            rcases ((ok.ob n _ hn).row hf4) with ⟨_, h3⟩ | ⟨hd', c', ty, g1, g2, g3, _⟩
            · rw [hp] at h3; cases h3
            · rw [hp] at g1
              cases g1
              have := g3.le
              dsimp only at this
              omega
        obtain ⟨u1, rfl, r1⟩ := hlo _ rfl
        obtain ⟨u2, rfl, r2'⟩ := hhi _ rfl
        obtain ⟨u3, rfl, r3'⟩ := hmx _ rfl
        have b3 := fun code => bound_run (P := P) (w := w) r3' hc hqc code
        have b2 := fun code => bound_run (P := P) (w := w) r2' hb hbc code
        have b1 := fun code => bound_run (P := P) (w := w) r1 ha hab code
        refine ⟨_, h, Does.value ok (u := .slice (if c = a then ad else ad.map (·.add (a * ll.size))) (b - a) (c - a)) ?_ ⟨_, rfl, .un _ _ rfl fun n hn => by cases hn; exact ⟨_, _, rfl⟩⟩⟩
        simp [Instr.sliceAt, Instr.slice, run_underlying hu, Instr.sliceBounds, b1, b2, b3, sizeOf, typeInfo, hi', hs]
      · exact h.elim
    · split at h
      · split at h
        · obtain ⟨ll, hle, hA⟩ := elk_elim h
          clear h
          obtain ⟨fl, wd, es, hn, hf4, h⟩ := alive_elim hA
          have r := rep_one hx
          have r2 := by cases r; assumption
          obtain ⟨_, _, ad, cap, hu⟩ := row_len ok hn hf4 r2
          obtain ⟨a', hrun⟩ := sl0 rfl hle hu rfl rfl rfl
          exact ⟨_, h, Does.value ok hrun ⟨_, rfl, .nl _⟩⟩
        · obtain ⟨ll, hle, h⟩ := elk_elim h
          have r := rep_one hx
          cases r with
          | f _ _ r =>
          cases r with
          | nil => obtain ⟨a', hrun⟩ := sl0 rfl hle rfl rfl rfl rfl; exact ⟨_, h, Does.value ok hrun ⟨_, rfl, .nl _⟩⟩
          | sl => obtain ⟨a', hrun⟩ := sl0 rfl hle rfl rfl rfl rfl; exact ⟨_, h, Does.value ok hrun ⟨_, rfl, .nl _⟩⟩
        · obtain ⟨ll, hle, h⟩ := elk_elim h
          have r := rep_one hx
          cases r with
          | nl ad => obtain ⟨a', hrun⟩ := sl0 rfl hle rfl rfl rfl rfl; exact ⟨_, h, Does.value ok hrun ⟨_, rfl, .nl _⟩⟩
        · exact h.elim
      · exact h.elim
end
end Go.Proofs.YtecnmodeggnjoaaGreat.Ac
