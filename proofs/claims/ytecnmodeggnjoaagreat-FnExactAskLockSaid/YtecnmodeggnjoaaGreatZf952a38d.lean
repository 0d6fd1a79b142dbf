/- Several of our texts, one behind the other, without what this claim does not need: AcI. -/
import Derived.Test.YtecnmodeggnjoaaGreatZ5818450b
import Derived.MapKept
set_option linter.unusedVariables false
set_option linter.unusedSimpArgs false
namespace Go.Proofs.YtecnmodeggnjoaaGreat.Ac
open Go.RowKit
section
variable {P : Program} {tb : Tab} {g : Hp} {φ : Phi} {w : World} {h : Array Obj} {H : Hp} {k : Eff → Prop}
theorem DoesO.one {s : Sem Next} {v : T} {u : Value} {rs : List Nat} (ok : HeapOK w.heap g φ) (hrun : s.run P w = .ok (.value u) w) (hv : RepT w.heap g φ v u) : DoesO P w g φ s rs (one v) :=
  fun k h => ⟨_, h, Does.value ok hrun hv⟩
theorem new_does (ok : HeapOK w.heap g φ) {s : Sem Next} {d : Nat} {ob : Ob} (h4 : ob.fl ≠ 4) {v : Nat → T} {rs : List Nat} {c : Array Value} {ty : TypeId} {cap : Nat} {w' : World} {u : Value} (hrun : s.run P w = .ok (.value u) w') (hw : w'.heap = w.heap.push (.cells c ty (0, 0)))
    (h1 : w'.os = w.os) (h2 : w'.tape = w.tape) (h3 : w'.output = w.output) (hrow : RowOK ob.wd ob.es ⟨w.heap.size, 0, cap⟩ c) (hfl : ob.fl ≠ 0 → ob.es.length = cap)
    (hc : ∀ i e j x, ob.es[i]? = some e → e[j]? = some x → RepE w.heap g φ x (c.getD (i * ob.wd + j) undef))
    (hv : ∀ m (φ' : Phi), φ' (m, []) = some ⟨w.heap.size, 0, cap⟩ → RepT w'.heap (put1 g m (some ob)) φ' (v m) u) : DoesO P w g φ s rs (newO d ob v) := by
  intro k h
  unfold newO at h
  dsimp only [Out.K] at h
  split at h
  · rename_i hn
    obtain ⟨ok', t'⟩ := new_ok (ty := ty) ok hn h4 hrow hfl hc
    refine ⟨_, h, Does.made (φ' := φ.set (16 * (d + 1)) fun q => if q = [] then some ⟨w.heap.size, 0, cap⟩ else none) hrun ?_ ?_ ?_ h1 h2 h3 (by rw [hw]; simp)⟩
    · rw [putH_one, hw]; exact ok'
    · rw [putH_one, hw]; exact t'
    · rw [putH_one]; exact hv _ _ (by rw [set_self]; rfl)
  · exact h.elim
theorem cell_row {cs : List A} {us : List Value} {b sz : Nat} (hr : RepC h H φ cs us) (hsz : cs.length = sz) (h0 : 0 < sz) : RowOK sz [cs] ⟨b, 0, 1⟩ us.toArray ∧ ∀ i e j x, [cs][i]? = some e → e[j]? = some x → RepE h H φ x (us.toArray.getD (i * sz + j) undef) := by
  have hl := hr.length
  refine ⟨⟨h0, fun e he => by simp at he; rw [he, hsz], Nat.le_refl _, by simp [maxLen], by simp; omega, fun k hk => ?_⟩, fun i e j x hi hj => ?_⟩
  · have hk' : k < us.length := by simpa using hk
    have : us.toArray.getD k undef = us[k] := by simp [hk']
    rw [this]
    exact hr.one _ (List.getElem_mem _)
  · cases i with
    | zero =>
      cases hi
      obtain ⟨u, hu, r⟩ := hr.at hj
      have : us.toArray.getD (0 * sz + j) undef = u := by simp [hu]
      rw [this]; exact r
    | succ i => simp at hi
theorem var_does (ok : HeapOK w.heap g φ) {s : Sem Next} {d sz : Nat} {cs : List A} {us : List Value} {ty : TypeId} {rs : List Nat} (hr : RepC w.heap g φ cs us) (hsz : cs.length = sz) (h0 : 0 < sz)
    (hrun : s.run P w = .ok (.value (.pointer (some ⟨w.heap.size, 0, none⟩))) (w.alloc (.cells us.toArray ty (0, 0)))) : DoesO P w g φ s rs (newO d ⟨3, sz, [cs]⟩ fun m => .val false [.pt m 0 0]) := by
  obtain ⟨h1, h2⟩ := cell_row (b := w.heap.size) hr hsz h0
  refine new_does ok (fun h => by cases h) hrun rfl rfl rfl rfl h1 (fun _ => rfl) h2 fun m φ' hφ => ⟨_, rfl, .pt _ _ _ _ ⟨rfl, ?_⟩⟩
  rw [put1_self]
  exact ⟨_, hφ, by simp⟩
theorem box_does (hT : TabOK P tb) (ok : HeapOK w.heap g φ) {d : Nat} {t : TypeId} {l : Lay} (hl : tb t = some l) {x : T} {u : Value} (hx : RepT w.heap g φ x u) (rs : List Nat) : DoesO P w g φ (do pure (.value (← Instr.box t u))) rs (boxO d l x) := by
  intro k h
  unfold boxO at h
  split at h
  · rename_i ag cs
    obtain ⟨hb, h⟩ := cond_K h
    simp only [Bool.and_eq_true] at hb
    have hsz := Nat.eq_of_beq_eq_true hb.1
    have h0 : 0 < l.size := by have := hb.2; simpa [Nat.blt, Nat.lt_iff_add_one_le] using this
    refine var_does ok (us := u.cells.toList) (ty := t) (rep_cells hx) hsz h0 ?_ k h
    simp [Instr.box, newVar, newRow]
    try rfl
  · exact h.elim
theorem alloc_does (hT : TabOK P tb) (ok : HeapOK w.heap g φ) {d : Nat} {t : TypeId} {l : Lay} (hl : tb t = some l) (rs : List Nat) : DoesO P w g φ (do pure (.value (← Instr.alloc t true (.tuple #[])))) rs (allocO d l) := by
  intro k h
  unfold allocO at h
  obtain ⟨hb, h⟩ := cond_K h
  have h0 : 0 < l.size := by simpa [Nat.blt, Nat.lt_iff_add_one_le] using hb
  cases l with
  | w dd z bt =>
    obtain ⟨_, _, inf, zv, hi, _, hz, h1, rfl, _⟩ := hT.w t dd z bt hl
    refine var_does ok (us := [zv]) (ty := t) (show RepC w.heap g φ [constA zv] [zv] from ⟨constA_ok h1, trivial⟩) rfl h0 ?_ k h
    simp [Instr.alloc, zeroValue, typeInfo, hi, hz, newVar, newRow, cells_one h1]
    try rfl
  | st sz z fs bt =>
    obtain ⟨inf, fields, zv, _, hi, _, hz, rfl, h1, h2, _⟩ := hT.st t sz z fs bt hl
    refine var_does ok (us := zv.toList) (ty := t) (constC_ok h1) (by simpa [Lay.size, Lay.zero] using h2) h0 ?_ k h
    simp [Instr.alloc, zeroValue, typeInfo, hi, hz, newVar, newRow, Value.cells]
    try rfl
theorem run_fieldAt {t : TypeId} {fields : Array Field} {f : Nat} {fd : Field} {inf' : TypeInfo} (hu : P.underlying t = some (.struct fields)) (hf : fields[f]? = some fd) (hi : P.info? fd.type = some inf') (hz : inf'.size ≠ 0) (b p : Nat) :
    (do pure (.value (← Instr.fieldAt t (.pointer (some ⟨b, p, none⟩)) f)) : Sem Next).run P w = .ok (.value (.pointer (some ⟨b, p + fd.offset, none⟩))) w := by
  simp [Instr.fieldAt, run_underlying hu, hf, Instr.sureAddr, fieldPlace, sizeOf, typeInfo, hi, hz, Addr.add_lit]
theorem pt_add (ok : HeapOK h g φ) {n i off o fl wd : Nat} {es : List (List A)} {u : Value} (hn : g n = some (some ⟨fl, wd, es⟩)) (hf4 : fl ≠ 4) (r : RepE h g φ (.pt n i off) u) :
    ∃ b p, u = .pointer (some ⟨b, p, none⟩) ∧ RepE h g φ (.pt n i (off + o)) (.pointer (some ⟨b, p + o, none⟩)) := by
  obtain ⟨hd, hp, rfl, _⟩ := ref_row ok hn hf4 r
  refine ⟨_, _, rfl, .pt _ _ _ _ ⟨rfl, ?_⟩⟩
  rw [hn]
  exact ⟨hd, hp, by simp only [Nat.add_assoc]⟩
theorem addr_does (hT : TabOK P tb) (ok : HeapOK w.heap g φ) {t : TypeId} {sz bt : Nat} {z : List A} {fs : List (Nat × Nat × Bool)} {f : Nat} {fx : Nat × Nat × Bool} (hl : tb t = some (.st sz z fs bt)) (hf : fs[f]? = some fx)
    {x : T} {u : Value} (hx : RepT w.heap g φ x u) (rs : List Nat) : DoesO P w g φ (do pure (.value (← Instr.fieldAt t u f))) rs (addrO fx.1 x) := by
  obtain ⟨inf, fields, zv, hu, _, _, _, _, _, _, _, _, hfs⟩ := hT.st t sz z fs bt hl
  obtain ⟨fd, inf', hfd, hoff, hi, hs, hz, _⟩ := hfs f fx hf
  intro k h
  unfold addrO at h
  split at h
  · rename_i y
    obtain ⟨_, h⟩ := drop_elim h
    have r := rep_one hx
    split at h
    · rename_i z zs hd
      cases r with
      | f _ _ r =>
        cases r with
        | pv _ b off c ty fr he hb hO hsz hr =>
          refine ⟨_, h, Does.value ok (run_fieldAt hu hfd hi (by rw [hs]; exact hz) b off) ⟨_, rfl, .f _ _ ?_⟩⟩
          rw [← hd, hoff]
          have hlen : (y.drop fx.1).length = y.length - fx.1 := by simp
          have hpos : 0 < (y.drop fx.1).length := by rw [hd]; simp
          refine RepL.pv _ b (off + fx.1) c ty fr (by rw [hd]; simp) hb hO (by omega) fun j x hj => ?_
          rw [List.getElem?_drop] at hj
          rw [Nat.add_assoc]
          exact hr _ x hj
    · exact h.elim
  · rename_i n i off
    obtain ⟨fl, wd, es, hn, hf4, h⟩ := alive_elim h
    obtain ⟨b, p, rfl, r'⟩ := pt_add (o := fx.1) ok hn hf4 (rep_one hx)
    refine ⟨_, h, Does.value ok (run_fieldAt hu hfd hi (by rw [hs]; exact hz) b p) ⟨_, rfl, ?_⟩⟩
    rw [hoff]; exact r'
  · exact h.elim
theorem run_indexAt {t el : TypeId} {inf : TypeInfo} (hu : P.underlying t = some (.slice el)) (hi : P.info? el = some inf) {k : IntKind} {j len cap b p : Nat} (hj : j < len) :
    (do pure (.value (← Instr.indexAt t (.slice (some ⟨b, p, none⟩) len cap) (.int k (j : Int)))) : Sem Next).run P w = .ok (.value (.pointer (some ⟨b, p + j * inf.size, none⟩))) w := by
  have : (0 : Int) ≤ (j : Int) ∧ (j : Int) < (len : Int) := by omega
  simp [Instr.indexAt, asIntOf, run_underlying hu, sizeOf, typeInfo, hi, Addr.add_lit, hj]
theorem cap_ge (ok : HeapOK h g φ) {n fl wd : Nat} {es : List (List A)} {hd : Hd} (hn : g n = some (some ⟨fl, wd, es⟩)) (hf4 : fl ≠ 4) (hp : φ (n, []) = some hd) : es.length ≤ hd.cap := by
  rcases (ok.ob n _ hn).row hf4 with ⟨_, h0⟩ | ⟨hd', c, ty, g1, g2, g3, _⟩
  · rw [hp] at h0; cases h0
  · rw [hp] at g1; cases g1; exact g3.le
theorem row_at (ok : HeapOK h g φ) {n lo hi fl wd : Nat} {es : List (List A)} (hn : g n = some (some ⟨fl, wd, es⟩)) (hf4 : fl ≠ 4) {u : Value} (r : RepE h g φ (.row n lo hi) u) (hlt : lo < hi) :
    hi ≤ es.length ∧ ∃ hd, φ (n, []) = some hd ∧ u = .slice (some ⟨hd.b, hd.off + lo * wd, none⟩) (hi - lo) (hd.cap - lo) := by
  cases r with
  | row _ _ _ _ r =>
    have r2 := r.2
    rw [hn] at r2
    obtain ⟨h1, h2, h3⟩ := r2
    refine ⟨h2, ?_⟩
    cases hp : φ (n, []) with
    | none =>
      exfalso
      rcases ((ok.ob n _ hn).row hf4) with ⟨h0, _⟩ | ⟨hd', c, ty, g1, _⟩
      · simp only at h0; subst h0; simp at h2; omega
      · rw [hp] at g1; cases g1
    | some hd =>
      rw [hp] at h3
      obtain ⟨a, rfl, ha⟩ := h3
      rw [ha (.inr (by have := cap_ge ok hn hf4 hp; dsimp only at h2; omega))]
      exact ⟨hd, rfl, rfl⟩
theorem idx_does (hT : TabOK P tb) (ok : HeapOK w.heap g φ) {t el : TypeId} {z : A} {bt : Nat} {l : Lay} (ht : tb t = some (.w (.slice el) z bt)) (hl : tb el = some l) {x i : T} {u v : Value} (hx : RepT w.heap g φ x u) (hi : RepT w.heap g φ i v) (rs : List Nat) :
    DoesO P w g φ (do pure (.value (← Instr.indexAt t u v))) rs (idxO l x i) := by
  obtain ⟨hu, _⟩ := hT.w t _ z bt ht
  obtain ⟨inf, hinf, hsz, _⟩ := tab_size hT hl
  intro k h
  unfold idxO at h
  split at h
  · rename_i kk zz
    have ri := rep_one hi
    cases ri with
    | f _ _ ri =>
    cases ri
    split at h
    · rename_i wd es
      have r := rep_one hx
      obtain ⟨h0, h⟩ := cond_K h
      obtain ⟨⟨j, y⟩, ⟨hz, hy⟩, hk⟩ := h
      have hwd := Nat.eq_of_beq_eq_true h0
      dsimp only at hz hy hk
      subst hz
      cases r with
      | f _ _ r =>
      cases r with
      | nil => simp at hy
      | sl _ _ b off cap c ty fr hw he hb hO hlen hs hc hr =>
        have hjl := (List.getElem?_eq_some_iff.1 hy).1
        have hyl := hlen y (List.mem_of_getElem? hy)
        refine ⟨_, hk, Does.value ok (run_indexAt hu hinf hjl) ⟨_, rfl, .f _ _ ?_⟩⟩
        rw [hsz, hwd]
        have hin : j * wd + wd ≤ es.length * wd := by
          rw [← Nat.succ_mul]
          exact Nat.mul_le_mul_right _ (by omega)
        refine RepL.pv y b (off + j * wd) c ty fr (fun e => by subst e; simp at hyl; omega) hb hO (by omega) fun q x hq => hr j y q x hy hq
    · rename_i n lo hi'
      obtain ⟨fl, wd, es, hn, hf4, h⟩ := alive_elim h
      obtain ⟨h0, h⟩ := cond_K h
      have hwd := Nat.eq_of_beq_eq_true h0
      have key : ∀ j : Nat, zz = (j : Int) → lo + j < hi' → Does P w g φ (do pure (.value (← Instr.indexAt t u (.int kk zz)))) ⟨.val false [.pt n (lo + j) 0], n :: rs, []⟩ := by
        rintro j rfl hj
        obtain ⟨hle, hd, hp, rfl⟩ := row_at ok hn hf4 (rep_one hx) (by omega)
        refine Does.value ok (run_indexAt hu hinf (by omega)) ⟨_, rfl, .pt _ _ _ _ ⟨rfl, ?_⟩⟩
        rw [hn]
        exact ⟨hd, hp, by rw [hsz, hwd, Nat.add_zero, Nat.add_mul, Nat.add_assoc]⟩
      cases hb : Nat.beq lo 0
      · rw [hb] at h
        obtain ⟨j, ⟨hz, hj⟩, h⟩ := h
        exact ⟨_, h, key j hz hj⟩
      · rw [hb] at h
        have := Nat.eq_of_beq_eq_true hb
        subst this
        obtain ⟨j, ⟨hz, hj⟩, h⟩ := h
        have := key j hz (by omega)
        rw [Nat.zero_add] at this
        exact ⟨_, h, this⟩
    · exact h.elim
  · exact h.elim
theorem tB_rep (b : Bool) : RepT h H φ (tB b) (.bool b) := ⟨_, rfl, .f _ _ (.v _ rfl)⟩
theorem tI_rep (i : IntKind) (z : Int) : RepT h H φ (tI i z) (.int i z) := ⟨_, rfl, .f _ _ (.v _ rfl)⟩
theorem tS_rep (s : ByteArray) : RepT h H φ (tS s) (.string s) := ⟨_, rfl, .f _ _ (.v _ rfl)⟩
theorem v_rep {x v : Value} (r : RepT h H φ (.val false [.f (.v x)]) v) : v = x := by
  have r := rep_one r
  cases r with
  | f _ _ r => cases r; rfl
theorem map_elim {n : Nat} {κ : Nat → List (List A) → Out} {sq : Bool} {rs : List Nat} {q : Eff → Prop} (h : (mapK n κ).K sq g rs q) : ∃ wd es, g n = some (some ⟨4, wd, es⟩) ∧ (κ wd es).K sq g (n :: rs) q := by
  unfold mapK at h
  dsimp only [Out.K] at h
  split at h
  · rename_i fl wd es heq
    obtain ⟨hb, h⟩ := cond_K h
    obtain rfl := Nat.eq_of_beq_eq_true hb
    exact ⟨wd, es, heq, h⟩
  · exact h.elim
theorem ref_map (ok : HeapOK h g φ) {n wd : Nat} {es : List (List A)} (hn : g n = some (some ⟨4, wd, es⟩)) {u : Value} (r : RepE h g φ (.mp n) u) :
    ∃ hd ms ck l, φ (n, []) = some hd ∧ u = .map (some hd.b) ∧ h[hd.b]? = some (.map ms ck) ∧ es = mpR l ∧ ms.toList.map (fun e => (e.key, e.val)) = l.map (fun x => (.int .i64 x.1, x.2)) ∧ ∀ x ∈ l, x.2.oneCell' = true := by
  cases r with
  | mp _ _ r =>
    have r2 := r.2
    rw [hn] at r2
    obtain ⟨hd, hp, rfl⟩ := r2
    obtain ⟨hd', ms, ck, l, g1, g2, g3⟩ := (ok.ob n _ hn).2.2 rfl
    rw [hp] at g1
    cases g1
    exact ⟨hd, ms, ck, l, hp, rfl, g2, g3⟩
theorem len_does (hT : TabOK P tb) (ok : HeapOK w.heap g φ) {t : TypeId} {l : Lay} (hl : tb t = some l) {x : T} {u : Value} (hx : RepT w.heap g φ x u) (ty : TypeId) (cn : Array Bool) (rs : List Nat) :
    DoesO P w g φ (builtin .len #[t] ty cn #[u]) rs (lenO l x) := by
  have sl : ∀ {el : TypeId} {z : A} {bt : Nat}, l = .w (.slice el) z bt → ∀ {a : Option Addr} {n cap : Nat} {v : T} {rd : List Nat}, u = .slice a n cap → v = tI .i64 n → Does P w g φ (builtin .len #[t] ty cn #[u]) ⟨v, rd, []⟩ := by
    rintro el z bt rfl a n cap v rd rfl rfl
    obtain ⟨hu, _⟩ := hT.w t _ z bt hl
    exact Does.value ok (u := .int .i64 n) (by simp [builtin, Builtin.len_, run_underlying hu, goInt]) (tI_rep _ _)
  intro k h
  unfold lenO at h
  split at h
  · rename_i el z bt wd es
    have r := rep_one hx
    cases r with
    | f _ _ r =>
    cases r with
    | nil => exact ⟨_, h, sl rfl rfl rfl⟩
    | sl _ _ b off cap c ty fr hw he hb hO hlen hs hc hr => exact ⟨_, h, sl rfl rfl rfl⟩
  · have r := rep_one hx
    cases r with
    | nl a => exact ⟨_, h, sl rfl rfl rfl⟩
  · rename_i el z bt kk
    have r := rep_one hx
    cases r with
    | un _ _ h1 h2 =>
      obtain ⟨a, cap, rfl⟩ := h2 kk rfl
      exact ⟨_, h, sl rfl rfl rfl⟩
  · rename_i el z bt n lo hi
    obtain ⟨fl, wd, es, hn, hf4, h⟩ := alive_elim h
    have hs : ∃ a cap, u = .slice a (hi - lo) cap := by
      have r := rep_one hx
      cases r with
      | row _ _ _ _ r =>
        have r2 := r.2
        rw [hn] at r2
        obtain ⟨h1, h2, h3⟩ := r2
        cases hp : φ (n, []) with
        | none =>
          rw [hp] at h3
          obtain ⟨a, rfl⟩ := h3
          rcases ((ok.ob n _ hn).row hf4) with ⟨h0, _⟩ | ⟨hd', c, ty, g1, _⟩
          · simp only at h0; subst h0; simp at h2
            exact ⟨a, 0, by rw [h2, Nat.zero_sub]⟩
          · rw [hp] at g1; cases g1
        | some hd => rw [hp] at h3; obtain ⟨a, rfl, _⟩ := h3; exact ⟨_, _, rfl⟩
    obtain ⟨a, cap, rfl⟩ := hs
    cases hb : Nat.beq lo 0
    · rw [hb] at h; exact ⟨_, h, sl rfl rfl rfl⟩
    · rw [hb] at h
      have := Nat.eq_of_beq_eq_true hb
      subst this
      exact ⟨_, h, sl rfl rfl (by rw [Nat.sub_zero])⟩
  · rename_i z bt s
    obtain ⟨hu, _⟩ := hT.w t _ z bt hl
    cases v_rep hx
    exact ⟨_, h, Does.value ok (u := .int .i64 s.size) (by simp [builtin, Builtin.len_, run_underlying hu, goInt]) (tI_rep _ _)⟩
  · rename_i kt et z bt n
    obtain ⟨wd, es, hn, h⟩ := map_elim h
    obtain ⟨hd, ms, ck, l', hp, rfl, hb, rfl, hm, _⟩ := ref_map ok hn (rep_one hx)
    obtain ⟨hu, _⟩ := hT.w t _ z bt hl
    have hsz : ms.size = (mpR l').length := by
      have := congrArg List.length hm
      simpa [mpR] using this
    refine ⟨_, h, Does.value ok (u := .int .i64 (mpR l').length) ?_ (tI_rep _ _)⟩
    simp [builtin, Builtin.len_, run_underlying hu, goInt, MapKept.run_getObj_map hb, hsz]
  · exact h.elim
theorem split2_does (ok : HeapOK w.heap g φ) {s : Sem Next} {c : Prop} (b : Bool) (hb : b = true ↔ c) (hrun : s.run P w = .ok (.value (.bool b)) w) (rs : List Nat) : DoesO P w g φ s rs (split2 c) := by
  rintro k ⟨h1, h2⟩
  by_cases hc : c
  · rw [hb.2 hc] at hrun
    exact ⟨_, h1 hc, Does.value ok hrun (tB_rep true)⟩
  · have : b = false := by
      cases b
      · rfl
      · exact absurd (hb.1 rfl) hc
    rw [this] at hrun
    exact ⟨_, h2 hc, Does.value ok hrun (tB_rep false)⟩
theorem beqK_eq {i j : IntKind} (h : beqK i j = true) : i = j := by cases i <;> cases j <;> first | rfl | cases h
theorem int_does (ok : HeapOK w.heap g φ) {op : BinOp} {t : TypeId} {ox oy : Operand} {i : IntKind} {a b : Int} (hns : isShift op = false) (rs : List Nat) :
    DoesO P w g φ (do pure (.value (← (do eqGuard op t ox oy (.int i a) (.int i b); binOp op t (.int i a) (.int i b))))) rs (binO op i a b) := by
  cases op
  case add => exact DoesO.one ok (u := .int i (i.wrap (a + b))) (by simp [eqGuard_at_int, binOp, Op.intArith]) (tI_rep _ _)
  case sub => exact DoesO.one ok (u := .int i (i.wrap (a - b))) (by simp [eqGuard_at_int, binOp, Op.intArith]) (tI_rep _ _)
  case mul => exact DoesO.one ok (u := .int i (i.wrap (a * b))) (by simp [eqGuard_at_int, binOp, Op.intArith]) (tI_rep _ _)
  case quo => rintro k ⟨hb, h⟩; exact ⟨_, h, Does.value ok (u := .int i (i.wrap (a.tdiv b))) (by simp [eqGuard_at_int, binOp, Op.intDiv, hb]) (tI_rep _ _)⟩
  case rem => rintro k ⟨hb, h⟩; exact ⟨_, h, Does.value ok (u := .int i (a.tmod b)) (by simp [eqGuard_at_int, binOp, Op.intDiv, hb]) (tI_rep _ _)⟩
  case and => exact DoesO.one ok (u := .int i (i.wrap (BitVec.ofInt i.bits a &&& BitVec.ofInt i.bits b).toNat)) (by simp [eqGuard_at_int, binOp, Op.intBits]) (tI_rep _ _)
  case or => exact DoesO.one ok (u := .int i (i.wrap (BitVec.ofInt i.bits a ||| BitVec.ofInt i.bits b).toNat)) (by simp [eqGuard_at_int, binOp, Op.intBits]) (tI_rep _ _)
  case xor => exact DoesO.one ok (u := .int i (i.wrap (BitVec.ofInt i.bits a ^^^ BitVec.ofInt i.bits b).toNat)) (by simp [eqGuard_at_int, binOp, Op.intBits]) (tI_rep _ _)
  case eql => exact split2_does ok (a == b) (by simp) (by simp [eqGuard_at_int, binOp, Op.intCmp]) rs
  case neq => exact split2_does ok (a != b) (by simp) (by simp [eqGuard_at_int, binOp, Op.intCmp]) rs
  case lss => exact split2_does ok (decide (a < b)) (by simp) (by simp [eqGuard_at_int, binOp, Op.intCmp]) rs
  case leq => exact split2_does ok (decide (a ≤ b)) (by simp) (by simp [eqGuard_at_int, binOp, Op.intCmp]) rs
  case gtr => exact split2_does ok (decide (a > b)) (by simp) (by simp [eqGuard_at_int, binOp, Op.intCmp]) rs
  case geq => exact split2_does ok (decide (a ≥ b)) (by simp) (by simp [eqGuard_at_int, binOp, Op.intCmp]) rs
  all_goals first | exact fun k h => h.elim | cases hns
theorem shift_does (ok : HeapOK w.heap g φ) {op : BinOp} {t : TypeId} {ox oy : Operand} {i j : IntKind} {a b : Int} (rs : List Nat) :
    DoesO P w g φ (do pure (.value (← (do eqGuard op t ox oy (.int i a) (.int j b); binOp op t (.int i a) (.int j b))))) rs (shiftO op i a b) := by
  have hg : ∀ op', op = op' → isShift op' = true → (eqGuard op t ox oy (.int i a) (.int j b)) = pure () := by
    rintro op' rfl hs
    cases op <;> first | exact absurd hs (by decide) | (unfold eqGuard; simp; done) | (unfold eqGuard; simp; rfl) | rfl
  cases op
  case shl =>
    rintro k ⟨hb, h⟩
    have : ¬ b < 0 := by omega
    exact ⟨_, h, Does.value ok (u := .int i (i.wrap (a * 2 ^ (min b.toNat i.bits)))) (by rw [hg _ rfl rfl]; simp [binOp, Op.shift, this]) (tI_rep _ _)⟩
  case shr =>
    rintro k ⟨hb, h⟩
    have : ¬ b < 0 := by omega
    exact ⟨_, h, Does.value ok (u := .int i (a.fdiv (2 ^ (min b.toNat i.bits)))) (by rw [hg _ rfl rfl]; simp [binOp, Op.shift, this]) (tI_rep _ _)⟩
  all_goals exact fun k h => h.elim
end
end Go.Proofs.YtecnmodeggnjoaaGreat.Ac
