/- Several of our texts, one behind the other, without what this claim does not need: AcJ. -/
import Derived.Test.YtecnmodeggnjoaaGreatZf952a38d
set_option linter.unusedVariables false
set_option linter.unusedSimpArgs false
namespace Go.Proofs.YtecnmodeggnjoaaGreat.Ac
open Go.RowKit
section
variable {P : Program} {tb : Tab} {g : Hp} {φ : Phi} {w : World} {h : Array Obj} {H : Hp} {k : Eff → Prop}
theorem equalIn_ptr (d : Nat) {t e : TypeId} {a : Option Addr} (hu : P.underlying t = some (.pointer e)) : (Op.equalIn (d + 1) t (.pointer a) (.pointer none)).run P w = .ok a.isNone w := by
  cases a <;> simp [Op.equalIn, run_underlying hu]
theorem equalIn_bool (d : Nat) {t : TypeId} {a b : Bool} (hu : P.underlying t = some .bool) : (Op.equalIn (d + 1) t (.bool a) (.bool b)).run P w = .ok (a == b) w := by
  simp [Op.equalIn, run_underlying hu]
theorem isNil_does (ok : HeapOK w.heap g φ) {op : BinOp} {t e : TypeId} {ox oy : Operand} {a : Option Addr} (hu : P.underlying t = some (.pointer e)) (rs : List Nat) :
    DoesO P w g φ (do pure (.value (← (do eqGuard op t ox oy (.pointer a) (.pointer none); binOp op t (.pointer a) (.pointer none))))) rs (isNilO op a.isNone) := by
  have he : (Op.equal t (.pointer a) (.pointer none)).run P w = .ok a.isNone w := by
    simp only [Op.equal, Op.maxDepth]; exact equalIn_ptr 9999 hu
  cases op
  case eql => exact DoesO.one ok (u := .bool a.isNone) (by simp [eqGuard, binOp, he]) (tB_rep _)
  case neq => exact DoesO.one ok (u := .bool (!a.isNone)) (by simp [eqGuard, binOp, he]) (tB_rep _)
  all_goals exact fun k h => h.elim
theorem bi_does (hT : TabOK P tb) (ok : HeapOK w.heap g φ) {op : BinOp} {t : TypeId} {ox oy : Operand} {x y : T} {u v : Value} (hx : RepT w.heap g φ x u) (hy : RepT w.heap g φ y v)
    (hp : ∀ a b, u = .pointer a → v = .pointer b → ∃ e, P.underlying t = some (.pointer e)) (rs : List Nat) :
    DoesO P w g φ (do pure (.value (← (do eqGuard op t ox oy u v; binOp op t u v)))) rs (biO op x y) := by
  intro k h
  unfold biO at h
  split at h
  · rename_i i a j b
    cases v_rep hx
    cases v_rep hy
    cases hs : isShift op
    · rw [hs] at h
      obtain ⟨h0, h9⟩ := cond_K h
      have hij := beqK_eq h0
      subst hij
      exact int_does ok hs rs k h9
    · rw [hs] at h; exact shift_does ok rs k h
  · rename_i a b
    cases v_rep hx
    cases v_rep hy
    cases op
    case add =>
      obtain ⟨hle, h⟩ := h
      have : ¬ (IntKind.i64.max < ((a.size + b.size : Nat) : Int)) := by simp only [maxLen] at hle; rw [IntKind.max_i64]; omega
      refine ⟨_, h, Does.value ok (u := .string (a ++ b)) ?_ (tS_rep _)⟩
      simp only [eqGuard_at_string, binOp, Op.stringOp]
      rw [if_neg this]
      simp
    case eql => exact split2_does ok (a.toList == b.toList) (Lib.bytes_beq_iff a b) (by simp [eqGuard_at_string, binOp_string_eql]) rs k h
    case neq => exact split2_does ok (!(a.toList == b.toList)) (by rw [Bool.not_eq_true', ← Bool.not_eq_true, Lib.bytes_beq_iff]) (by simp [eqGuard_at_string, binOp_string_neq]) rs k h
    all_goals exact h.elim
  · cases v_rep hx
    cases v_rep hy
    obtain ⟨e, he⟩ := hp _ _ rfl rfl
    exact isNil_does ok he rs k h
  · cases v_rep hy
    have r := rep_one hx
    cases r with
    | f _ _ r =>
    cases r
    obtain ⟨e, he⟩ := hp _ _ rfl rfl
    exact isNil_does ok he rs k h
  · cases v_rep hy
    obtain ⟨fl, wd, es, hn, hf4, h⟩ := alive_elim h
    obtain ⟨b, p, rfl, _⟩ := pt_add (o := 0) ok hn hf4 (rep_one hx)
    obtain ⟨e, he⟩ := hp _ _ rfl rfl
    exact isNil_does ok he _ k h
  · exact h.elim
theorem eq_does (hT : TabOK P tb) (ok : HeapOK w.heap g φ) {op : BinOp} {t : TypeId} {z : A} {bt : Nat} (hl : tb t = some (.w .bool z bt)) {ox oy : Operand} {x y : T} {u v : Value} (hx : RepT w.heap g φ x u) (hy : RepT w.heap g φ y v) (rs : List Nat) :
    DoesO P w g φ (do pure (.value (← (do eqGuard op t ox oy u v; binOp op t u v)))) rs (eqO op (.w .bool z bt) x y) := by
  obtain ⟨hu, _⟩ := hT.w t _ z bt hl
  intro k h
  unfold eqO at h
  split at h
  · rename_i a b _
    cases v_rep hx
    cases v_rep hy
    have he : (Op.equal t (.bool a) (.bool b)).run P w = .ok (a == b) w := by
      simp only [Op.equal, Op.maxDepth]; exact equalIn_bool 9999 hu
    cases op
    case eql => exact split2_does ok (a == b) (by simp) (by simp [eqGuard, binOp, he]) rs k h
    case neq => exact split2_does ok (!(a == b)) (by simp) (by simp [eqGuard, binOp, he]) rs k h
    all_goals exact h.elim
  · exact h.elim
theorem equalIn_sl (d : Nat) {t e : TypeId} {a : Option Addr} {n c : Nat} (hu : P.underlying t = some (.slice e)) : (Op.equalIn (d + 1) t (.slice a n c) (.slice none 0 0)).run P w = .ok a.isNone w := by
  cases a <;> simp [Op.equalIn, run_underlying hu]
theorem nilB_does (ok : HeapOK w.heap g φ) {op : BinOp} {t e : TypeId} {ox oy : Operand} {a : Option Addr} {n c : Nat} (hu : P.underlying t = some (.slice e)) (rs : List Nat) :
    DoesO P w g φ (do pure (.value (← (do eqGuard op t ox oy (.slice a n c) (.slice none 0 0); binOp op t (.slice a n c) (.slice none 0 0))))) rs (nilB op a.isNone) := by
  have he : (Op.equal t (.slice a n c) (.slice none 0 0)).run P w = .ok a.isNone w := by
    simp only [Op.equal, Op.maxDepth]; exact equalIn_sl 9999 hu
  cases op
  case eql => exact DoesO.one ok (u := .bool a.isNone) (by simp [eqGuard, binOp, he]) (tB_rep _)
  case neq => exact DoesO.one ok (u := .bool (!a.isNone)) (by simp [eqGuard, binOp, he]) (tB_rep _)
  all_goals exact fun k h => h.elim
theorem nilS_does (ok : HeapOK w.heap g φ) {op : BinOp} {t e : TypeId} {ox oy : Operand} {x : T} {u : Value} (hu : P.underlying t = some (.slice e)) (hx : RepT w.heap g φ x u) (rs : List Nat) :
    DoesO P w g φ (do pure (.value (← (do eqGuard op t ox oy u (.slice none 0 0); binOp op t u (.slice none 0 0))))) rs (nilSO op x) := by
  intro k h
  unfold nilSO at h
  split at h
  · have r := rep_one hx
    cases r with
    | f _ _ r =>
      cases r with
      | nil wd a cap => exact nilB_does ok hu rs k (h a.isNone fun _ => rfl)
      | sl wd es b off cap c ty fr hw he hb hO hl hs hc hr => exact nilB_does ok hu rs k (h false fun e => by cases e)
  · have r := rep_one hx
    cases r with
    | nl a => exact nilB_does ok hu rs k (h a.isNone trivial)
  · rename_i n lo hi
    obtain ⟨fl, wd, es, hn, hf4, h⟩ := alive_elim h
    have r := rep_one hx
    cases r with
    | row _ _ _ _ r =>
      have r2 := r.2
      rw [hn] at r2
      obtain ⟨h1, h2, h3⟩ := r2
      split at h3
      · rename_i hp
        obtain ⟨a, rfl⟩ := h3
        have he : es = [] := by
          rcases (ok.ob n _ hn).row hf4 with ⟨he, _⟩ | ⟨hd, c, ty, q1, _⟩
          · exact he
          · rw [hp] at q1; cases q1
        exact nilB_does ok hu _ k (h a.isNone fun _ => by rw [he] at h2; simp at h2; omega)
      · rename_i hd hp
        obtain ⟨a, rfl, ha⟩ := h3
        refine nilB_does ok hu _ k (h a.isNone fun e => ?_)
        by_cases hlt : lo < hi
        · rw [ha (.inr (by have := cap_ge ok hn hf4 hp; dsimp only at h2; omega))] at e; cases e
        · omega
  · exact h.elim
theorem move_does (ok : HeapOK w.heap g φ) {x : T} {u : Value} (hx : RepT w.heap g φ x u) (rs : List Nat) : DoesO P w g φ (pure (.value u)) rs (moveO x) := by
  cases x <;> exact DoesO.one ok rfl hx
theorem pick_does (ok : HeapOK w.heap g φ) {c x y : T} {u v z : Value} (hc : RepT w.heap g φ c u) (hx : RepT w.heap g φ x v) (hy : RepT w.heap g φ y z) (rs : List Nat) :
    DoesO P w g φ (do pure (.value (if ← asBool u then v else z))) rs (pickO c x y) := by
  intro k h
  unfold pickO at h
  split at h
  · cases v_rep hc
    obtain ⟨ε, h1, n, w', φ', h2, h3⟩ := move_does (P := P) ok hx rs k h
    exact ⟨ε, h1, n, w', φ', by rw [← h2]; simp [asBool], h3⟩
  · cases v_rep hc
    obtain ⟨ε, h1, n, w', φ', h2, h3⟩ := move_does (P := P) ok hy rs k h
    exact ⟨ε, h1, n, w', φ', by rw [← h2]; simp [asBool], h3⟩
  · exact h.elim
theorem un_does (ok : HeapOK w.heap g φ) {op : UnOp} {x : T} {u : Value} (hx : RepT w.heap g φ x u) (rs : List Nat) : DoesO P w g φ (do pure (.value (← Op.unary op u))) rs (unO op x) := by
  intro k h
  unfold unO at h
  split at h
  · cases v_rep hx
    split at h
    · exact ⟨_, h, Does.value ok (u := .bool false) (by simp [Op.unary]) (tB_rep _)⟩
    · exact ⟨_, h, Does.value ok (u := .bool true) (by simp [Op.unary]) (tB_rep _)⟩
  · rename_i i z
    cases v_rep hx
    exact ⟨_, h, Does.value ok (u := .int i (i.wrap (0 - z))) (by simp [Op.unary, Op.intArith]) (tI_rep _ _)⟩
  · exact h.elim
theorem RepVs.at : ∀ (vs : List (Bool × List A)) (us : List Value) (i : Nat) {ag : Bool} {cs : List A}, RepVs h H φ vs us → vs[i]? = some (ag, cs) → ∃ u, us[i]? = some u ∧ RepV h H φ ag cs u
  | v :: vs, u :: us, 0, _, _, hr, hv => by cases hv; exact ⟨u, rfl, hr.1⟩
  | v :: vs, u :: us, i + 1, _, _, hr, hv => RepVs.at vs us i hr.2 hv
  | [], _, _, _, _, _, hv => by cases hv
  | _ :: _, [], _, _, _, hr, _ => hr.elim
theorem extr_does (ok : HeapOK w.heap g φ) {x : T} {i : Nat} {u : Value} (hx : RepT w.heap g φ x u) (rs : List Nat) : DoesO P w g φ (do pure (.value (← Instr.extract u i))) rs (extrO x i) := by
  intro k h
  unfold extrO at h
  split at h
  · rename_i vs
    obtain ⟨us, rfl, r⟩ := hx
    split at h
    · rename_i ag cs hv
      obtain ⟨u, hu, ru⟩ := RepVs.at vs us.toList i r hv
      have hu2 : us[i]? = some u := by simpa using hu
      exact ⟨_, h, Does.value ok (u := u) (by simp [Instr.extract, hu2]) ru⟩
    · exact h.elim
  · exact h.elim
theorem field_does (hT : TabOK P tb) (ok : HeapOK w.heap g φ) {t : TypeId} {sz bt : Nat} {z : List A} {fs : List (Nat × Nat × Bool)} {f : Nat} {o s : Nat} {ag : Bool} (hl : tb t = some (.st sz z fs bt)) (hf : fs[f]? = some (o, s, ag))
    {x : T} {u : Value} (hx : RepT w.heap g φ x u) (rs : List Nat) : DoesO P w g φ (do pure (.value (← Instr.field t u f))) rs (fieldO o s ag x) := by
  obtain ⟨inf, fields, zv, hu, _, _, _, _, _, _, _, _, hfs⟩ := hT.st t sz z fs bt hl
  obtain ⟨fd, inf', hfd, hoff, hi, hs, hz, _, d', hd', hag⟩ := hfs f _ hf
  dsimp only at hoff hs hag
  intro k h
  unfold fieldO at h
  split at h
  · rename_i cs
    obtain ⟨c, rfl, hc⟩ := hx
    have hlen := hc.length
    obtain ⟨hle, h⟩ := seg_elim h
    have hiag : (isAgg fd.type).run P w = .ok ag w := by
      unfold isAgg
      rw [Sem.run_bind, run_underlying hd' w, ← hag]
      cases d' <;> rfl
    have hc' := (hc.drop o).take s
    split at h
    · refine ⟨_, h, Does.value ok (u := .agg (c.extract o (o + s))) (by simp [Instr.field, run_underlying hu, hfd, asAgg, part, hiag, sizeOf, typeInfo, hi, hoff, hs]) ⟨_, rfl, ?_⟩⟩
      have : (c.extract o (o + s)).toList = (c.toList.drop o).take s := by
        simp [Array.toList_extract, List.extract_eq_take_drop]
      rw [this]; exact hc'
    · obtain ⟨h1, h⟩ := cond_K h
      have := Nat.eq_of_beq_eq_true h1
      subst this
      have hlt : o < cs.length := by omega
      have e1 : (cs.drop o).take 1 = [cs[o]] := by rw [List.drop_eq_getElem_cons hlt]; rfl
      rw [e1] at h hc'
      obtain ⟨u, hu', ru⟩ := hc.at (List.getElem?_eq_getElem hlt)
      have hu2 : c[o]? = some u := by simpa using hu'
      exact ⟨_, h, Does.value ok (u := u) (by simp [Instr.field, run_underlying hu, hfd, asAgg, part, hiag, hoff, hu2]) ⟨_, rfl, ru⟩⟩
  · exact h.elim
theorem chr_does (hT : TabOK P tb) (ok : HeapOK w.heap g φ) {t : TypeId} {z : A} {bt : Nat} (hl : tb t = some (.w .string z bt)) {x i : T} {u v : Value} (hx : RepT w.heap g φ x u) (hi : RepT w.heap g φ i v) (rs : List Nat) :
    DoesO P w g φ (do pure (.value (← Instr.index t u v))) rs (chrO x i) := by
  obtain ⟨hu, _⟩ := hT.w t _ z bt hl
  intro k h
  unfold chrO at h
  split at h
  · obtain ⟨⟨j, b⟩, ⟨hz, hb⟩, h⟩ := h
    dsimp only at hz hb
    subst hz
    cases v_rep hx
    cases v_rep hi
    exact ⟨_, h, Does.value ok (u := .int .u8 b.toNat) (by simp [Instr.index, asIntOf, run_underlying hu, hb]) (tI_rep _ _)⟩
  · exact h.elim
theorem mm_does (ok : HeapOK w.heap g φ) {mx : Bool} {ts : Array TypeId} {ty : TypeId} {cn : Array Bool} {x y : T} {u v : Value} (hx : RepT w.heap g φ x u) (hy : RepT w.heap g φ y v) (rs : List Nat) :
    DoesO P w g φ (builtin (if mx then .max else .min) ts ty cn #[u, v]) rs (mmO mx x y) := by
  intro k h
  unfold mmO at h
  split at h
  · cases v_rep hx
    cases v_rep hy
    cases mx with
    | true => exact ⟨_, h, Does.value ok (by simp [builtin, Builtin.max_, Builtin.max2]) (tI_rep _ _)⟩
    | false => exact ⟨_, h, Does.value ok (by simp [builtin, Builtin.min_, Builtin.min2]) (tI_rep _ _)⟩
  · exact h.elim
theorem conv_does (hT : TabOK P tb) (ok : HeapOK w.heap g φ) {s t : TypeId} {l l' : Lay} (hs : tb s = some l) (ht : tb t = some l') {x : T} {u : Value} (hx : RepT w.heap g φ x u) (rs : List Nat) :
    DoesO P w g φ (do pure (.value (← convert s t u))) rs (convO l l' x) := by
  intro k h
  unfold convO at h
  split at h
  · rename_i i0 z0 b0 kk z1 b1 i z
    obtain ⟨hu, _⟩ := hT.w s _ _ _ hs
    obtain ⟨hv, _⟩ := hT.w t _ _ _ ht
    cases v_rep hx
    exact ⟨_, h, Does.value ok (u := .int kk (kk.wrap z)) (by simp [convert, run_underlying hu, run_underlying hv, Conv.intToInt]) (tI_rep _ _)⟩
  · obtain ⟨hu, _⟩ := hT.w s _ _ _ hs
    obtain ⟨hv, _⟩ := hT.w t _ _ _ ht
    cases v_rep hx
    exact ⟨_, h, Does.value ok (by simp [convert, run_underlying hu, run_underlying hv]) (tS_rep _)⟩
  · exact h.elim
theorem caps_elim : ∀ {xs : List T} {κ : List (Bool × List A) → Out} {sq : Bool} {rs : List Nat} {q : Eff → Prop}, (capsK xs κ).K sq g rs q → ∃ cs, xs = cs.map (fun x => .val x.1 x.2) ∧ (κ cs).K sq g rs q
  | [], κ, sq, rs, q, h => ⟨[], rfl, h⟩
  | .val ag cs :: xs, κ, sq, rs, q, h => by
    obtain ⟨l, rfl, h2⟩ := caps_elim (xs := xs) (κ := fun r => κ ((ag, cs) :: r)) h
    exact ⟨(ag, cs) :: l, rfl, h2⟩
  | .tu _ :: _, _, _, _, _, h => h.elim
  | .bot :: _, _, _, _, _, h => h.elim
theorem RepV.wf {ag : Bool} {cs : List A} {u : Value} (r : RepV h H φ ag cs u) : wfv ag cs.length u ∧ ∀ j x, cs[j]? = some x → RepE h H φ x (partv ag u j) := by
  cases ag with
  | true =>
    obtain ⟨c, rfl, hc⟩ := r
    refine ⟨⟨c, rfl, by simpa using hc.length⟩, fun j x hx => ?_⟩
    obtain ⟨u, hu, ru⟩ := hc.at hx
    have : partv true (.agg c) j = u := by simp [partv, show c[j]? = some u by simpa using hu]
    rw [this]; exact ru
  | false =>
    obtain ⟨x, rfl, hx⟩ := r
    refine ⟨⟨rfl, hx.one⟩, fun j y hy => ?_⟩
    cases j with
    | zero => cases hy; exact hx
    | succ j => simp at hy
theorem func_does (ok : HeapOK w.heap g φ) {f : FuncId} {xs : List T} {us : List Value} (hx : ∀ (i : Nat) (x : T), xs[i]? = some x → ∃ u, us[i]? = some u ∧ RepT w.heap g φ x u) (hlen : us.length = xs.length) (rs : List Nat) :
    DoesO P w g φ (do pure (.value (← Instr.makeFunc (.func f) #[] us.toArray))) rs (capsK xs fun caps => one (.val false [.cl f caps])) := by
  intro k h
  obtain ⟨cs, rfl, h2⟩ := caps_elim h
  have hcl : RepE w.heap g φ (.cl f cs) (.func (.func f) #[] us.toArray) := by
    refine RepE.cl f cs us.toArray (by simpa using hlen) (fun i x hi => ?_) (fun i x j y hi hj => ?_)
    · obtain ⟨u, hu, ru⟩ := hx i (.val x.1 x.2) (by rw [List.getElem?_map, hi]; rfl)
      have : us.toArray.getD i undef = u := by simp [hu]
      rw [this]
      exact (RepV.wf ru).1
    · obtain ⟨u, hu, ru⟩ := hx i (.val x.1 x.2) (by rw [List.getElem?_map, hi]; rfl)
      have : us.toArray.getD i undef = u := by simp [hu]
      rw [this]
      exact (RepV.wf ru).2 j y hj
  exact ⟨_, h2, Does.value ok (u := .func (.func f) #[] us.toArray) (by simp [Instr.makeFunc]) ⟨_, rfl, hcl⟩⟩
theorem bound_run {v : Value} {z : T} (hr : RepT h H φ z v) {dflt a b : Nat} (hp : bndP (some z) dflt a) (hab : a ≤ b) (code : BoundsCode) : (Instr.sliceBound v b code).run P w = .ok a w := by
  unfold bndP at hp
  split at hp
  · rename_i heq; cases heq
  · rename_i z' heq
    cases heq
    cases v_rep hr
    subst hp
    simp [Instr.sliceBound, asIntOf, hab]
  · exact hp.elim
theorem bounds_run {isS : Bool} {len cap a b : Nat} {lo hi : Option T} {ul uh : Option Value} (hl : ∀ x, lo = some x → ∃ u, ul = some u ∧ RepT h H φ x u) (hl0 : lo = none → ul = none) (hh : ∀ x, hi = some x → ∃ u, uh = some u ∧ RepT h H φ x u) (hh0 : hi = none → uh = none)
    (ha : bndP lo 0 a) (hb : bndP hi len b) (hab : a ≤ b) (hbc : b ≤ cap) : (Instr.sliceBounds isS len cap ul uh none).run P w = .ok (a, b, cap) w := by
  cases lo with
  | none =>
    rw [hl0 rfl]
    cases ha
    cases hi with
    | none => rw [hh0 rfl]; cases hb; simp [Instr.sliceBounds]
    | some y =>
      obtain ⟨u, rfl, ru⟩ := hh y rfl
      simp [Instr.sliceBounds, bound_run (P := P) (w := w) ru hb hbc]
  | some x =>
    obtain ⟨v, rfl, rv⟩ := hl x rfl
    cases hi with
    | none => rw [hh0 rfl]; cases hb; simp [Instr.sliceBounds, bound_run (P := P) (w := w) rv ha hab]
    | some y =>
      obtain ⟨u, rfl, ru⟩ := hh y rfl
      simp [Instr.sliceBounds, bound_run (P := P) (w := w) ru hb hbc, bound_run (P := P) (w := w) rv ha hab]
end
end Go.Proofs.YtecnmodeggnjoaaGreat.Ac
