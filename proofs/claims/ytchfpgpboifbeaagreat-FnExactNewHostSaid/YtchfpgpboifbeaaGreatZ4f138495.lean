/- Several of our texts, one behind the other, without what this claim does not need: AcJ, AcK. -/
import Derived.Test.YtchfpgpboifbeaaGreatZec70bb47
set_option linter.unusedVariables false
set_option linter.unusedSimpArgs false
namespace Go.Proofs.YtchfpgpboifbeaaGreat.Ac
open Go.RowKit
section
variable {P : Program} {tb : Tab} {g : Hp} {φ : Phi} {w : World} {h : Array Obj} {H : Hp} {k : Eff → Prop}
theorem equalIn_ptr (d : Nat) {t e : TypeId} {a : Option Addr} (hu : P.underlying t = some (.pointer e)) : (Op.equalIn (d + 1) t (.pointer a) (.pointer none)).run P w = .ok a.isNone w := by
  cases a <;> simp [Op.equalIn, run_underlying hu]
theorem equalIn_bool (d : Nat) {t : TypeId} {a b : Bool} (hu : P.underlying t = some .bool) : (Op.equalIn (d + 1) t (.bool a) (.bool b)).run P w = .ok (a == b) w := by
  simp [Op.equalIn, run_underlying hu]
theorem isNil_does (ok : HeapOK w.heap g φ) {op : BinOp} {t e : TypeId} {ox oy : Operand} {a : Option Addr} (hu : P.underlying t = some (.pointer e)) (rs : List Nat) :
    DoesO P w g φ (do pure (.value (← (do eqGuard op t ox oy (.pointer a) (.pointer none); binOp op t (.pointer a) (.pointer none))))) rs (isNilO op a.isNone) := by
  have he : (Op.equal t (.pointer a) (.pointer none)).run P w = .ok a.isNone w := by
    simp only [Op.equal, Op.maxDepth]; exact equalIn_ptr 9999 hu
  cases op
  case eql => exact DoesO.one ok (u := .bool a.isNone) (by simp [eqGuard, binOp, he]) (tB_rep _)
  case neq => exact DoesO.one ok (u := .bool (!a.isNone)) (by simp [eqGuard, binOp, he]) (tB_rep _)
  all_goals exact fun k h => h.elim
theorem bi_does (hT : TabOK P tb) (ok : HeapOK w.heap g φ) {op : BinOp} {t : TypeId} {ox oy : Operand} {x y : T} {u v : Value} (hx : RepT w.heap g φ x u) (hy : RepT w.heap g φ y v)
    (hp : ∀ a b, u = .pointer a → v = .pointer b → ∃ e, P.underlying t = some (.pointer e)) (rs : List Nat) :
    DoesO P w g φ (do pure (.value (← (do eqGuard op t ox oy u v; binOp op t u v)))) rs (biO op x y) := by
  intro k h
  unfold biO at h
  split at h
  · rename_i i a j b
    cases v_rep hx
    cases v_rep hy
    cases hs : isShift op
    · rw [hs] at h
      obtain ⟨h0, h9⟩ := cond_K h
      have hij := beqK_eq h0
      subst hij
      exact int_does ok hs rs k h9
    · rw [hs] at h; exact shift_does ok rs k h
  · rename_i a b
    cases v_rep hx
    cases v_rep hy
    cases op
    case add =>
      obtain ⟨hle, h⟩ := h
      have : ¬ (IntKind.i64.max < ((a.size + b.size : Nat) : Int)) := by simp only [maxLen] at hle; rw [IntKind.max_i64]; omega
      refine ⟨_, h, Does.value ok (u := .string (a ++ b)) ?_ (tS_rep _)⟩
      simp only [eqGuard_at_string, binOp, Op.stringOp]
      rw [if_neg this]
      simp
    case eql => exact split2_does ok (a.toList == b.toList) (Lib.bytes_beq_iff a b) (by simp [eqGuard_at_string, binOp_string_eql]) rs k h
    case neq => exact split2_does ok (!(a.toList == b.toList)) (by rw [Bool.not_eq_true', ← Bool.not_eq_true, Lib.bytes_beq_iff]) (by simp [eqGuard_at_string, binOp_string_neq]) rs k h
    all_goals exact h.elim
  · cases v_rep hx
    cases v_rep hy
    obtain ⟨e, he⟩ := hp _ _ rfl rfl
    exact isNil_does ok he rs k h
  · cases v_rep hy
    have r := rep_one hx
    cases r with
    | f _ _ r =>
    cases r
    obtain ⟨e, he⟩ := hp _ _ rfl rfl
    exact isNil_does ok he rs k h
  · cases v_rep hy
    obtain ⟨fl, wd, es, hn, hf4, h⟩ := alive_elim h
    obtain ⟨b, p, rfl, _⟩ := pt_add (o := 0) ok hn hf4 (rep_one hx)
    obtain ⟨e, he⟩ := hp _ _ rfl rfl
    exact isNil_does ok he _ k h
  · exact h.elim
theorem eq_does (hT : TabOK P tb) (ok : HeapOK w.heap g φ) {op : BinOp} {t : TypeId} {z : A} {bt : Nat} (hl : tb t = some (.w .bool z bt)) {ox oy : Operand} {x y : T} {u v : Value} (hx : RepT w.heap g φ x u) (hy : RepT w.heap g φ y v) (rs : List Nat) :
    DoesO P w g φ (do pure (.value (← (do eqGuard op t ox oy u v; binOp op t u v)))) rs (eqO op (.w .bool z bt) x y) := by
  obtain ⟨hu, _⟩ := hT.w t _ z bt hl
  intro k h
  unfold eqO at h
  split at h
  · rename_i a b _
    cases v_rep hx
    cases v_rep hy
    have he : (Op.equal t (.bool a) (.bool b)).run P w = .ok (a == b) w := by
      simp only [Op.equal, Op.maxDepth]; exact equalIn_bool 9999 hu
    cases op
    case eql => exact split2_does ok (a == b) (by simp) (by simp [eqGuard, binOp, he]) rs k h
    case neq => exact split2_does ok (!(a == b)) (by simp) (by simp [eqGuard, binOp, he]) rs k h
    all_goals exact h.elim
  · exact h.elim
theorem equalIn_sl (d : Nat) {t e : TypeId} {a : Option Addr} {n c : Nat} (hu : P.underlying t = some (.slice e)) : (Op.equalIn (d + 1) t (.slice a n c) (.slice none 0 0)).run P w = .ok a.isNone w := by
  cases a <;> simp [Op.equalIn, run_underlying hu]
theorem nilB_does (ok : HeapOK w.heap g φ) {op : BinOp} {t e : TypeId} {ox oy : Operand} {a : Option Addr} {n c : Nat} (hu : P.underlying t = some (.slice e)) (rs : List Nat) :
    DoesO P w g φ (do pure (.value (← (do eqGuard op t ox oy (.slice a n c) (.slice none 0 0); binOp op t (.slice a n c) (.slice none 0 0))))) rs (nilB op a.isNone) := by
  have he : (Op.equal t (.slice a n c) (.slice none 0 0)).run P w = .ok a.isNone w := by
    simp only [Op.equal, Op.maxDepth]; exact equalIn_sl 9999 hu
  cases op
  case eql => exact DoesO.one ok (u := .bool a.isNone) (by simp [eqGuard, binOp, he]) (tB_rep _)
  case neq => exact DoesO.one ok (u := .bool (!a.isNone)) (by simp [eqGuard, binOp, he]) (tB_rep _)
  all_goals exact fun k h => h.elim
theorem nilS_does (ok : HeapOK w.heap g φ) {op : BinOp} {t e : TypeId} {ox oy : Operand} {x : T} {u : Value} (hu : P.underlying t = some (.slice e)) (hx : RepT w.heap g φ x u) (rs : List Nat) :
    DoesO P w g φ (do pure (.value (← (do eqGuard op t ox oy u (.slice none 0 0); binOp op t u (.slice none 0 0))))) rs (nilSO op x) := by
  intro k h
  unfold nilSO at h
  split at h
  · have r := rep_one hx
    cases r with
    | f _ _ r =>
      cases r with
      | nil wd a cap => exact nilB_does ok hu rs k (h a.isNone fun _ => rfl)
      | sl wd es b off cap c ty fr hw he hb hO hl hs hc hr => exact nilB_does ok hu rs k (h false fun e => by cases e)
  · have r := rep_one hx
    cases r with
    | nl a => exact nilB_does ok hu rs k (h a.isNone trivial)
  · rename_i n lo hi
    obtain ⟨fl, wd, es, hn, hf4, h⟩ := alive_elim h
    have r := rep_one hx
    cases r with
    | row _ _ _ _ r =>
      have r2 := r.2
      rw [hn] at r2
      obtain ⟨h1, h2, h3⟩ := r2
      split at h3
      · rename_i hp
        obtain ⟨a, rfl⟩ := h3
        have he : es = [] := by
          rcases (ok.ob n _ hn).row hf4 with ⟨he, _⟩ | ⟨hd, c, ty, q1, _⟩
          · exact he
          · rw [hp] at q1; cases q1
        exact nilB_does ok hu _ k (h a.isNone fun _ => by rw [he] at h2; simp at h2; omega)
      · rename_i hd hp
        obtain ⟨a, rfl, ha⟩ := h3
        refine nilB_does ok hu _ k (h a.isNone fun e => ?_)
        by_cases hlt : lo < hi
        · rw [ha (.inr (by have := cap_ge ok hn hf4 hp; dsimp only at h2; omega))] at e; cases e
        · omega
  · exact h.elim
theorem move_does (ok : HeapOK w.heap g φ) {x : T} {u : Value} (hx : RepT w.heap g φ x u) (rs : List Nat) : DoesO P w g φ (pure (.value u)) rs (moveO x) := by
  cases x <;> exact DoesO.one ok rfl hx
theorem pick_does (ok : HeapOK w.heap g φ) {c x y : T} {u v z : Value} (hc : RepT w.heap g φ c u) (hx : RepT w.heap g φ x v) (hy : RepT w.heap g φ y z) (rs : List Nat) :
    DoesO P w g φ (do pure (.value (if ← asBool u then v else z))) rs (pickO c x y) := by
  intro k h
  unfold pickO at h
  split at h
  · cases v_rep hc
    obtain ⟨ε, h1, n, w', φ', h2, h3⟩ := move_does (P := P) ok hx rs k h
    exact ⟨ε, h1, n, w', φ', by rw [← h2]; simp [asBool], h3⟩
  · cases v_rep hc
    obtain ⟨ε, h1, n, w', φ', h2, h3⟩ := move_does (P := P) ok hy rs k h
    exact ⟨ε, h1, n, w', φ', by rw [← h2]; simp [asBool], h3⟩
  · exact h.elim
theorem un_does (ok : HeapOK w.heap g φ) {op : UnOp} {x : T} {u : Value} (hx : RepT w.heap g φ x u) (rs : List Nat) : DoesO P w g φ (do pure (.value (← Op.unary op u))) rs (unO op x) := by
  intro k h
  unfold unO at h
  split at h
  · cases v_rep hx
    split at h
    · exact ⟨_, h, Does.value ok (u := .bool false) (by simp [Op.unary]) (tB_rep _)⟩
    · exact ⟨_, h, Does.value ok (u := .bool true) (by simp [Op.unary]) (tB_rep _)⟩
  · rename_i i z
    cases v_rep hx
    exact ⟨_, h, Does.value ok (u := .int i (i.wrap (0 - z))) (by simp [Op.unary, Op.intArith]) (tI_rep _ _)⟩
  · exact h.elim
theorem RepVs.at : ∀ (vs : List (Bool × List A)) (us : List Value) (i : Nat) {ag : Bool} {cs : List A}, RepVs h H φ vs us → vs[i]? = some (ag, cs) → ∃ u, us[i]? = some u ∧ RepV h H φ ag cs u
  | v :: vs, u :: us, 0, _, _, hr, hv => by cases hv; exact ⟨u, rfl, hr.1⟩
  | v :: vs, u :: us, i + 1, _, _, hr, hv => RepVs.at vs us i hr.2 hv
  | [], _, _, _, _, _, hv => by cases hv
  | _ :: _, [], _, _, _, hr, _ => hr.elim
theorem extr_does (ok : HeapOK w.heap g φ) {x : T} {i : Nat} {u : Value} (hx : RepT w.heap g φ x u) (rs : List Nat) : DoesO P w g φ (do pure (.value (← Instr.extract u i))) rs (extrO x i) := by
  intro k h
  unfold extrO at h
  split at h
  · rename_i vs
    obtain ⟨us, rfl, r⟩ := hx
    split at h
    · rename_i ag cs hv
      obtain ⟨u, hu, ru⟩ := RepVs.at vs us.toList i r hv
      have hu2 : us[i]? = some u := by simpa using hu
      exact ⟨_, h, Does.value ok (u := u) (by simp [Instr.extract, hu2]) ru⟩
    · exact h.elim
  · exact h.elim
theorem field_does (hT : TabOK P tb) (ok : HeapOK w.heap g φ) {t : TypeId} {sz bt : Nat} {z : List A} {fs : List (Nat × Nat × Bool)} {f : Nat} {o s : Nat} {ag : Bool} (hl : tb t = some (.st sz z fs bt)) (hf : fs[f]? = some (o, s, ag))
    {x : T} {u : Value} (hx : RepT w.heap g φ x u) (rs : List Nat) : DoesO P w g φ (do pure (.value (← Instr.field t u f))) rs (fieldO o s ag x) := by
  obtain ⟨inf, fields, zv, hu, _, _, _, _, _, _, _, _, hfs⟩ := hT.st t sz z fs bt hl
  obtain ⟨fd, inf', hfd, hoff, hi, hs, hz, _, d', hd', hag⟩ := hfs f _ hf
  dsimp only at hoff hs hag
  intro k h
  unfold fieldO at h
  split at h
  · rename_i cs
    obtain ⟨c, rfl, hc⟩ := hx
    have hlen := hc.length
    obtain ⟨hle, h⟩ := seg_elim h
    have hiag : (isAgg fd.type).run P w = .ok ag w := by
      unfold isAgg
      rw [Sem.run_bind, run_underlying hd' w, ← hag]
      cases d' <;> rfl
    have hc' := (hc.drop o).take s
    split at h
    · refine ⟨_, h, Does.value ok (u := .agg (c.extract o (o + s))) (by simp [Instr.field, run_underlying hu, hfd, asAgg, part, hiag, sizeOf, typeInfo, hi, hoff, hs]) ⟨_, rfl, ?_⟩⟩
      have : (c.extract o (o + s)).toList = (c.toList.drop o).take s := by
        simp [Array.toList_extract, List.extract_eq_take_drop]
      rw [this]; exact hc'
    · obtain ⟨h1, h⟩ := cond_K h
      have := Nat.eq_of_beq_eq_true h1
      subst this
      have hlt : o < cs.length := by omega
      have e1 : (cs.drop o).take 1 = [cs[o]] := by rw [List.drop_eq_getElem_cons hlt]; rfl
      rw [e1] at h hc'
      obtain ⟨u, hu', ru⟩ := hc.at (List.getElem?_eq_getElem hlt)
      have hu2 : c[o]? = some u := by simpa using hu'
      exact ⟨_, h, Does.value ok (u := u) (by simp [Instr.field, run_underlying hu, hfd, asAgg, part, hiag, hoff, hu2]) ⟨_, rfl, ru⟩⟩
  · exact h.elim
theorem chr_does (hT : TabOK P tb) (ok : HeapOK w.heap g φ) {t : TypeId} {z : A} {bt : Nat} (hl : tb t = some (.w .string z bt)) {x i : T} {u v : Value} (hx : RepT w.heap g φ x u) (hi : RepT w.heap g φ i v) (rs : List Nat) :
    DoesO P w g φ (do pure (.value (← Instr.index t u v))) rs (chrO x i) := by
  obtain ⟨hu, _⟩ := hT.w t _ z bt hl
  intro k h
  unfold chrO at h
  split at h
  · obtain ⟨⟨j, b⟩, ⟨hz, hb⟩, h⟩ := h
    dsimp only at hz hb
    subst hz
    cases v_rep hx
    cases v_rep hi
    exact ⟨_, h, Does.value ok (u := .int .u8 b.toNat) (by simp [Instr.index, asIntOf, run_underlying hu, hb]) (tI_rep _ _)⟩
  · exact h.elim
theorem mm_does (ok : HeapOK w.heap g φ) {mx : Bool} {ts : Array TypeId} {ty : TypeId} {cn : Array Bool} {x y : T} {u v : Value} (hx : RepT w.heap g φ x u) (hy : RepT w.heap g φ y v) (rs : List Nat) :
    DoesO P w g φ (builtin (if mx then .max else .min) ts ty cn #[u, v]) rs (mmO mx x y) := by
  intro k h
  unfold mmO at h
  split at h
  · cases v_rep hx
    cases v_rep hy
    cases mx with
    | true => exact ⟨_, h, Does.value ok (by simp [builtin, Builtin.max_, Builtin.max2]) (tI_rep _ _)⟩
    | false => exact ⟨_, h, Does.value ok (by simp [builtin, Builtin.min_, Builtin.min2]) (tI_rep _ _)⟩
  · exact h.elim
theorem conv_does (hT : TabOK P tb) (ok : HeapOK w.heap g φ) {s t : TypeId} {l l' : Lay} (hs : tb s = some l) (ht : tb t = some l') {x : T} {u : Value} (hx : RepT w.heap g φ x u) (rs : List Nat) :
    DoesO P w g φ (do pure (.value (← convert s t u))) rs (convO l l' x) := by
  intro k h
  unfold convO at h
  split at h
  · rename_i i0 z0 b0 kk z1 b1 i z
    obtain ⟨hu, _⟩ := hT.w s _ _ _ hs
    obtain ⟨hv, _⟩ := hT.w t _ _ _ ht
    cases v_rep hx
    exact ⟨_, h, Does.value ok (u := .int kk (kk.wrap z)) (by simp [convert, run_underlying hu, run_underlying hv, Conv.intToInt]) (tI_rep _ _)⟩
  · obtain ⟨hu, _⟩ := hT.w s _ _ _ hs
    obtain ⟨hv, _⟩ := hT.w t _ _ _ ht
    cases v_rep hx
    exact ⟨_, h, Does.value ok (by simp [convert, run_underlying hu, run_underlying hv]) (tS_rep _)⟩
  · exact h.elim
theorem caps_elim : ∀ {xs : List T} {κ : List (Bool × List A) → Out} {sq : Bool} {rs : List Nat} {q : Eff → Prop}, (capsK xs κ).K sq g rs q → ∃ cs, xs = cs.map (fun x => .val x.1 x.2) ∧ (κ cs).K sq g rs q
  | [], κ, sq, rs, q, h => ⟨[], rfl, h⟩
  | .val ag cs :: xs, κ, sq, rs, q, h => by
    obtain ⟨l, rfl, h2⟩ := caps_elim (xs := xs) (κ := fun r => κ ((ag, cs) :: r)) h
    exact ⟨(ag, cs) :: l, rfl, h2⟩
  | .tu _ :: _, _, _, _, _, h => h.elim
  | .bot :: _, _, _, _, _, h => h.elim
theorem RepV.wf {ag : Bool} {cs : List A} {u : Value} (r : RepV h H φ ag cs u) : wfv ag cs.length u ∧ ∀ j x, cs[j]? = some x → RepE h H φ x (partv ag u j) := by
  cases ag with
  | true =>
    obtain ⟨c, rfl, hc⟩ := r
    refine ⟨⟨c, rfl, by simpa using hc.length⟩, fun j x hx => ?_⟩
    obtain ⟨u, hu, ru⟩ := hc.at hx
    have : partv true (.agg c) j = u := by simp [partv, show c[j]? = some u by simpa using hu]
    rw [this]; exact ru
  | false =>
    obtain ⟨x, rfl, hx⟩ := r
    refine ⟨⟨rfl, hx.one⟩, fun j y hy => ?_⟩
    cases j with
    | zero => cases hy; exact hx
    | succ j => simp at hy
theorem func_does (ok : HeapOK w.heap g φ) {f : FuncId} {xs : List T} {us : List Value} (hx : ∀ (i : Nat) (x : T), xs[i]? = some x → ∃ u, us[i]? = some u ∧ RepT w.heap g φ x u) (hlen : us.length = xs.length) (rs : List Nat) :
    DoesO P w g φ (do pure (.value (← Instr.makeFunc (.func f) #[] us.toArray))) rs (capsK xs fun caps => one (.val false [.cl f caps])) := by
  intro k h
  obtain ⟨cs, rfl, h2⟩ := caps_elim h
  have hcl : RepE w.heap g φ (.cl f cs) (.func (.func f) #[] us.toArray) := by
    refine RepE.cl f cs us.toArray (by simpa using hlen) (fun i x hi => ?_) (fun i x j y hi hj => ?_)
    · obtain ⟨u, hu, ru⟩ := hx i (.val x.1 x.2) (by rw [List.getElem?_map, hi]; rfl)
      have : us.toArray.getD i undef = u := by simp [hu]
      rw [this]
      exact (RepV.wf ru).1
    · obtain ⟨u, hu, ru⟩ := hx i (.val x.1 x.2) (by rw [List.getElem?_map, hi]; rfl)
      have : us.toArray.getD i undef = u := by simp [hu]
      rw [this]
      exact (RepV.wf ru).2 j y hj
  exact ⟨_, h2, Does.value ok (u := .func (.func f) #[] us.toArray) (by simp [Instr.makeFunc]) ⟨_, rfl, hcl⟩⟩
theorem bound_run {v : Value} {z : T} (hr : RepT h H φ z v) {dflt a b : Nat} (hp : bndP (some z) dflt a) (hab : a ≤ b) (code : BoundsCode) : (Instr.sliceBound v b code).run P w = .ok a w := by
  unfold bndP at hp
  split at hp
  · rename_i heq; cases heq
  · rename_i z' heq
    cases heq
    cases v_rep hr
    subst hp
    simp [Instr.sliceBound, asIntOf, hab]
  · exact hp.elim
theorem bounds_run {isS : Bool} {len cap a b : Nat} {lo hi : Option T} {ul uh : Option Value} (hl : ∀ x, lo = some x → ∃ u, ul = some u ∧ RepT h H φ x u) (hl0 : lo = none → ul = none) (hh : ∀ x, hi = some x → ∃ u, uh = some u ∧ RepT h H φ x u) (hh0 : hi = none → uh = none)
    (ha : bndP lo 0 a) (hb : bndP hi len b) (hab : a ≤ b) (hbc : b ≤ cap) : (Instr.sliceBounds isS len cap ul uh none).run P w = .ok (a, b, cap) w := by
  cases lo with
  | none =>
    rw [hl0 rfl]
    cases ha
    cases hi with
    | none => rw [hh0 rfl]; cases hb; simp [Instr.sliceBounds]
    | some y =>
      obtain ⟨u, rfl, ru⟩ := hh y rfl
      simp [Instr.sliceBounds, bound_run (P := P) (w := w) ru hb hbc]
  | some x =>
    obtain ⟨v, rfl, rv⟩ := hl x rfl
    cases hi with
    | none => rw [hh0 rfl]; cases hb; simp [Instr.sliceBounds, bound_run (P := P) (w := w) rv ha hab]
    | some y =>
      obtain ⟨u, rfl, ru⟩ := hh y rfl
      simp [Instr.sliceBounds, bound_run (P := P) (w := w) ru hb hbc, bound_run (P := P) (w := w) rv ha hab]
end
end Go.Proofs.YtchfpgpboifbeaaGreat.Ac
set_option linter.unusedVariables false
set_option linter.unusedSimpArgs false
namespace Go.Proofs.YtchfpgpboifbeaaGreat.Ac
open Go.RowKit
section
variable {P : Program} {tb : Tab} {g : Hp} {φ : Phi} {w : World} {h : Array Obj} {H : Hp}
theorem RepA.cp {X : Place} {x : A} {u : Value} (r : RepA h H φ X x u) : RepE h H φ (cpA x) u := by
  cases r with
  | e _ _ _ r => cases r <;> (rename_i r; first | exact r | skip) <;> constructor <;> assumption
  | nilo _ wd a => exact .un _ _ rfl fun n hn => by cases hn; exact ⟨a, 0, rfl⟩
  | ow _ wd es hd c ty => exact .un _ _ rfl fun n hn => by cases hn; exact ⟨_, _, rfl⟩
structure Src (w : World) (g : Hp) (φ : Phi) (size : Nat) (new : List (List A)) (m : Nat) (news : List Value) : Prop where
  len : new.length = m
  wd : ∀ e ∈ new, e.length = size
  sz : news.length = m * size
  one : ∀ x ∈ news, x.oneCell' = true
  rep : ∀ i e j x, new[i]? = some e → e[j]? = some x → RepE w.heap g φ x (news.getD (i * size + j) undef)
def Hands (P : Program) (w : World) (size : Nat) (v : Value) (m : Nat) (news : List Value) : Prop := ∃ a cap, v = .slice a m cap ∧ ∀ w', w'.heap = w.heap → (Builtin.firstCells size m v).run P w' = .ok news.toArray w' ∧
  ∀ k ≤ m, (Builtin.firstCells size k v).run P w' = .ok (news.take (k * size)).toArray w'
theorem hands_none {size : Nat} {a : Option Addr} {cap : Nat} : Hands P w size (.slice a 0 cap) 0 [] := by
  refine ⟨a, cap, rfl, fun w' hw => ?_⟩
  have : (Builtin.firstCells size 0 (.slice a 0 cap)).run P w' = .ok #[] w' := by
    cases a with
    | none => simp [Builtin.firstCells]
    | some a => exact run_firstCells_some w' size 0 a 0 cap [] (by simp) (by simp)
  exact ⟨this, fun k hk => by obtain rfl : k = 0 := by omega
                              simpa using this⟩
theorem hands_at {size b off m cap : Nat} {c : Array Value} {ty : TypeId} {fr : Nat × Nat} (hb : w.heap[b]? = some (.cells c ty fr)) (hs : off + m * size ≤ c.size) :
    Hands P w size (.slice (some ⟨b, off, none⟩) m cap) m ((List.range (m * size)).map fun j => c.getD (off + j) undef) := by
  have key : ∀ w' : World, w'.heap = w.heap → ∀ k ≤ m, (Builtin.firstCells size k (.slice (some ⟨b, off, none⟩) m cap)).run P w' = .ok ((List.range (k * size)).map fun j => c.getD (off + j) undef).toArray w' := by
    intro w' hw k hk
    refine run_firstCells_some w' size k ⟨b, off, none⟩ m cap _ (by simp) fun j v hj => ?_
    obtain ⟨h1, rfl⟩ := range_get hj
    rw [Addr.add_lit]
    refine getD_cell (by rw [hw]; exact hb) ?_
    have := Nat.mul_le_mul_right size hk
    omega
  refine ⟨_, _, rfl, fun w' hw => ⟨key w' hw m (Nat.le_refl _), fun k hk => ?_⟩⟩
  rw [← List.map_take, List.take_range, Nat.min_eq_left (Nat.mul_le_mul_right _ hk)]
  exact key w' hw k hk
theorem getD_range {n j : Nat} {f : Nat → Value} (hj : j < n) : ((List.range n).map f).getD j undef = f j := by
  simp [List.getD_eq_getElem?_getD, List.getElem?_range hj]
theorem src_row (ok : HeapOK w.heap g φ) {n lo hi fl wd : Nat} {es : List (List A)} (hn : g n = some (some ⟨fl, wd, es⟩)) (hf4 : fl ≠ 4) {v : Value} (r : RepE w.heap g φ (.row n lo hi) v) :
    ∃ m news, Hands P w wd v m news ∧ m = ((es.take hi).drop lo).length ∧ lo ≤ hi ∧ hi ≤ es.length ∧ 0 < wd ∧ (∀ e ∈ es, e.length = wd) ∧ news.length = m * wd ∧ (∀ x ∈ news, x.oneCell' = true) ∧
      ∀ i e j x, ((es.take hi).drop lo)[i]? = some e → e[j]? = some x → RepE w.heap g φ (cpA x) (news.getD (i * wd + j) undef) := by
  have r0 := r
  cases r with
  | row _ _ _ _ r =>
    have r2 := r.2
    rw [hn] at r2
    obtain ⟨h1, h2, h3⟩ := r2
    dsimp only at h2 h3
    rcases ((ok.ob n _ hn).row hf4) with ⟨h0, hp⟩ | ⟨hd, c, ty, g1, g2, g3, g4, g5⟩
    · dsimp only at h0
      subst h0
      rw [hp] at h3
      obtain ⟨a, rfl⟩ := h3
      have : hi = 0 := by simpa using h2
      subst this
      exact ⟨0, [], hands_none, by simp, h1, h2, (ok.ob n _ hn).1, fun e he => (by cases he), by simp, fun x hx => (by cases hx), fun i e j x hi => (by simp at hi)⟩
    · rw [g1] at h3
      obtain ⟨a, rfl, ha⟩ := h3
      dsimp only at g3 g5 ha
      have hlen : ((es.take hi).drop lo).length = hi - lo := by simp; omega
      by_cases hlt : lo < hi
      · rw [ha (.inr (by have := g3.le; omega))]
        have hin : hd.off + lo * wd + (hi - lo) * wd ≤ c.size := by
          rw [g3.size, Nat.add_assoc, ← Nat.add_mul]
          exact Nat.add_le_add_left (Nat.mul_le_mul_right _ (by have := g3.le; omega)) _
        refine ⟨hi - lo, _, hands_at g2 hin, hlen.symm, h1, h2, g3.wd0, g3.len, by simp, fun x hx => ?_, fun i e j x hi' hj => ?_⟩
        · obtain ⟨k, hk, rfl⟩ := List.mem_map.1 hx
          exact g3.one _ (by have := List.mem_range.1 hk; omega)
        · rw [List.getElem?_drop, List.getElem?_take] at hi'
          split at hi'
          · have hel := g3.len e (List.mem_of_getElem? hi')
            have hjl := (List.getElem?_eq_some_iff.1 hj).1
            have : i * wd + j < (hi - lo) * wd := idx_lt (by omega) (by omega)
            rw [getD_range this]
            have := (g5 _ e j x hi' hj).cp
            rw [Nat.add_mul] at this
            rw [show hd.off + lo * wd + (i * wd + j) = hd.off + (lo * wd + i * wd) + j by omega]
            exact this
          · cases hi'
      · have : hi = lo := by omega
        subst this
        rw [Nat.sub_self]
        exact ⟨0, [], hands_none, by rw [hlen, Nat.sub_self], h1, h2, g3.wd0, g3.len, by simp, fun x hx => (by cases hx), fun i e j x hi => (by simp at hi)⟩
theorem noOw_cp : ∀ {e : List A}, noOw.go e = true → e.map cpA = e
  | [], _ => rfl
  | x :: e, h => by
    have hx : cpA x = x ∧ noOw.go e = true := by cases x <;> first | exact ⟨rfl, h⟩ | cases h
    rw [List.map_cons, hx.1, noOw_cp hx.2]
theorem noOw_cpE : ∀ {es : List (List A)}, noOw es = true → cpE es = es
  | [], _ => rfl
  | e :: es, h => by
    simp only [noOw, Bool.and_eq_true] at h
    have := noOw_cpE h.2
    simp only [cpE, List.map_cons, noOw_cp h.1] at this ⊢
    rw [this]
theorem src_elim {k : Eff → Prop} (ok : HeapOK w.heap g φ) {size : Nat} (h0 : 0 < size) {y : T} {v : Value} (hy : RepT w.heap g φ y v) {κ : List (List A) → Out} {rs : List Nat} (h : (srcO size y κ).K true g rs k) :
    ∃ new rs' m news, (κ new).K true g rs' k ∧ Hands P w size v m news ∧ Src w g φ size new m news := by
  unfold srcO at h
  split at h
  · have r := rep_one hy
    cases r
    exact ⟨[], rs, 0, [], h, hands_none, ⟨rfl, fun e he => (by cases he), by simp, fun x hx => (by cases hx), fun i e j x hi => (by simp at hi)⟩⟩
  · rename_i wd' es
    obtain ⟨hb, hk⟩ := cond_K h
    clear h
    have := Nat.eq_of_beq_eq_true hb
    subst this
    obtain ⟨es', rfl, h⟩ := hk
    have r := rep_one hy
    cases r with
    | f _ _ r =>
    cases r with
    | nil _ a cap => exact ⟨_, _, 0, [], h, hands_none, ⟨rfl, fun e he => (by cases he), by simp, fun x hx => (by cases hx), fun i e j x hi => (by simp at hi)⟩⟩
    | sl _ _ b off cap c ty fr hw he hb hO hl hs hc hr =>
      have hone : ∀ i e j x, es[i]? = some e → e[j]? = some x → i * size + j < es.length * size := fun i e j x hi hj => by
        have h1 := (List.getElem?_eq_some_iff.1 hi).1
        have h2 := (List.getElem?_eq_some_iff.1 hj).1
        rw [hl e (List.mem_of_getElem? hi)] at h2
        exact idx_lt h1 h2
      refine ⟨_, _, es.length, _, h, hands_at hb hs, ⟨by simp, fun e he => ?_, by simp, fun x hx => ?_, fun i e j x hi hj => ?_⟩⟩
      · obtain ⟨e', he', rfl⟩ := List.mem_map.1 he
        simpa using hl e' he'
      · obtain ⟨k', hk', rfl⟩ := List.mem_map.1 hx
        have hk' := List.mem_range.1 hk'
        have hd : k' / size < es.length := Nat.div_lt_of_lt_mul (by rw [Nat.mul_comm]; exact hk')
        have hm : k' % size < size := Nat.mod_lt _ h0
        have hel : (es[k' / size]).length = size := hl _ (List.getElem_mem _)
        have := hr (k' / size) es[k' / size] (k' % size) (es[k' / size][k' % size]'(by omega)) (by simp [hd]) (by simp [hel, hm])
        have e1 : off + k' / size * size + k' % size = off + k' := by
          have := Nat.div_add_mod k' size
          rw [Nat.mul_comm] at this; omega
        rw [e1] at this
        exact this.one
      · rw [List.getElem?_map] at hi
        cases hq : es[i]? with
        | none => rw [hq] at hi; cases hi
        | some e0 =>
          rw [hq] at hi
          cases hi
          rw [List.getElem?_map] at hj
          cases hq2 : e0[j]? with
          | none => rw [hq2] at hj; cases hj
          | some x0 =>
            rw [hq2] at hj
            cases hj
            rw [getD_range (hone i e0 j x0 hq hq2), ← Nat.add_assoc]
            exact .f _ _ (hr i e0 j x0 hq hq2)
  · rename_i m lo hi
    obtain ⟨fl, wd, es, hn, hf4, hk0⟩ := alive_elim h
    clear h
    obtain ⟨hb, h⟩ := cond_K hk0
    clear hk0
    have := Nat.eq_of_beq_eq_true hb
    subst this
    obtain ⟨m', news, hh, hm, h1, h2, h3, h4, h5, h6, h7⟩ := src_row (P := P) ok hn hf4 (rep_one hy)
    have fin : ∀ {new : List (List A)}, new = cpE ((es.take hi).drop lo) → Src w g φ size new m' news := by
      rintro new rfl
      refine ⟨by simp [cpE, hm], fun e he => ?_, h5, h6, fun i e j x hi hj => ?_⟩
      · obtain ⟨e', he', rfl⟩ := List.mem_map.1 he
        simpa using h4 e' (List.mem_of_mem_take (List.mem_of_mem_drop he'))
      · simp only [cpE, List.getElem?_map] at hi
        cases hq : ((es.take _).drop lo)[i]? with
        | none => rw [hq] at hi; cases hi
        | some e0 =>
          rw [hq] at hi
          cases hi
          rw [List.getElem?_map] at hj
          cases hq2 : e0[j]? with
          | none => rw [hq2] at hj; cases hj
          | some x0 =>
            rw [hq2] at hj
            cases hj
            exact h7 i e0 j x0 hq hq2
    cases hc : (Nat.beq fl 2 && noOw es && Nat.beq lo 0 && Nat.beq hi es.length)
    · rw [hc] at h
      obtain ⟨es', he, h⟩ := h
      exact ⟨es', _, m', news, h, hh, fin he.symm⟩
    · rw [hc] at h
      simp only [Bool.and_eq_true] at hc
      have e1 := Nat.eq_of_beq_eq_true hc.1.2
      have e2 := Nat.eq_of_beq_eq_true hc.2
      refine ⟨es, _, m', news, h, hh, fin ?_⟩
      rw [e1, e2, List.drop_zero, List.take_length, noOw_cpE hc.1.1.2]
  · exact h.elim
theorem run_append_room' {t u ty e e' : TypeId} {inf : TypeInfo} (ht : P.underlying t = some (.slice e)) (hu : P.underlying u = some (.slice e')) (hi : P.info? e = some inf) {b off sLen sCap m : Nat} {v : Value} {news : List Value} (hv : Hands P w inf.size v m news)
    {c : Array Value} {tc : TypeId} (hb : w.heap[b]? = some (.cells c tc (0, 0))) (hroom : sLen + m ≤ sCap) (hfit : off + sLen * inf.size + news.length ≤ c.size) (h1 : ∀ x ∈ news, x.oneCell' = true) :
    (Builtin.append_ #[t, u] ty #[.slice (some ⟨b, off, none⟩) sLen sCap, v]).run P w = .ok (.slice (some ⟨b, off, none⟩) (sLen + m) sCap)
      (w.setRow b (c.toList.take (off + sLen * inf.size) ++ news ++ c.toList.drop (off + sLen * inf.size + news.length)).toArray) := by
  obtain ⟨a, cap, rfl, hf⟩ := hv
  have hst := run_storeCells_at P b (off + sLen * inf.size) tc news 0 c w hb (by simpa using hfit) h1
  simp only [Nat.add_zero] at hst
  simp [Builtin.append_, run_underlying ht, run_underlying hu, sizeOf, typeInfo, hi, Builtin.lenOf, hroom, (hf w rfl).1, Addr.add_lit, hst]
theorem run_append_none' {t u ty e e' : TypeId} {inf : TypeInfo} (ht : P.underlying t = some (.slice e)) (hu : P.underlying u = some (.slice e')) (hi : P.info? e = some inf) {a : Option Addr} {v : Value} {news : List Value} (hv : Hands P w inf.size v 0 news) (hn : news = []) :
    (Builtin.append_ #[t, u] ty #[.slice a 0 0, v]).run P w = .ok (.slice a 0 0) w := by
  obtain ⟨a', cap, rfl, hf⟩ := hv
  subst hn
  cases a <;> simp [Builtin.append_, run_underlying ht, run_underlying hu, sizeOf, typeInfo, hi, Builtin.lenOf, (hf w rfl).1, storeCells]
theorem run_append_more' {t u ty e e' : TypeId} {inf : TypeInfo} (ht : P.underlying t = some (.slice e)) (hu : P.underlying u = some (.slice e')) (hi : P.info? e = some inf) {z : Value} (hz : inf.zero = some z) {base : Option Addr} {sLen sCap m : Nat} {v : Value} {olds news : List Value}
    (ho : ∀ w', w'.heap = w.heap → (Builtin.firstCells inf.size sLen (.slice base sLen sCap)).run P w' = .ok olds.toArray w') (hv : Hands P w inf.size v m news) (hg : sCap < sLen + m) (hlt : sLen + m < 2 ^ 30) (hbt : inf.bytes ≤ 65536) :
    (Builtin.append_ #[t, u] ty #[.slice base sLen sCap, v]).run P w = .ok (.slice (some ⟨w.heap.size, 0, none⟩) (sLen + m) (grownCap w (sLen + m) sCap e))
        (w.drew.alloc (.cells (olds.toArray ++ news.toArray ++ Builtin.zeroCells z.cells (grownCap w (sLen + m) sCap e - (sLen + m))) e)) := by
  obtain ⟨a', cap, rfl, hf⟩ := hv
  have hn : ¬ (sLen + m ≤ sCap) := by omega
  have h63' : ¬ (9223372036854775807 < ((sLen : Int) + (m : Int))) := by omega
  have hfit : Builtin.nextslicecap (sLen + m) sCap * inf.bytes ≤ 281474976710656 := growslice_fits hg (by
    have := Nat.mul_le_mul (show sLen + m ≤ 2 ^ 30 by omega) hbt
    omega)
  have h48' : ¬ (281474976710656 < Builtin.nextslicecap (sLen + m) sCap * inf.bytes) := by omega
  simp [Builtin.append_, run_underlying ht, run_underlying hu, sizeOf, typeInfo, zeroValue, hi, hz, Builtin.lenOf, hn, h63', h48', Question.forced, (hf w.drew rfl).1, ho w.drew rfl, newRow, grownCap]
  congr 2
  apply Array.ext'
  simp [List.append_assoc]
structure AppR (P : Program) (w : World) (t u ty e : TypeId) (inf : TypeInfo) (z v : Value) (m : Nat) (news : List Value) : Prop where
  room : ∀ {b off sLen sCap : Nat} {c : Array Value} {tc : TypeId}, w.heap[b]? = some (.cells c tc (0, 0)) → sLen + m ≤ sCap → off + sLen * inf.size + news.length ≤ c.size → (∀ x ∈ news, x.oneCell' = true) →
    (Builtin.append_ #[t, u] ty #[.slice (some ⟨b, off, none⟩) sLen sCap, v]).run P w = .ok (.slice (some ⟨b, off, none⟩) (sLen + m) sCap) (w.setRow b (c.toList.take (off + sLen * inf.size) ++ news ++ c.toList.drop (off + sLen * inf.size + news.length)).toArray)
  none : m = 0 → news = [] → ∀ a : Option Addr, (Builtin.append_ #[t, u] ty #[.slice a 0 0, v]).run P w = .ok (.slice a 0 0) w
  more : ∀ {base : Option Addr} {sLen sCap : Nat} {olds : List Value}, (∀ w', w'.heap = w.heap → (Builtin.firstCells inf.size sLen (.slice base sLen sCap)).run P w' = .ok olds.toArray w') → sCap < sLen + m → sLen + m < 2 ^ 30 →
    (Builtin.append_ #[t, u] ty #[.slice base sLen sCap, v]).run P w = .ok (.slice (some ⟨w.heap.size, 0, .none⟩) (sLen + m) (grownCap w (sLen + m) sCap e))
        (w.drew.alloc (.cells (olds.toArray ++ news.toArray ++ Builtin.zeroCells z.cells (grownCap w (sLen + m) sCap e - (sLen + m))) e))
theorem AppR.hands {t u ty e e' : TypeId} {inf : TypeInfo} (ht : P.underlying t = some (.slice e)) (hu : P.underlying u = some (.slice e')) (hi : P.info? e = some inf) {z : Value} (hz : inf.zero = some z) {m : Nat} {v : Value} {news : List Value} (hv : Hands P w inf.size v m news) (hbt : inf.bytes ≤ 65536) :
    AppR P w t u ty e inf z v m news :=
  ⟨fun hb hr hf h1 => run_append_room' ht hu hi hv hb hr hf h1, fun hm hn a => by subst hm; exact run_append_none' ht hu hi hv hn, fun ho hg hlt => run_append_more' ht hu hi hz ho hv hg hlt hbt⟩
theorem AppR.zeros {t u ty e : TypeId} {inf : TypeInfo} {kn : IntKind} (ht : P.underlying t = some (.slice e)) (hu : P.underlying u = some (.int kn)) (hi : P.info? e = some inf) {z : Value} (hz : inf.zero = some z) (h0 : 0 < inf.size) (hzs : z.cells.size = inf.size) {m : Nat} (hm : m < 2 ^ 30) (hbt : inf.bytes ≤ 65536) :
    AppR P w t u ty e inf z (.int .i64 (m : Int)) m (Builtin.zeroCells z.cells m).toList := by
  have hw : IntKind.i64.wrap (m : Int) = m := by rw [IntKind.wrap_i64]; omega
  have w0 : IntKind.i64.wrap 0 = 0 := by rw [IntKind.wrap_i64]; rfl
  have hneg : ¬ ((m : Int) < 0) := by omega
  have hmul := Nat.mul_le_mul (show m ≤ 2 ^ 30 by omega) hbt
  have h48 : ¬ (281474976710656 < (m : Int) * (inf.bytes : Int)) := by rw [← Int.natCast_mul]; omega
  have hz0 : m = 0 → Builtin.zeroCells z.cells m = #[] := fun e => by subst e; simp [Builtin.zeroCells]
  have hns : m * inf.size = 0 ↔ m = 0 := by
    constructor
    · intro h; rcases Nat.mul_eq_zero.1 h with h | h <;> omega
    · intro h; rw [h, Nat.zero_mul]
  refine ⟨fun {b off sLen sCap c tc} hb hr hf h1 => ?_, fun h hn a => ?_, fun {base sLen sCap olds} ho hg hlt => ?_⟩
  · have hst := run_storeCells_at P b (off + sLen * inf.size) tc (Builtin.zeroCells z.cells m).toList 0 c w hb (by simpa using hf) h1
    simp only [Nat.add_zero] at hst
    by_cases hm0 : m = 0
    · have := hz0 hm0
      rw [this] at hst ⊢
      subst hm0
      simp [Builtin.append_, run_underlying ht, run_underlying hu, sizeOf, typeInfo, asInt, asIntOf, hi, w0, Addr.add_lit, show sLen ≤ sCap from hr] at hst ⊢
      simp [hst]
    · simp [Builtin.append_, run_underlying ht, run_underlying hu, sizeOf, typeInfo, zeroValue, asInt, asIntOf, hi, hz, hr, hw, hneg, h48, hns, hm0, Addr.add_lit, hst]
  · subst h
    cases a <;> simp [Builtin.append_, run_underlying ht, run_underlying hu, sizeOf, typeInfo, asInt, asIntOf, hi, w0, storeCells]
  · have hn : ¬ (sLen + m ≤ sCap) := by omega
    have h63' : ¬ (9223372036854775807 < ((sLen : Int) + (m : Int))) := by omega
    have hfit : Builtin.nextslicecap (sLen + m) sCap * inf.bytes ≤ 281474976710656 := growslice_fits hg (by
      have := Nat.mul_le_mul (show sLen + m ≤ 2 ^ 30 by omega) hbt
      omega)
    have h48' : ¬ (281474976710656 < Builtin.nextslicecap (sLen + m) sCap * inf.bytes) := by omega
    by_cases hm0 : m = 0
    · rw [hz0 hm0]
      subst hm0
      have hn' : ¬ (sLen ≤ sCap) := by omega
      have h63'' : ¬ (9223372036854775807 < (sLen : Int)) := by omega
      simp only [Nat.add_zero] at h48'
      simp [Builtin.append_, run_underlying ht, run_underlying hu, sizeOf, typeInfo, zeroValue, asInt, asIntOf, hi, hz, hn', w0, h63'', h48', Question.forced, ho w.drew rfl, newRow, grownCap]
    · simp [Builtin.append_, run_underlying ht, run_underlying hu, sizeOf, typeInfo, zeroValue, asInt, asIntOf, hi, hz, hn, hw, hneg, h48, hns, hm0, h63', h48', Question.forced, ho w.drew rfl, newRow, grownCap]
end
end Go.Proofs.YtchfpgpboifbeaaGreat.Ac
