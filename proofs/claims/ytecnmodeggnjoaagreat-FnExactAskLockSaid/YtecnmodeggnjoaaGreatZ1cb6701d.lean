/- Several of our texts, one behind the other, without what this claim does not need: AcX. -/
import Derived.Test.YtecnmodeggnjoaaGreatZ408b55db
set_option linter.unusedVariables false
set_option linter.unusedSimpArgs false
namespace Go.Proofs.YtecnmodeggnjoaaGreat.Ac
open Go.RowKit
section
variable (P : Program) (tb : Tab) (N : Nat) (ops : Array Oper)
def operOK' (o : Oper) : Bool := o.op.operands.toList.all operOK && match o.dst with
  | some d => Nat.blt d N
  | none => true
def gate (o : Oper) (e : Env) : Option Bool := match o.guard with
  | none => some true
  | some (j, want) => match (dsts ops j).bind e with
    | some (.val false [.f (.v (.bool true))]) => some want
    | some (.val false [.f (.v (.bool false))]) => some (!want)
    | some (.tu []) => some false
    | _ => none
def stepR (i : Nat) (e : Env) (g : Hp) (ε : Eff) : Prop := ∃ o, ops[i]? = some o ∧ operOK' N o = true ∧ ((gate ops o e = some true ∧ (actO P tb o.op (o.dst.getD 0) (evT e)).K false g [] (fun ε' => ε' = ε)) ∨ (gate ops o e = some false ∧ ε = ⟨.tu [], [], []⟩))
def stepK (sq : Bool) (o : Oper) (e : Env) (g : Hp) (k : Eff → Prop) : Prop := cond (operOK' N o) (match gate ops o e with
  | some true => (actO P tb o.op (o.dst.getD 0) (evT e)).K sq g [] k
  | some false => k ⟨.tu [], [], []⟩
  | none => False) False
def regK (sq : Bool) : List Oper → Es → Hs → List Eff → (Es → Hs → List Eff → Prop) → Prop
  | [], es, hs, acc, k => k es hs acc
  | o :: os, es, hs, acc, k => stepK P tb N ops sq o (get es) (get hs) fun ε => match ε with
    | ⟨v, rd, u⟩ => match o.dst, u with
      | some d, [] => regK sq os ((d, v) :: es) hs (⟨v, rd, []⟩ :: acc) k
      | some d, x :: u => regK sq os ((d, v) :: es) (x :: u ++ hs) (⟨v, rd, x :: u⟩ :: acc) k
      | none, u => regK sq os es (u ++ hs) (⟨v, rd, u⟩ :: acc) k
end
section
variable {P : Program} {tb : Tab} {N : Nat} {ops : Array Oper}
theorem cond_elim' {b : Bool} {p : Prop} (h : cond b p False) : b = true ∧ p := by
  cases b
  · exact h.elim
  · exact ⟨rfl, h⟩
theorem stepK_elim {i : Nat} {o : Oper} (ho : ops[i]? = some o) {e : Env} {g : Hp} {k : Eff → Prop} (h : stepK P tb N ops false o e g k) : ∃ ε, stepR P tb N ops i e g ε ∧ k ε := by
  obtain ⟨h0, h⟩ := cond_elim' h
  split at h
  · rename_i hg
    obtain ⟨ε, h1, h2⟩ := Out.elim _ _ h
    exact ⟨ε, ⟨o, ho, h0, .inl ⟨hg, h1⟩⟩, h2⟩
  · rename_i hg
    exact ⟨_, ⟨o, ho, h0, .inr ⟨hg, rfl⟩⟩, h⟩
  · exact h.elim
theorem evT_congr {e e' : Env} {x : Operand} (h : ∀ t, x = .tmp t → e' t = e t) : evT e' x = evT e x := by
  cases x with
  | tmp t => simp only [evT]; rw [h t rfl]
  | _ => rfl
theorem stepR_local : Local ops (stepR P tb N ops) := by
  rintro i o e g ε e' g' ho ⟨o', ho', h0, h⟩ he hg
  rw [ho] at ho'
  cases ho'
  have hgate : gate ops o e' = gate ops o e := by
    unfold gate
    cases hgd : o.guard with
    | none => rfl
    | some p =>
      obtain ⟨j, want⟩ := p
      dsimp only
      cases hd : dsts ops j with
      | none => rfl
      | some t =>
        have : e' t = e t := he t (by
          simp only [dsts] at hd
          simp [Oper.looksAt, hgd, hd])
        simp only [Option.bind_some, this]
  have hev : ∀ x ∈ o.op.operands, evT e' x = evT e x := fun x hx => evT_congr fun t ht => he t (by
    subst ht
    exact List.mem_append_left _ (List.mem_filterMap.2 ⟨.tmp t, by simpa using hx, rfl⟩))
  refine ⟨o, ho, h0, ?_⟩
  rw [hgate]
  rcases h with ⟨h1, h2⟩ | ⟨h1, h2⟩
  · refine .inl ⟨h1, ?_⟩
    have hact : actO P tb o.op (o.dst.getD 0) (evT e') = actO P tb o.op (o.dst.getD 0) (evT e) := by
      unfold actO
      split
      · rename_i x args hc
        obtain ⟨ts, hop⟩ := callee_eq hc
        have hm : args.toList.map (evT e') = args.toList.map (evT e) := List.map_congr_left fun x hx => hev x (by rw [hop]; simp [Op.operands, Call.operands]; exact .inr (by simpa using hx))
        rw [hm, hev x (by rw [hop]; simp [Op.operands, Call.operands])]
      · split
        · rename_i op t x y hst
          have hop : ∃ z, o.op = .binOp op t x y z := by
            unfold isStr at hst
            split at hst
            · rename_i op0 t0 x0 y0 z0 he
              split at hst
              · cases hst; exact ⟨z0, he⟩
              · cases hst
            · cases hst
          obtain ⟨z, hop⟩ := hop
          rw [hev x (by rw [hop]; simp [Op.operands]), hev y (by rw [hop]; simp [Op.operands])]
        · exact opO_congr hev
    rw [hact]
    exact Out.local hg _ _ h2
  · exact .inr ⟨h1, h2⟩
variable {w₀ : World} {H₀ : Hp} {φ₀ : Phi} {e : Env} {g : Hp} {φ : Phi} {a : Act} {w : World} {ε : Eff} {K : Act → World → Prop} {Q : Exit → Act → World → Prop}
theorem gate_wanted (s : Sim w₀ H₀ φ₀ N e g φ a w) {o : Oper} {b : Bool} (h : gate ops o e = some b) : Region.wanted o (yielded ops a.tmps) = b := by
  unfold gate at h
  unfold Region.wanted
  cases hgd : o.guard with
  | none => rw [hgd] at h; cases h; rfl
  | some p =>
    obtain ⟨j, want⟩ := p
    rw [hgd] at h
    dsimp only at h ⊢
    have key : ∀ x, (dsts ops j).bind e = some (.val false [.f (.v (.bool x))]) → yielded ops a.tmps j = some x := by
      intro x hx
      cases hd : dsts ops j with
      | none => rw [hd] at hx; cases hx
      | some t =>
        rw [hd] at hx
        have hv : a.eval (.tmp t) = .bool x := v_rep (s.env t _ hx)
        simp only [Act.eval] at hv
        have ht : a.tmps[t]? = some (.bool x) := by
          cases hq : a.tmps[t]? with
          | none => simp [hq, undef] at hv
          | some y => simp [hq] at hv; rw [hv]
        simp only [dsts] at hd
        unfold yielded
        rw [hd]
        simp [ht]
    split at h
    · rename_i hx
      cases h
      rw [key true hx]; cases b <;> rfl
    · rename_i hx
      cases h
      rw [key false hx]; cases want <;> rfl
    · rename_i hx
      cases h
      have : yielded ops a.tmps j = none := by
        cases hd : dsts ops j with
        | none => rw [hd] at hx; cases hx
        | some t =>
          rw [hd] at hx
          obtain ⟨us, hu, _⟩ := s.env t _ hx
          simp only [Act.eval] at hu
          simp only [dsts] at hd
          unfold yielded
          rw [hd]
          cases hq : a.tmps[t]? with
          | none => simp [hq]
          | some y => simp [hq] at hu; simp [hq, hu]
      rw [this]; rfl
    · cases h
theorem stepK_wp (hT : TabOK P tb) {i : Nat} {o : Oper} (ho : ops[i]? = some o) {k : Eff → Prop} (h : stepK P tb N ops true o e g k) (s : Sim w₀ H₀ φ₀ N e g φ a w) (hK : ∀ ε, k ε → ∀ a' w', SimS w₀ H₀ φ₀ N (putE o.dst ε.val e) (putH ε.upd g) a' w' → K a' w') : wpOp P ops Q i K a w := by
  obtain ⟨h0, h⟩ := cond_elim' h
  simp only [operOK', Bool.and_eq_true] at h0
  rw [Array.all_toList] at h0
  have hd : ∀ x, o.dst = some x → x < N := fun x hx => by
    have := h0.2
    rw [hx] at this
    simpa [Nat.blt, Nat.lt_iff_add_one_le] using this
  unfold wpOp
  rw [ho]
  dsimp only
  split at h
  · rename_i hg
    rw [if_pos (gate_wanted s hg)]
    exact .inl (act_wp hT s h0.1 hd h hK)
  · rename_i hg
    rw [if_neg (by rw [gate_wanted s hg]; simp)]
    refine hK _ h _ _ ⟨φ, ?_⟩
    exact s.next (Turn.refl _ _ _) s.ok rfl rfl rfl (Nat.le_refl _) hd fun _ => ⟨#[], rfl, trivial⟩
  · exact h.elim
theorem stepR_sound (hT : TabOK P tb) : Sound P ops Q (stepR P tb N ops) (SimS w₀ H₀ φ₀ N) := by
  rintro i e g ε a w K ⟨o, ho, h0, h⟩ ⟨φ, s⟩ hK
  have hdst : dsts ops i = o.dst := by simp [dsts, ho]
  rw [hdst] at hK
  refine stepK_wp hT ho (k := fun ε' => ε' = ε) ?_ s fun ε' he a' w' hs => by subst he; exact hK a' w' hs
  unfold stepK
  rw [h0]
  dsimp only [cond_true]
  rcases h with ⟨hg, h⟩ | ⟨hg, h⟩
  · rw [hg]; exact Out.seq _ _ h
  · rw [hg]; exact h.symm
def nums : Nat → List Eff → List (Nat × Eff)
  | _, [] => []
  | i, ε :: l => (i, ε) :: nums (i + 1) l
theorem regK_run : ∀ (os : List Oper) (i : Nat) (es : Es) (hs : Hs) (acc : List Eff) (k : Es → Hs → List Eff → Prop), (∀ j, os[j]? = ops[i + j]? ∨ os.length ≤ j) → regK P tb N ops false os es hs acc k →
    ∃ l es' hs', l.length = os.length ∧ Run ops (stepR P tb N ops) (nums i l) (get es) (get hs) ∧ finE ops (nums i l) (get es) = get es' ∧ finH (nums i l) (get hs) = get hs' ∧ k es' hs' (l.reverse ++ acc)
  | [], i, es, hs, acc, k, _, h => ⟨[], es, hs, rfl, trivial, rfl, rfl, h⟩
  | o :: os, i, es, hs, acc, k, ho, h => by
    have ho0 : ops[i]? = some o := by
      rcases ho 0 with h | h
      · exact h.symm
      · simp at h
    obtain ⟨ε, h1, h2'⟩ := stepK_elim (P := P) (tb := tb) (N := N) ho0 h
    have h2 : regK P tb N ops false os (addE o.dst ε.val es) (ε.upd ++ hs) (ε :: acc) k := by
      obtain ⟨v, rd, u⟩ := ε
      dsimp only at h2'
      split at h2'
      · rename_i hd; rw [hd]; exact h2'
      · rename_i hd; rw [hd]; exact h2'
      · rename_i hd; rw [hd]; exact h2'
    obtain ⟨l, es', hs', g1, g2, g3, g4, g5⟩ := regK_run os (i + 1) _ _ _ k (fun j => by
      rcases ho (j + 1) with h | h
      · exact .inl (by rw [← Nat.add_assoc, Nat.add_right_comm] at h; exact h)
      · exact .inr (by simp at h; omega)) h2
    have hd : dsts ops i = o.dst := by simp [dsts, ho0]
    refine ⟨ε :: l, es', hs', by simp [g1], ⟨h1, ?_⟩, ?_, ?_, by simpa using g5⟩
    · rw [hd, putE_get, putH_get]; exact g2
    · show finE ops (nums (i + 1) l) (putE (dsts ops i) ε.val (get es)) = _
      rw [hd, putE_get]; exact g3
    · show finH (nums (i + 1) l) (putH ε.upd (get hs)) = _
      rw [putH_get]; exact g4
theorem nums_map : ∀ (i : Nat) (l : List Eff), (nums i l).map (·.1) = List.range' i l.length
  | _, [] => rfl
  | i, ε :: l => by simp [nums, List.range'_succ, nums_map (i + 1) l]
theorem sim_drew {e : Env} {g : Hp} (h : SimS w₀ H₀ φ₀ N e g a w) : SimS w₀ H₀ φ₀ N e g a { w with drawn := w.drawn + 1 } := by
  obtain ⟨φ, s⟩ := h
  exact ⟨φ, s.env, s.sz, s.dfr, s.ok, s.turn, s.os, s.tape, s.output, s.size⟩
abbrev Post := Exit → Es → Hs → Prop
def Post.at (Q : Post) (w₀ : World) (H₀ : Hp) (φ₀ : Phi) (N : Nat) : Exit → Act → World → Prop := fun x a w => ∃ es hs, Q x es hs ∧ SimS w₀ H₀ φ₀ N (get es) (get hs) a w
theorem regK_seq (hT : TabOK P tb) : ∀ (os : List Oper) (i : Nat) (es : Es) (hs : Hs) (acc : List Eff) (k : Es → Hs → List Eff → Prop) (a : Act) (w : World), (∀ j, os[j]? = ops[i + j]? ∨ os.length ≤ j) → regK P tb N ops true os es hs acc k → SimS w₀ H₀ φ₀ N (get es) (get hs) a w →
    (∀ es' hs' acc' a' w', k es' hs' acc' → SimS w₀ H₀ φ₀ N (get es') (get hs') a' w' → Q .normal a' w') → wpOps P ops Q (List.range' i os.length) a w
  | [], i, es, hs, acc, k, a, w, _, h, s, hQ => hQ _ _ _ _ _ h s
  | o :: os, i, es, hs, acc, k, a, w, ho, h, ⟨φ, s⟩, hQ => by
    have ho0 : ops[i]? = some o := by
      rcases ho 0 with h | h
      · exact h.symm
      · simp at h
    rw [List.length_cons, List.range'_succ, wpOps_cons]
    refine stepK_wp hT ho0 h s fun ε hk a' w' s' => ?_
    have h2 : regK P tb N ops true os (addE o.dst ε.val es) (ε.upd ++ hs) (ε :: acc) k := by
      obtain ⟨v, rd, u⟩ := ε
      dsimp only at hk
      split at hk
      · rename_i hd; rw [hd]; exact hk
      · rename_i hd; rw [hd]; exact hk
      · rename_i hd; rw [hd]; exact hk
    rw [putE_get, putH_get] at s'
    exact regK_seq hT os (i + 1) _ _ _ k a' w' (fun j => by
      rcases ho (j + 1) with h | h
      · exact .inl (by rw [← Nat.add_assoc, Nat.add_right_comm] at h; exact h)
      · exact .inr (by simp at h; omega)) h2 s' hQ
theorem region_sound (hT : TabOK P tb) {id : Nat} {Q : Post} {es : Es} {hs : Hs} (h : regK P tb N ops true ops.toList es hs [] fun es hs _ => Q .normal es hs) (s : SimS w₀ H₀ φ₀ N (get es) (get hs) a w) :
    (Code.region id ops false).wp P (Q.at w₀ H₀ φ₀ N) a w := by
  refine wp_region ?_
  have := regK_seq (Q := Q.at w₀ H₀ φ₀ N) hT ops.toList 0 es hs [] _ a w (fun j => .inl (by simp)) h s fun es' hs' acc' a' w' hk hs' => ⟨_, _, hk, hs'⟩
  rw [List.range_eq_range']
  simpa using this
theorem nums_lt : ∀ (i : Nat) (l : List Eff), ∀ x ∈ nums i l, x.1 < i + l.length
  | _, [], _, hx => by cases hx
  | i, ε :: l, x, hx => by
    rcases List.mem_cons.1 hx with rfl | hx
    · simp
    · have := nums_lt (i + 1) l x hx
      simp; omega
theorem region_draw_sound (hT : TabOK P tb) (hm : P.follows .mixedOrders = true) {id : Nat} {Q : Post} {es : Es} {hs : Hs} {B : Array Nat} (hB : okB B 0 ops.toList = true)
    (h : regK P tb N ops false ops.toList es hs [] fun es hs acc => pairsOK ops B (nums 0 acc.reverse) = true ∧ Q .normal es hs) (s : SimS w₀ H₀ φ₀ N (get es) (get hs) a w) :
    (Code.region id ops true).wp P (Q.at w₀ H₀ φ₀ N) a w := by
  obtain ⟨l, es', hs', h1, h2, h3, h4, h5, h6⟩ := regK_run ops.toList 0 es hs [] _ (fun j => .inl (by simp)) h
  refine wp_region_any hm ?_
  have hlen : l.length = ops.size := by simpa using h1
  have hnl : (nums 0 l).length = ops.size := by
    have := congrArg List.length (nums_map 0 l)
    simpa [hlen] using this
  rw [← hnl]
  refine any_of_run (R := stepR P tb N ops) (S := SimS w₀ H₀ φ₀ N) stepR_local (stepR_sound hT) hB _ _ _ _ _ a _ rfl ?_ (by simp [hnl]) ?_ ?_ ?_ (by simpa using h5) h2 (sim_drew s) fun a' w' s' => ⟨es', hs', h6, by rw [h3, h4] at s'; exact s'⟩
  · rw [nums_map]; exact List.pairwise_lt_range'
  · intro j hj
    rw [nums_map, hnl]
    simp [hj, hlen]
  · intro x hx
    have := nums_lt 0 l x hx
    omega
  · intro j hj hlj
    rw [hnl] at hlj
    simp [hj] at hlj
end
section
variable (P : Program) (tb : Tab) (N : Nat) (fp : List Nat)
noncomputable def awp (c : Code) : Post → Es → Hs → Prop := Code.rec (motive := fun _ => Post → Es → Hs → Prop)
  (fun Q es hs => Q .normal es hs)
  (fun id ops draw Q es hs => match draw with
    | false => regK P tb N ops true ops.toList es hs [] fun es hs _ => Q .normal es hs
    | true => okB (Region.before ops) 0 ops.toList = true ∧ regK P tb N ops false ops.toList es hs [] fun es hs acc => pairsOK ops (Region.before ops) (nums 0 acc.reverse) = true ∧ Q .normal es hs)
  (fun x y ihx ihy Q es hs => ihx (fun e es hs => match e with
    | .normal => ihy Q es hs
    | e => Q e es hs) es hs)
  (fun c x y ihx ihy Q es hs => match evT (get es) c with
    | .val false [.f (.v (.bool true))] => ihx Q es hs
    | .val false [.f (.v (.bool false))] => ihy Q es hs
    | _ => False)
  (fun id x ihx Q es hs => ihx (fun e es hs => match e with
    | .exit i => cond (Nat.beq i id) (Q .normal es hs) (Q (.exit i) es hs)
    | e => Q e es hs) es hs)
  (fun x ihx Q es hs => ∃ (I : Nat → Es → Hs → Prop), (∃ n gl r es' hs', Tell fp gl r es' hs' es hs ∧ I n es' hs') ∧ ∀ n es hs, I n es hs → ihx (fun e es hs => match e with
    | .normal => ∃ m gl r es' hs', m < n ∧ Tell fp gl r es' hs' es hs ∧ I m es' hs'
    | e => Q e es hs) es hs)
  (fun _ _ _ _ _ _ _ _ _ => False) (fun id Q es hs => Q (.exit id) es hs) (fun _ _ _ _ _ => False) (fun _ _ _ _ => False) (fun _ _ _ _ => False)
  (fun Q es hs => Q .ret es hs) (fun _ _ _ _ => False) c
end
section
variable {P : Program} {tb : Tab} {N : Nat} {fp : List Nat} {w₀ : World} {H₀ : Hp} {φ₀ : Phi}
theorem awp_sound (hT : TabOK P tb) (hm : P.follows .mixedOrders = true) (hfp : ∀ n x, H₀ n = some x → n ∈ fp) : ∀ (c : Code) (Q : Post) (es : Es) (hs : Hs) (a : Act) (w : World), awp P tb N fp c Q es hs → SimS w₀ H₀ φ₀ N (get es) (get hs) a w → c.wp P (Q.at w₀ H₀ φ₀ N) a w := by
  intro c
  induction c with
  | skip => exact fun Q es hs a w h s => wp_skip ⟨es, hs, h, s⟩
  | region id ops draw =>
    intro Q es hs a w h s
    cases draw with
    | false => exact region_sound hT h s
    | true =>
      obtain ⟨hB, h⟩ := h
      exact region_draw_sound hT hm hB h s
  | seq x y ihx ihy =>
    intro Q es hs a w h s
    refine wp_seq (wp_mono (ihx _ es hs a w h s) ?_)
    rintro e a w ⟨es, hs, hq, s⟩
    cases e with
    | normal => exact ihy Q es hs a w hq s
    | _ => exact ⟨es, hs, hq, s⟩
  | cond c x y ihx ihy =>
    intro Q es hs a w h s
    simp only [awp] at h
    have ev : ∀ b, evT (get es) c = .val false [.f (.v (.bool b))] → a.eval c = .bool b := by
      intro b hb
      obtain ⟨φ, s⟩ := s
      cases c with
      | tmp t =>
        have r : RepT w.heap (get hs) φ (.val false [.f (.v (.bool b))]) (a.eval (.tmp t)) := by
          simp only [evT] at hb
          cases ht : get es t with
          | none => rw [ht] at hb; cases hb
          | some v => rw [ht] at hb; cases hb; exact s.env t _ ht
        exact v_rep r
      | const v =>
        simp only [evT, Act.eval] at hb ⊢
        unfold constT at hb
        split at hb
        · cases hb
        · cases hb
        · unfold constA at hb
          split at hb
          · cases hb
          · cases hb; rfl
      | global n => cases hb
      | func f => cases hb
    split at h
    · rename_i hc; exact wp_cond_true (ev true hc) (ihx Q es hs a w h s)
    · rename_i hc; exact wp_cond_false (ev false hc) (ihy Q es hs a w h s)
    · exact h.elim
  | block id x ih =>
    intro Q es hs a w h s
    refine wp_block (wp_mono (ih _ es hs a w h s) ?_)
    rintro e a w ⟨es, hs, hq, s⟩
    cases e with
    | exit i =>
      simp only [Exit.inBlock]
      cases hb : Nat.beq i id with
      | true =>
        dsimp only at hq
        rw [hb] at hq
        rw [if_pos (Nat.eq_of_beq_eq_true hb)]
        exact ⟨es, hs, hq, s⟩
      | false =>
        dsimp only at hq
        rw [hb] at hq
        have : i ≠ id := fun h => by subst h; simp at hb
        rw [if_neg this]
        exact ⟨es, hs, hq, s⟩
    | _ => exact ⟨es, hs, hq, s⟩
  | exit id => exact fun Q es hs a w h s => wp_exit ⟨es, hs, h, s⟩
  | loop x ih =>
    intro Q es hs a w h s
    obtain ⟨I, ⟨n, gl, r, es0, hs0, hsub, h0⟩, h1⟩ := h
    have s0 := SimS.told hsub hfp s
    intro b k cs
    have key : ∀ n es hs a w, I n es hs → SimS w₀ H₀ φ₀ N (get es) (get hs) a w → ∃ e a' w', Q.at w₀ H₀ φ₀ N e a' w' ∧ Arrives P (lone (b.at a (.code x :: .inLoop x :: k)) cs w) b k cs e a' w' := by
      intro n
      induction n using Nat.strongRecOn with
      | _ n ihn =>
        intro es hs a w hI s
        obtain ⟨e, a₁, w₁, ⟨es₁, hs₁, hq, s₁⟩, harr⟩ := ih _ es hs a w (h1 n es hs hI) s b (.inLoop x :: k) cs
        cases e with
        | normal =>
          obtain ⟨m, gl, r, es', hs', hm, hsub, hI'⟩ := hq
          obtain ⟨e₂, a₂, w₂, hq₂, harr₂⟩ := ihn m hm es' hs' a₁ w₁ hI' (SimS.told hsub hfp s₁)
          exact ⟨e₂, a₂, w₂, hq₂, .of_steps (Steps.trans harr (.one step_inLoop)) harr₂⟩
        | exit id => exact ⟨_, a₁, w₁, ⟨es₁, hs₁, hq, s₁⟩, .pass (x := .inLoop x) rfl (fun _ _ => .inl (by simp)) harr⟩
        | goto l => exact ⟨_, a₁, w₁, ⟨es₁, hs₁, hq, s₁⟩, .pass (x := .inLoop x) rfl (fun _ _ => .inl (by simp)) harr⟩
        | ret => exact ⟨_, a₁, w₁, ⟨es₁, hs₁, hq, s₁⟩, .pass (x := .inLoop x) rfl (fun _ _ => .inl (by simp)) harr⟩
        | panic ch => exact ⟨_, a₁, w₁, ⟨es₁, hs₁, hq, s₁⟩, .pass (x := .inLoop x) rfl (fun _ _ => .inl (by simp)) harr⟩
        | outgrown => exact ⟨_, a₁, w₁, ⟨es₁, hs₁, hq, s₁⟩, .pass (x := .inLoop x) rfl (fun _ _ => .inl (by simp)) harr⟩
    obtain ⟨e, a', w', hq, harr⟩ := key n es0 hs0 a w h0 s0
    exact ⟨e, a', w', hq, .of_steps (.one step_loop) harr⟩
  | ret => exact fun Q es hs a w h s => wp_ret ⟨es, hs, h, s⟩
  | _ => intros; rename_i h _; exact h.elim
end
end Go.Proofs.YtecnmodeggnjoaaGreat.Ac
