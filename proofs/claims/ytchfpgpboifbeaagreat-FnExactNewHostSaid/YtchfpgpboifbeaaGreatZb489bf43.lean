/- Several of our texts, one behind the other, without what this claim does not need: AcX, AcY, AcTab. -/
import Derived.Test.YtchfpgpboifbeaaGreatZ764b0a61
import Derived.Test.YtchfpgpboifbeaaGreatProg
import Derived.KernelRfl
set_option linter.unusedVariables false
set_option linter.unusedSimpArgs false
namespace Go.Proofs.YtchfpgpboifbeaaGreat.Ac
open Go.RowKit
section
variable (P : Program) (tb : Tab) (N : Nat) (ops : Array Oper)
def operOK' (o : Oper) : Bool := o.op.operands.toList.all operOK && match o.dst with
  | some d => Nat.blt d N
  | none => true
def gate (o : Oper) (e : Env) : Option Bool := match o.guard with
  | none => some true
  | some (j, want) => match (dsts ops j).bind e with
    | some (.val false [.f (.v (.bool true))]) => some want
    | some (.val false [.f (.v (.bool false))]) => some (!want)
    | some (.tu []) => some false
    | _ => none
def stepR (i : Nat) (e : Env) (g : Hp) (ε : Eff) : Prop := ∃ o, ops[i]? = some o ∧ operOK' N o = true ∧ ((gate ops o e = some true ∧ (actO P tb o.op (o.dst.getD 0) (evT e)).K false g [] (fun ε' => ε' = ε)) ∨ (gate ops o e = some false ∧ ε = ⟨.tu [], [], []⟩))
def stepK (sq : Bool) (o : Oper) (e : Env) (g : Hp) (k : Eff → Prop) : Prop := cond (operOK' N o) (match gate ops o e with
  | some true => (actO P tb o.op (o.dst.getD 0) (evT e)).K sq g [] k
  | some false => k ⟨.tu [], [], []⟩
  | none => False) False
def regK (sq : Bool) : List Oper → Es → Hs → List Eff → (Es → Hs → List Eff → Prop) → Prop
  | [], es, hs, acc, k => k es hs acc
  | o :: os, es, hs, acc, k => stepK P tb N ops sq o (get es) (get hs) fun ε => match ε with
    | ⟨v, rd, u⟩ => match o.dst, u with
      | some d, [] => regK sq os ((d, v) :: es) hs (⟨v, rd, []⟩ :: acc) k
      | some d, x :: u => regK sq os ((d, v) :: es) (x :: u ++ hs) (⟨v, rd, x :: u⟩ :: acc) k
      | none, u => regK sq os es (u ++ hs) (⟨v, rd, u⟩ :: acc) k
end
section
variable {P : Program} {tb : Tab} {N : Nat} {ops : Array Oper}
theorem cond_elim' {b : Bool} {p : Prop} (h : cond b p False) : b = true ∧ p := by
  cases b
  · exact h.elim
  · exact ⟨rfl, h⟩
theorem stepK_elim {i : Nat} {o : Oper} (ho : ops[i]? = some o) {e : Env} {g : Hp} {k : Eff → Prop} (h : stepK P tb N ops false o e g k) : ∃ ε, stepR P tb N ops i e g ε ∧ k ε := by
  obtain ⟨h0, h⟩ := cond_elim' h
  split at h
  · rename_i hg
    obtain ⟨ε, h1, h2⟩ := Out.elim _ _ h
    exact ⟨ε, ⟨o, ho, h0, .inl ⟨hg, h1⟩⟩, h2⟩
  · rename_i hg
    exact ⟨_, ⟨o, ho, h0, .inr ⟨hg, rfl⟩⟩, h⟩
  · exact h.elim
theorem evT_congr {e e' : Env} {x : Operand} (h : ∀ t, x = .tmp t → e' t = e t) : evT e' x = evT e x := by
  cases x with
  | tmp t => simp only [evT]; rw [h t rfl]
  | _ => rfl
theorem stepR_local : Local ops (stepR P tb N ops) := by
  rintro i o e g ε e' g' ho ⟨o', ho', h0, h⟩ he hg
  rw [ho] at ho'
  cases ho'
  have hgate : gate ops o e' = gate ops o e := by
    unfold gate
    cases hgd : o.guard with
    | none => rfl
    | some p =>
      obtain ⟨j, want⟩ := p
      dsimp only
      cases hd : dsts ops j with
      | none => rfl
      | some t =>
        have : e' t = e t := he t (by
          simp only [dsts] at hd
          simp [Oper.looksAt, hgd, hd])
        simp only [Option.bind_some, this]
  have hev : ∀ x ∈ o.op.operands, evT e' x = evT e x := fun x hx => evT_congr fun t ht => he t (by
    subst ht
    exact List.mem_append_left _ (List.mem_filterMap.2 ⟨.tmp t, by simpa using hx, rfl⟩))
  refine ⟨o, ho, h0, ?_⟩
  rw [hgate]
  rcases h with ⟨h1, h2⟩ | ⟨h1, h2⟩
  · refine .inl ⟨h1, ?_⟩
    have hact : actO P tb o.op (o.dst.getD 0) (evT e') = actO P tb o.op (o.dst.getD 0) (evT e) := by
      unfold actO
      split
      · rename_i x args hc
        obtain ⟨ts, hop⟩ := callee_eq hc
        have hm : args.toList.map (evT e') = args.toList.map (evT e) := List.map_congr_left fun x hx => hev x (by rw [hop]; simp [Op.operands, Call.operands]; exact .inr (by simpa using hx))
        rw [hm, hev x (by rw [hop]; simp [Op.operands, Call.operands])]
      · split
        · rename_i op t x y hst
          have hop : ∃ z, o.op = .binOp op t x y z := by
            unfold isStr at hst
            split at hst
            · rename_i op0 t0 x0 y0 z0 he
              split at hst
              · cases hst; exact ⟨z0, he⟩
              · cases hst
            · cases hst
          obtain ⟨z, hop⟩ := hop
          rw [hev x (by rw [hop]; simp [Op.operands]), hev y (by rw [hop]; simp [Op.operands])]
        · exact opO_congr hev
    rw [hact]
    exact Out.local hg _ _ h2
  · exact .inr ⟨h1, h2⟩
variable {w₀ : World} {H₀ : Hp} {φ₀ : Phi} {e : Env} {g : Hp} {φ : Phi} {a : Act} {w : World} {ε : Eff} {K : Act → World → Prop} {Q : Exit → Act → World → Prop}
theorem gate_wanted (s : Sim w₀ H₀ φ₀ N e g φ a w) {o : Oper} {b : Bool} (h : gate ops o e = some b) : Region.wanted o (yielded ops a.tmps) = b := by
  unfold gate at h
  unfold Region.wanted
  cases hgd : o.guard with
  | none => rw [hgd] at h; cases h; rfl
  | some p =>
    obtain ⟨j, want⟩ := p
    rw [hgd] at h
    dsimp only at h ⊢
    have key : ∀ x, (dsts ops j).bind e = some (.val false [.f (.v (.bool x))]) → yielded ops a.tmps j = some x := by
      intro x hx
      cases hd : dsts ops j with
      | none => rw [hd] at hx; cases hx
      | some t =>
        rw [hd] at hx
        have hv : a.eval (.tmp t) = .bool x := v_rep (s.env t _ hx)
        simp only [Act.eval] at hv
        have ht : a.tmps[t]? = some (.bool x) := by
          cases hq : a.tmps[t]? with
          | none => simp [hq, undef] at hv
          | some y => simp [hq] at hv; rw [hv]
        simp only [dsts] at hd
        unfold yielded
        rw [hd]
        simp [ht]
    split at h
    · rename_i hx
      cases h
      rw [key true hx]; cases b <;> rfl
    · rename_i hx
      cases h
      rw [key false hx]; cases want <;> rfl
    · rename_i hx
      cases h
      have : yielded ops a.tmps j = none := by
        cases hd : dsts ops j with
        | none => rw [hd] at hx; cases hx
        | some t =>
          rw [hd] at hx
          obtain ⟨us, hu, _⟩ := s.env t _ hx
          simp only [Act.eval] at hu
          simp only [dsts] at hd
          unfold yielded
          rw [hd]
          cases hq : a.tmps[t]? with
          | none => simp [hq]
          | some y => simp [hq] at hu; simp [hq, hu]
      rw [this]; rfl
    · cases h
theorem stepK_wp (hT : TabOK P tb) {i : Nat} {o : Oper} (ho : ops[i]? = some o) {k : Eff → Prop} (h : stepK P tb N ops true o e g k) (s : Sim w₀ H₀ φ₀ N e g φ a w) (hK : ∀ ε, k ε → ∀ a' w', SimS w₀ H₀ φ₀ N (putE o.dst ε.val e) (putH ε.upd g) a' w' → K a' w') : wpOp P ops Q i K a w := by
  obtain ⟨h0, h⟩ := cond_elim' h
  simp only [operOK', Bool.and_eq_true] at h0
  rw [Array.all_toList] at h0
  have hd : ∀ x, o.dst = some x → x < N := fun x hx => by
    have := h0.2
    rw [hx] at this
    simpa [Nat.blt, Nat.lt_iff_add_one_le] using this
  unfold wpOp
  rw [ho]
  dsimp only
  split at h
  · rename_i hg
    rw [if_pos (gate_wanted s hg)]
    exact .inl (act_wp hT s h0.1 hd h hK)
  · rename_i hg
    rw [if_neg (by rw [gate_wanted s hg]; simp)]
    refine hK _ h _ _ ⟨φ, ?_⟩
    exact s.next (Turn.refl _ _ _) s.ok rfl rfl rfl (Nat.le_refl _) hd fun _ => ⟨#[], rfl, trivial⟩
  · exact h.elim
theorem stepR_sound (hT : TabOK P tb) : Sound P ops Q (stepR P tb N ops) (SimS w₀ H₀ φ₀ N) := by
  rintro i e g ε a w K ⟨o, ho, h0, h⟩ ⟨φ, s⟩ hK
  have hdst : dsts ops i = o.dst := by simp [dsts, ho]
  rw [hdst] at hK
  refine stepK_wp hT ho (k := fun ε' => ε' = ε) ?_ s fun ε' he a' w' hs => by subst he; exact hK a' w' hs
  unfold stepK
  rw [h0]
  dsimp only [cond_true]
  rcases h with ⟨hg, h⟩ | ⟨hg, h⟩
  · rw [hg]; exact Out.seq _ _ h
  · rw [hg]; exact h.symm
def nums : Nat → List Eff → List (Nat × Eff)
  | _, [] => []
  | i, ε :: l => (i, ε) :: nums (i + 1) l
theorem regK_run : ∀ (os : List Oper) (i : Nat) (es : Es) (hs : Hs) (acc : List Eff) (k : Es → Hs → List Eff → Prop), (∀ j, os[j]? = ops[i + j]? ∨ os.length ≤ j) → regK P tb N ops false os es hs acc k →
    ∃ l es' hs', l.length = os.length ∧ Run ops (stepR P tb N ops) (nums i l) (get es) (get hs) ∧ finE ops (nums i l) (get es) = get es' ∧ finH (nums i l) (get hs) = get hs' ∧ k es' hs' (l.reverse ++ acc)
  | [], i, es, hs, acc, k, _, h => ⟨[], es, hs, rfl, trivial, rfl, rfl, h⟩
  | o :: os, i, es, hs, acc, k, ho, h => by
    have ho0 : ops[i]? = some o := by
      rcases ho 0 with h | h
      · exact h.symm
      · simp at h
    obtain ⟨ε, h1, h2'⟩ := stepK_elim (P := P) (tb := tb) (N := N) ho0 h
    have h2 : regK P tb N ops false os (addE o.dst ε.val es) (ε.upd ++ hs) (ε :: acc) k := by
      obtain ⟨v, rd, u⟩ := ε
      dsimp only at h2'
      split at h2'
      · rename_i hd; rw [hd]; exact h2'
      · rename_i hd; rw [hd]; exact h2'
      · rename_i hd; rw [hd]; exact h2'
    obtain ⟨l, es', hs', g1, g2, g3, g4, g5⟩ := regK_run os (i + 1) _ _ _ k (fun j => by
      rcases ho (j + 1) with h | h
      · exact .inl (by rw [← Nat.add_assoc, Nat.add_right_comm] at h; exact h)
      · exact .inr (by simp at h; omega)) h2
    have hd : dsts ops i = o.dst := by simp [dsts, ho0]
    refine ⟨ε :: l, es', hs', by simp [g1], ⟨h1, ?_⟩, ?_, ?_, by simpa using g5⟩
    · rw [hd, putE_get, putH_get]; exact g2
    · show finE ops (nums (i + 1) l) (putE (dsts ops i) ε.val (get es)) = _
      rw [hd, putE_get]; exact g3
    · show finH (nums (i + 1) l) (putH ε.upd (get hs)) = _
      rw [putH_get]; exact g4
theorem nums_map : ∀ (i : Nat) (l : List Eff), (nums i l).map (·.1) = List.range' i l.length
  | _, [] => rfl
  | i, ε :: l => by simp [nums, List.range'_succ, nums_map (i + 1) l]
theorem sim_drew {e : Env} {g : Hp} (h : SimS w₀ H₀ φ₀ N e g a w) : SimS w₀ H₀ φ₀ N e g a { w with drawn := w.drawn + 1 } := by
  obtain ⟨φ, s⟩ := h
  exact ⟨φ, s.env, s.sz, s.dfr, s.ok, s.turn, s.os, s.tape, s.output, s.size⟩
abbrev Post := Exit → Es → Hs → Prop
def Post.at (Q : Post) (w₀ : World) (H₀ : Hp) (φ₀ : Phi) (N : Nat) : Exit → Act → World → Prop := fun x a w => ∃ es hs, Q x es hs ∧ SimS w₀ H₀ φ₀ N (get es) (get hs) a w
theorem regK_seq (hT : TabOK P tb) : ∀ (os : List Oper) (i : Nat) (es : Es) (hs : Hs) (acc : List Eff) (k : Es → Hs → List Eff → Prop) (a : Act) (w : World), (∀ j, os[j]? = ops[i + j]? ∨ os.length ≤ j) → regK P tb N ops true os es hs acc k → SimS w₀ H₀ φ₀ N (get es) (get hs) a w →
    (∀ es' hs' acc' a' w', k es' hs' acc' → SimS w₀ H₀ φ₀ N (get es') (get hs') a' w' → Q .normal a' w') → wpOps P ops Q (List.range' i os.length) a w
  | [], i, es, hs, acc, k, a, w, _, h, s, hQ => hQ _ _ _ _ _ h s
  | o :: os, i, es, hs, acc, k, a, w, ho, h, ⟨φ, s⟩, hQ => by
    have ho0 : ops[i]? = some o := by
      rcases ho 0 with h | h
      · exact h.symm
      · simp at h
    rw [List.length_cons, List.range'_succ, wpOps_cons]
    refine stepK_wp hT ho0 h s fun ε hk a' w' s' => ?_
    have h2 : regK P tb N ops true os (addE o.dst ε.val es) (ε.upd ++ hs) (ε :: acc) k := by
      obtain ⟨v, rd, u⟩ := ε
      dsimp only at hk
      split at hk
      · rename_i hd; rw [hd]; exact hk
      · rename_i hd; rw [hd]; exact hk
      · rename_i hd; rw [hd]; exact hk
    rw [putE_get, putH_get] at s'
    exact regK_seq hT os (i + 1) _ _ _ k a' w' (fun j => by
      rcases ho (j + 1) with h | h
      · exact .inl (by rw [← Nat.add_assoc, Nat.add_right_comm] at h; exact h)
      · exact .inr (by simp at h; omega)) h2 s' hQ
theorem region_sound (hT : TabOK P tb) {id : Nat} {Q : Post} {es : Es} {hs : Hs} (h : regK P tb N ops true ops.toList es hs [] fun es hs _ => Q .normal es hs) (s : SimS w₀ H₀ φ₀ N (get es) (get hs) a w) :
    (Code.region id ops false).wp P (Q.at w₀ H₀ φ₀ N) a w := by
  refine wp_region ?_
  have := regK_seq (Q := Q.at w₀ H₀ φ₀ N) hT ops.toList 0 es hs [] _ a w (fun j => .inl (by simp)) h s fun es' hs' acc' a' w' hk hs' => ⟨_, _, hk, hs'⟩
  rw [List.range_eq_range']
  simpa using this
theorem nums_lt : ∀ (i : Nat) (l : List Eff), ∀ x ∈ nums i l, x.1 < i + l.length
  | _, [], _, hx => by cases hx
  | i, ε :: l, x, hx => by
    rcases List.mem_cons.1 hx with rfl | hx
    · simp
    · have := nums_lt (i + 1) l x hx
      simp; omega
theorem region_draw_sound (hT : TabOK P tb) (hm : P.follows .mixedOrders = true) {id : Nat} {Q : Post} {es : Es} {hs : Hs} {B : Array Nat} (hB : okB B 0 ops.toList = true)
    (h : regK P tb N ops false ops.toList es hs [] fun es hs acc => pairsOK ops B (nums 0 acc.reverse) = true ∧ Q .normal es hs) (s : SimS w₀ H₀ φ₀ N (get es) (get hs) a w) :
    (Code.region id ops true).wp P (Q.at w₀ H₀ φ₀ N) a w := by
  obtain ⟨l, es', hs', h1, h2, h3, h4, h5, h6⟩ := regK_run ops.toList 0 es hs [] _ (fun j => .inl (by simp)) h
  refine wp_region_any hm ?_
  have hlen : l.length = ops.size := by simpa using h1
  have hnl : (nums 0 l).length = ops.size := by
    have := congrArg List.length (nums_map 0 l)
    simpa [hlen] using this
  rw [← hnl]
  refine any_of_run (R := stepR P tb N ops) (S := SimS w₀ H₀ φ₀ N) stepR_local (stepR_sound hT) hB _ _ _ _ _ a _ rfl ?_ (by simp [hnl]) ?_ ?_ ?_ (by simpa using h5) h2 (sim_drew s) fun a' w' s' => ⟨es', hs', h6, by rw [h3, h4] at s'; exact s'⟩
  · rw [nums_map]; exact List.pairwise_lt_range'
  · intro j hj
    rw [nums_map, hnl]
    simp [hj, hlen]
  · intro x hx
    have := nums_lt 0 l x hx
    omega
  · intro j hj hlj
    rw [hnl] at hlj
    simp [hj] at hlj
end
section
variable (P : Program) (tb : Tab) (N : Nat) (fp : List Nat)
noncomputable def awp (c : Code) : Post → Es → Hs → Prop := Code.rec (motive := fun _ => Post → Es → Hs → Prop)
  (fun Q es hs => Q .normal es hs)
  (fun id ops draw Q es hs => match draw with
    | false => regK P tb N ops true ops.toList es hs [] fun es hs _ => Q .normal es hs
    | true => okB (Region.before ops) 0 ops.toList = true ∧ regK P tb N ops false ops.toList es hs [] fun es hs acc => pairsOK ops (Region.before ops) (nums 0 acc.reverse) = true ∧ Q .normal es hs)
  (fun x y ihx ihy Q es hs => ihx (fun e es hs => match e with
    | .normal => ihy Q es hs
    | e => Q e es hs) es hs)
  (fun c x y ihx ihy Q es hs => match evT (get es) c with
    | .val false [.f (.v (.bool true))] => ihx Q es hs
    | .val false [.f (.v (.bool false))] => ihy Q es hs
    | _ => False)
  (fun id x ihx Q es hs => ihx (fun e es hs => match e with
    | .exit i => cond (Nat.beq i id) (Q .normal es hs) (Q (.exit i) es hs)
    | e => Q e es hs) es hs)
  (fun x ihx Q es hs => ∃ (I : Nat → Es → Hs → Prop), (∃ n gl r es' hs', Tell fp gl r es' hs' es hs ∧ I n es' hs') ∧ ∀ n es hs, I n es hs → ihx (fun e es hs => match e with
    | .normal => ∃ m gl r es' hs', m < n ∧ Tell fp gl r es' hs' es hs ∧ I m es' hs'
    | e => Q e es hs) es hs)
  (fun _ _ _ _ _ _ _ _ _ => False) (fun id Q es hs => Q (.exit id) es hs) (fun _ _ _ _ _ => False) (fun _ _ _ _ => False) (fun _ _ _ _ => False)
  (fun Q es hs => Q .ret es hs) (fun _ _ _ _ => False) c
end
section
variable {P : Program} {tb : Tab} {N : Nat} {fp : List Nat} {w₀ : World} {H₀ : Hp} {φ₀ : Phi}
theorem awp_sound (hT : TabOK P tb) (hm : P.follows .mixedOrders = true) (hfp : ∀ n x, H₀ n = some x → n ∈ fp) : ∀ (c : Code) (Q : Post) (es : Es) (hs : Hs) (a : Act) (w : World), awp P tb N fp c Q es hs → SimS w₀ H₀ φ₀ N (get es) (get hs) a w → c.wp P (Q.at w₀ H₀ φ₀ N) a w := by
  intro c
  induction c with
  | skip => exact fun Q es hs a w h s => wp_skip ⟨es, hs, h, s⟩
  | region id ops draw =>
    intro Q es hs a w h s
    cases draw with
    | false => exact region_sound hT h s
    | true =>
      obtain ⟨hB, h⟩ := h
      exact region_draw_sound hT hm hB h s
  | seq x y ihx ihy =>
    intro Q es hs a w h s
    refine wp_seq (wp_mono (ihx _ es hs a w h s) ?_)
    rintro e a w ⟨es, hs, hq, s⟩
    cases e with
    | normal => exact ihy Q es hs a w hq s
    | _ => exact ⟨es, hs, hq, s⟩
  | cond c x y ihx ihy =>
    intro Q es hs a w h s
    simp only [awp] at h
    have ev : ∀ b, evT (get es) c = .val false [.f (.v (.bool b))] → a.eval c = .bool b := by
      intro b hb
      obtain ⟨φ, s⟩ := s
      cases c with
      | tmp t =>
        have r : RepT w.heap (get hs) φ (.val false [.f (.v (.bool b))]) (a.eval (.tmp t)) := by
          simp only [evT] at hb
          cases ht : get es t with
          | none => rw [ht] at hb; cases hb
          | some v => rw [ht] at hb; cases hb; exact s.env t _ ht
        exact v_rep r
      | const v =>
        simp only [evT, Act.eval] at hb ⊢
        unfold constT at hb
        split at hb
        · cases hb
        · cases hb
        · unfold constA at hb
          split at hb
          · cases hb
          · cases hb; rfl
      | global n => cases hb
      | func f => cases hb
    split at h
    · rename_i hc; exact wp_cond_true (ev true hc) (ihx Q es hs a w h s)
    · rename_i hc; exact wp_cond_false (ev false hc) (ihy Q es hs a w h s)
    · exact h.elim
  | block id x ih =>
    intro Q es hs a w h s
    refine wp_block (wp_mono (ih _ es hs a w h s) ?_)
    rintro e a w ⟨es, hs, hq, s⟩
    cases e with
    | exit i =>
      simp only [Exit.inBlock]
      cases hb : Nat.beq i id with
      | true =>
        dsimp only at hq
        rw [hb] at hq
        rw [if_pos (Nat.eq_of_beq_eq_true hb)]
        exact ⟨es, hs, hq, s⟩
      | false =>
        dsimp only at hq
        rw [hb] at hq
        have : i ≠ id := fun h => by subst h; simp at hb
        rw [if_neg this]
        exact ⟨es, hs, hq, s⟩
    | _ => exact ⟨es, hs, hq, s⟩
  | exit id => exact fun Q es hs a w h s => wp_exit ⟨es, hs, h, s⟩
  | loop x ih =>
    intro Q es hs a w h s
    obtain ⟨I, ⟨n, gl, r, es0, hs0, hsub, h0⟩, h1⟩ := h
    have s0 := SimS.told hsub hfp s
    intro b k cs
    have key : ∀ n es hs a w, I n es hs → SimS w₀ H₀ φ₀ N (get es) (get hs) a w → ∃ e a' w', Q.at w₀ H₀ φ₀ N e a' w' ∧ Arrives P (lone (b.at a (.code x :: .inLoop x :: k)) cs w) b k cs e a' w' := by
      intro n
      induction n using Nat.strongRecOn with
      | _ n ihn =>
        intro es hs a w hI s
        obtain ⟨e, a₁, w₁, ⟨es₁, hs₁, hq, s₁⟩, harr⟩ := ih _ es hs a w (h1 n es hs hI) s b (.inLoop x :: k) cs
        cases e with
        | normal =>
          obtain ⟨m, gl, r, es', hs', hm, hsub, hI'⟩ := hq
          obtain ⟨e₂, a₂, w₂, hq₂, harr₂⟩ := ihn m hm es' hs' a₁ w₁ hI' (SimS.told hsub hfp s₁)
          exact ⟨e₂, a₂, w₂, hq₂, .of_steps (Steps.trans harr (.one step_inLoop)) harr₂⟩
        | exit id => exact ⟨_, a₁, w₁, ⟨es₁, hs₁, hq, s₁⟩, .pass (x := .inLoop x) rfl (fun _ _ => .inl (by simp)) harr⟩
        | goto l => exact ⟨_, a₁, w₁, ⟨es₁, hs₁, hq, s₁⟩, .pass (x := .inLoop x) rfl (fun _ _ => .inl (by simp)) harr⟩
        | ret => exact ⟨_, a₁, w₁, ⟨es₁, hs₁, hq, s₁⟩, .pass (x := .inLoop x) rfl (fun _ _ => .inl (by simp)) harr⟩
        | panic ch => exact ⟨_, a₁, w₁, ⟨es₁, hs₁, hq, s₁⟩, .pass (x := .inLoop x) rfl (fun _ _ => .inl (by simp)) harr⟩
        | outgrown => exact ⟨_, a₁, w₁, ⟨es₁, hs₁, hq, s₁⟩, .pass (x := .inLoop x) rfl (fun _ _ => .inl (by simp)) harr⟩
    obtain ⟨e, a', w', hq, harr⟩ := key n es0 hs0 a w h0 s0
    exact ⟨e, a', w', hq, .of_steps (.one step_loop) harr⟩
  | ret => exact fun Q es hs a w h s => wp_ret ⟨es, hs, h, s⟩
  | _ => intros; rename_i h _; exact h.elim
end
end Go.Proofs.YtchfpgpboifbeaaGreat.Ac
set_option linter.unusedVariables false
set_option linter.unusedSimpArgs false
namespace Go.Proofs.YtchfpgpboifbeaaGreat.Ac
open Go.RowKit
def fdOf (P : Program) (fd : Field) : Option (Nat × Nat × Bool) := match P.info? fd.type, P.underlying fd.type with
  | some inf, some d => some (fd.offset, inf.size, d.aggD)
  | _, _ => none
def EntryOK (P : Program) (i : Nat) : Lay → Prop
  | .w d z bt => P.underlying i = some d ∧ d.aggD = false ∧ (P.info? i).map (·.size) = some 1 ∧ (P.info? i).map (·.bytes) = some bt ∧ ∃ zv, (P.info? i).bind (·.zero) = some zv ∧ zv.oneCell' = true ∧ z = constA zv
  | .st sz z fs bt => ∃ fields zv, P.underlying i = some (.struct fields) ∧ (P.info? i).map (·.size) = some sz ∧ (P.info? i).map (·.bytes) = some bt ∧ (P.info? i).bind (·.zero) = some (.agg zv) ∧ z = zv.toList.map constA ∧ zv.toList.all (·.oneCell') = true ∧ zv.size = sz ∧
    fields.toList.map (fdOf P) = fs.map some ∧ fs.all (fun x => x.2.1 != 0 && Nat.ble (x.1 + x.2.1) sz) = true
def EntriesOK (P : Program) : List (Nat × Lay) → Prop
  | [] => True
  | x :: l => EntryOK P x.1 x.2 ∧ EntriesOK P l
theorem entry_at {P : Program} {l : List (Nat × Lay)} (h : EntriesOK P l) {i : Nat} {x : Lay} (hx : get l i = some x) : EntryOK P i x := by
  induction l with
  | nil => cases hx
  | cons y l ih =>
    obtain ⟨m, v⟩ := y
    simp only [get] at hx
    cases hb : Nat.beq m i
    · rw [hb] at hx; exact ih h.2 hx
    · rw [hb] at hx
      cases hx
      rw [← Nat.eq_of_beq_eq_true hb]; exact h.1
theorem tabOK_of {P : Program} {l : List (Nat × Lay)} (h : EntriesOK P l) : TabOK P (get l) := by
  refine ⟨fun i d z bt hx => ?_, fun i sz z fs bt hx => ?_⟩
  · obtain ⟨h1, h2, h3, h3', zv, h4, h5, h6⟩ := entry_at h hx
    cases hi : P.info? i with
    | none => rw [hi] at h3; cases h3
    | some inf =>
      rw [hi] at h3 h3' h4
      exact ⟨h1, h2, inf, zv, rfl, by simpa using h3, by simpa using h4, h5, h6, by simpa using h3'⟩
  · obtain ⟨fields, zv, h1, h2, h2', h3, h4, h5, h6, h7, h8⟩ := entry_at h hx
    cases hi : P.info? i with
    | none => rw [hi] at h2; cases h2
    | some inf =>
      rw [hi] at h2 h2' h3
      refine ⟨inf, fields, zv, h1, rfl, by simpa using h2, by simpa using h3, h4, h5, h6, by simpa using h2', by have := congrArg List.length h7; simpa using this.symm, fun f x hf => ?_⟩
      have hm : (fields.toList.map (fdOf P))[f]? = some (some x) := by rw [h7, List.getElem?_map, hf]; rfl
      rw [List.getElem?_map] at hm
      cases hfd : fields.toList[f]? with
      | none => rw [hfd] at hm; cases hm
      | some fd =>
        rw [hfd] at hm
        simp only [Option.map_some, Option.some.injEq, fdOf] at hm
        split at hm
        · rename_i inf' d' g1 g2
          cases hm
          have h0 := List.all_eq_true.1 h8 _ (List.mem_of_getElem? hf)
          simp only [Bool.and_eq_true] at h0
          exact ⟨fd, inf', by simpa using hfd, rfl, g1, rfl, by simpa using h0.1, Nat.le_of_ble_eq_true h0.2, d', g2, rfl⟩
        · cases hm
def entry : Nat → List (Bool × List A) → Es
  | _, [] => []
  | i, x :: xs => (i, .val x.1 x.2) :: entry (i + 1) xs
def retK (tb : Tab) (e : Env) (g : Hp) : List ResultVar → (List (Bool × List A) → Prop) → Prop
  | [], k => k []
  | .tmp t :: vs, k => match e t with
    | some (.val ag cs) => retK tb e g vs fun xs => k ((ag, cs) :: xs)
    | _ => False
  | .cell p t :: vs, k => match e p, tb t with
    | some (.val false [.pt n 0 0]), some l => match g n with
      | some (some ⟨fl, _, [cs]⟩) => cond (Nat.beq fl 3 && Nat.beq cs.length l.size && noOw.go cs) (match mkT l cs with
        | .val ag cs => retK tb e g vs fun xs => k ((ag, cs) :: xs)
        | _ => False) False
      | _ => False
    | _, _ => False
def finB (fp : List Nat) (r : List (Nat × Nat)) (res : List (Bool × List A)) (H1 : Hs) : Bool := inP H1 res && H1.all (fun x => inO H1 x.2) && nodupB (H1.map fun x => rn r x.1) && fp.all (fun n => hasN H1 n && Nat.beq (rn r n) n)
def finK (tb : Tab) (fp : List Nat) (vs : List ResultVar) (H1 : Hs) (res : List (Bool × List A)) (x : Exit) (es : Es) (hs : Hs) : Prop := match x with
  | .normal | .ret => ∃ gl r, ghK gl hs fun hs1 => retK tb (get es) (get hs1) vs fun xs => finB fp r res H1 = true ∧ tlVs true r (get hs1) H1 xs res ∧ subH true r (get hs1) H1 H1
  | _ => False
section
variable {P : Program} {tb : Tab} {h : Array Obj} {g : Hp} {φ : Phi} {e : Env} {a : Act} {w : World}
variable {w₀ : World} {H₀ : Hp} {φ₀ : Phi} {N : Nat}
def retM (tmps : Array Value) : ResultVar → Sem Value
  | .tmp t => pure (tmps.getD t undef)
  | .cell p t => do loadVar t (← asAddr (tmps.getD p undef))
theorem results_eq (fn : Func) (tmps : Array Value) : results fn tmps = (do let vs ← fn.results.mapM (retM tmps); pure (if h : vs.size = 1 then vs[0] else .tuple vs)) := by
  unfold results
  refine congrArg (fun F : ResultVar → Sem Value => (do let vs ← fn.results.mapM F; pure (if h : vs.size = 1 then vs[0] else .tuple vs))) ?_
  funext x; cases x <;> rfl
theorem noOw_at : ∀ {cs : List A}, noOw.go cs = true → ∀ x ∈ cs, isOw x = false
  | [], _, x, hx => by cases hx
  | y :: cs, h, x, hx => by
    rcases List.mem_cons.1 hx with rfl | hx
    · cases x <;> first | rfl | cases h
    · have : noOw.go cs = true := by cases y <;> first | exact h | cases h
      exact noOw_at this x hx
theorem ret_ok (hT : TabOK P tb) (s : Sim w₀ H₀ φ₀ N e g φ a w) : ∀ (vs : List ResultVar) (k : List (Bool × List A) → Prop), retK tb e g vs k → ∃ xs, k xs ∧ ∃ us : List Value, (vs.mapM (m := Sem) (retM a.tmps)).run P w = .ok us w ∧ RepVs w.heap g φ xs us
  | [], k, h => ⟨[], h, [], by simp, trivial⟩
  | .tmp t :: vs, k, h => by
    simp only [retK] at h
    split at h
    · rename_i ag cs he
      obtain ⟨xs, hk, us, h1, h2⟩ := ret_ok hT s vs _ h
      exact ⟨_, hk, a.tmps.getD t undef :: us, (by simp only [List.mapM_cons, retM, Sem.run_bind, Sem.run_pure, Result.andThen_ok]; rw [h1]; rfl), s.env t _ he, h2⟩
    · exact h.elim
  | .cell p t :: vs, k, h => by
    simp only [retK] at h
    split at h
    · rename_i n l he hl
      split at h
      · rename_i fl wd cs hn
        obtain ⟨h0, hA⟩ := cond_elim' h
        clear h
        simp only [Bool.and_eq_true] at h0
        have hlen := Nat.eq_of_beq_eq_true h0.1.2
        have hno := noOw_at h0.2
        have hfl := Nat.eq_of_beq_eq_true h0.1.1
        subst hfl
        obtain ⟨hd, hp, hu, c, ty, hb, hrow, _, hcell⟩ := ref_row s.ok hn (by decide) (rep_one (s.env p _ he))
        have hin := (hrow.in (i := 0) (e := cs) rfl)
        simp only [Nat.zero_mul, Nat.add_zero] at hu hin hcell
        have hrep : RepC w.heap g φ cs ((List.range cs.length).map fun j => c.getD (hd.off + j) undef) := RepC_of _ fun j x hx => by
          have := (hcell 0 cs j x rfl hx).toE (hno x (List.mem_of_getElem? hx))
          simpa using this
        obtain ⟨u, hrun, hr⟩ := load_val (P := P) (w := w) hT hl hrep (b := hd.b) (off := hd.off) (fun j v hv => by
          obtain ⟨hj, rfl⟩ := range_get hv
          exact getD_cell hb (by omega)) hlen
        split at hA
        · rename_i ag cs' hmk
          rw [hmk] at hr
          obtain ⟨xs, hk, us, h1, h2⟩ := ret_ok hT s vs _ hA
          simp only [Act.eval] at hu
          have hs : (asAddr (a.tmps.getD p undef)).run P w = .ok ⟨hd.b, hd.off, none⟩ w := by rw [hu]; rfl
          exact ⟨_, hk, u :: us, (by simp only [List.mapM_cons, retM, Sem.run_bind, Sem.run_pure, Result.andThen_ok, hs, hrun]; rw [h1]; rfl), hr, h2⟩
        · exact hA.elim
      · exact h.elim
    · exact h.elim
theorem RepVs.len : ∀ {xs : List (Bool × List A)} {us : List Value}, RepVs h g φ xs us → us.length = xs.length
  | [], [], _ => rfl
  | _ :: _, _ :: _, r => congrArg (· + 1) (RepVs.len r.2)
  | [], _ :: _, r => r.elim
  | _ :: _, [], r => r.elim
theorem entry_ok : ∀ (xs : List (Bool × List A)) (us : List Value) (i : Nat), RepVs h g φ xs us → ∀ t x, get (entry i xs) t = some x → i ≤ t ∧ RepT h g φ x (us.getD (t - i) undef)
  | [], us, i, _, t, x, hx => by cases hx
  | y :: xs, u :: us, i, hr, t, x, hx => by
    simp only [entry, get] at hx
    cases hb : Nat.beq i t
    · rw [hb] at hx
      obtain ⟨h1, h2⟩ := entry_ok xs us (i + 1) hr.2 t x hx
      refine ⟨by omega, ?_⟩
      rw [show t - i = (t - (i + 1)) + 1 by omega]
      exact h2
    · rw [hb] at hx
      cases hx
      have := Nat.eq_of_beq_eq_true hb
      subst this
      refine ⟨Nat.le_refl _, ?_⟩
      rw [Nat.sub_self]
      exact hr.1
  | _ :: _, [], _, hr, _, _, _ => hr.elim
def clHs : Hs → Prop
  | [] => True
  | (_, some ob) :: l => cond (Nat.beq ob.fl 3) True (clR ob.es) ∧ clHs l
  | (_, none) :: l => clHs l
theorem clHs_of : ∀ {l : Hs}, clHs l → ClH l
  | [], _, n, ob, hm, _ => by cases hm
  | (m, some o) :: l, h, n, ob, hm, hf => by
    rcases List.mem_cons.1 hm with hm | hm
    · cases hm
      have := h.1; rw [hf] at this; exact this
    · exact clHs_of h.2 n ob hm hf
  | (m, none) :: l, h, n, ob, hm, hf => by
    rcases List.mem_cons.1 hm with hm | hm
    · cases hm
    · exact clHs_of (l := l) h n ob hm hf
theorem gcalls_of (hT : TabOK P tb) (hm : P.follows .mixedOrders = true) {f : FuncId} {fn : Func} {c : Code} {H0 H1 : Hs} {args res : List (Bool × List A)} (hf : P.funcs[f]? = some fn) (hb : fn.body = some c) (hN : fn.ntmps = N) (hname : (fn.name == "runtime.NumGoroutine") = false)
    (hlen : args.length ≤ N) {vs : List ResultVar} (hres : fn.results.toList = vs) (hB : (inP H1 res && H1.all (fun x => inO H1 x.2) && H0.all (fun x => hasN H1 x.1)) = true) (hcl : clHs H1)
    (h : awp P tb N (H0.map (·.1)) c (finK tb (H0.map (·.1)) vs H1 res) (entry 0 args) H0) : GCalls P f H0 args H1 res := by
  simp only [Bool.and_eq_true] at hB
  refine ⟨clHs_of hcl, fun n hn => ?_, hB.1, fun φ w us hok hr => .inl ⟨⟨fn, hf, hname, by rw [hb]; rfl⟩, calls_of_wp hf hb ?_⟩⟩
  · unfold hasN at hn
    split at hn
    · rename_i x hx; exact List.all_eq_true.1 hB.2 _ (get_mem hx)
    · cases hn
  have hul := hr.len
  have s : SimS w (get H0) φ N (get (entry 0 args)) (get H0) { tmps := us.toArray ++ Array.replicate (fn.ntmps - us.toArray.size) undef, defers := [] } w := by
    refine ⟨φ, fun t x hx => ?_, ?_, rfl, hok, Turn.refl _ _ _, rfl, rfl, rfl, Nat.le_refl _⟩
    · obtain ⟨_, q⟩ := entry_ok args us 0 hr t x hx
      have : (us.toArray ++ Array.replicate (fn.ntmps - us.toArray.size) undef).getD t undef = us.getD t undef := by
        by_cases ht : t < us.length
        · simp [ht, Array.getElem?_append]
        · simp only [Array.getD_eq_getD_getElem?, Array.getElem?_append, List.size_toArray, ht, if_false, Array.getElem?_replicate, List.getD_eq_getElem?_getD, List.getElem?_eq_none (Nat.le_of_not_lt ht)]
          split <;> rfl
      rw [Nat.sub_zero] at q
      simp only [Act.eval, this]
      exact q
    · simp; omega
  have hfp : ∀ n x, get H0 n = some x → n ∈ H0.map (·.1) := fun n x hx => List.mem_map.2 ⟨_, get_mem hx, rfl⟩
  refine wp_mono (awp_sound hT hm hfp c _ _ _ _ w h s) ?_
  rintro e a w' ⟨es, hs, hq, s'⟩
  have fin : finK tb (H0.map (·.1)) vs H1 res .ret es hs → a.defers = [] ∧ ∃ v, (results fn a.tmps).run P w' = .ok v w' ∧ ∃ v' φ', Ending.returned v = .returned v' ∧ RepR w'.heap (get H1) φ' res v' ∧ HeapOK w'.heap (get H1) φ' ∧ Turn w.heap (get H0) φ w'.heap (get H1) φ' ∧
      w'.os = w.os ∧ w'.tape = w.tape ∧ w'.output = w.output ∧ w.heap.size ≤ w'.heap.size := by
    rintro ⟨gl, r, hgh⟩
    obtain ⟨hs1, hret, φ1, s1⟩ := gh_ok hgh s'
    refine ⟨s1.dfr, ?_⟩
    obtain ⟨xs, ⟨k1, k2, k3⟩, us', h1, h2⟩ := ret_ok hT s1 vs _ hret
    simp only [finB, Bool.and_eq_true] at k1
    obtain ⟨⟨⟨b1, b2⟩, b3⟩, b4⟩ := k1
    have o : OutOK true r H1 (get hs1) φ1 φ1.out := ⟨fun b hb => .inl hb, fun n ob' q hd _ h => s1.ok.apart _ hd h, fun _ X hd h => s1.ok.apart X hd h⟩
    obtain ⟨φ2, s2⟩ := SimS.tell (fp := H0.map (·.1)) (es' := []) (r := r) (hs' := H1) (by
      refine ⟨?_, trivial, k3⟩
      simp only [subB, Bool.and_eq_true]
      exact ⟨⟨⟨rfl, b2⟩, b3⟩, b4⟩) hfp ⟨φ1, s1⟩
    have hrep := repVs_tl k3 o s1.ok k2 b1 h2
    have hheap := heap_tl k3 o s1.ok b2 b3
    have hlen' := h2.len
    have hrun : (fn.results.mapM (m := Sem) (retM a.tmps)).run P w' = .ok us'.toArray w' := by
      rw [← Array.toArray_toList (xs := fn.results), hres, List.mapM_toArray]
      simp only [Functor.map, Sem.run_map, Sem.run_bind', h1]
      rfl
    -- the state told anew, once more, with the places that the results have
    have tt : Turn w.heap (get H0) φ w'.heap (get H1) (ph r H1 (get hs1) φ1 φ1.out) := by
      have fpk : ∀ n x, get H0 n = some x → hasN H1 n = true ∧ rn r n = n := fun n x hx => by
        have := List.all_eq_true.1 b4 n (hfp n x hx)
        simp only [Bool.and_eq_true] at this
        exact ⟨this.1, Nat.eq_of_beq_eq_true this.2⟩
      refine ⟨s1.turn.out, fun b hb hO => ?_, fun n hn => ?_, fun n ob hn => ?_⟩
      · obtain ⟨h1, h2⟩ := s1.turn.blk0 b hb hO
        refine ⟨?_, h2⟩
        rintro ⟨X, hd, hX, rfl⟩
        exact h1 ⟨_, hd, (ph_some hX).1, rfl⟩
      · have hg := s1.turn.dead n hn
        obtain ⟨k1, k2⟩ := fpk n _ hn
        rcases ref_told k3 k1 with h0 | ⟨ob', ob, h1, h2, _⟩ | ⟨ob', h1, h2, _⟩
        · exact h0
        · rw [k2, hg] at h2; cases h2
        · rw [k2, hg] at h2; cases h2
      · obtain ⟨k1, k2⟩ := fpk n _ hn
        rcases ref_told k3 k1 with h0 | ⟨ob', ob2, h1, h2, h3, h4, h5, _⟩ | ⟨ob', h1, h2, _⟩
        · exact .inl h0
        · rcases s1.turn.live n ob hn with hd | ⟨ob3, g1, g2, g3, g4⟩
          · rw [k2, hd] at h2; cases h2
          · rw [k2, g1] at h2
            cases h2
            refine .inr ⟨ob', h1, ?_, h3.symm.trans g3, by rw [← tlR_len h5]; exact g4⟩
            have := ph_live (φ := φ1) (out := φ1.out) h1 (show get hs1 (rn r n) = some (some ob2) by rw [k2]; exact g1) []
            rw [this, k2]; exact g2
        · rcases s1.turn.live n ob hn with hd | ⟨ob3, g1, _⟩
          · rw [k2, hd] at h2; cases h2
          · rw [k2, g1] at h2; cases h2
    have hle := hrep.len
    rw [results_eq, Sem.run_bind, hrun]
    simp only [Result.andThen_ok, Sem.run_pure]
    refine ⟨_, rfl, _, _, rfl, ?_, hheap, tt, s1.os, s1.tape, s1.output, s1.size⟩
    match res, us', hrep with
    | [], [], _ => exact ⟨#[], rfl, trivial⟩
    | [x], [u], hrep => exact hrep.1
    | x :: y :: xs, u :: v :: us, hrep => exact ⟨_, by simp, hrep⟩
  cases e with
  | normal => exact fin hq
  | ret => exact fin hq
  | _ => exact hq.elim
end
end Go.Proofs.YtchfpgpboifbeaaGreat.Ac
set_option linter.unusedVariables false
namespace Go.Proofs.YtchfpgpboifbeaaGreat.Ac
open Go.RowKit
def tbl : List (Nat × Lay) := [
  (2, .w (.int .i64) (.f (.v (.int .i64 0))) 8),
  (3, .w (.int .i64) (.f (.v (.int .i64 0))) 8),
  (4, .w .bool (.f (.v (.bool false))) 1),
  (5, .w (.int .u8) (.f (.v (.int .u8 0))) 1),
  (6, .w (.int .u8) (.f (.v (.int .u8 0))) 1),
  (7, .st 4 [.f (.v (.int .i64 0)), .f (.v (.int .i64 0)), .f (.v (.bool false)), .f (.v (.int .u8 0))] [(0, 1, false), (1, 1, false), (2, 1, false), (3, 1, false)] 24),
  (8, .st 4 [.f (.v (.int .i64 0)), .f (.v (.int .i64 0)), .f (.v (.bool false)), .f (.v (.int .u8 0))] [(0, 1, false), (1, 1, false), (2, 1, false), (3, 1, false)] 24),
  (9, .w .string (.f (.v (.string ⟨#[]⟩))) 16),
  (10, .w .string (.f (.v (.string ⟨#[]⟩))) 16),
  (11, .w .string (.f (.v (.string ⟨#[]⟩))) 16),
  (12, .w (.int .u64) (.f (.v (.int .u64 0))) 8),
  (13, .st 2 [.f (.v (.string ⟨#[]⟩)), .f (.v (.int .u64 0))] [(0, 1, false), (1, 1, false)] 24),
  (14, .st 2 [.f (.v (.string ⟨#[]⟩)), .f (.v (.int .u64 0))] [(0, 1, false), (1, 1, false)] 24),
  (15, .w (.pointer 288) (.f (.v (.pointer none))) 8),
  (16, .w (.pointer 291) (.f (.v (.pointer none))) 8),
  (17, .w (.pointer 300) (.f (.v (.pointer none))) 8),
  (18, .st 1 [.f (.v (.pointer none))] [(0, 1, false)] 8),
  (19, .st 1 [.f (.v (.pointer none))] [(0, 1, false)] 8),
  (21, .w (.int .i32) (.f (.v (.int .i32 0))) 4),
  (22, .w (.slice 100) (.nl) 24),
  (23, .w (.slice 171) (.nl) 24),
  (24, .st 3 [.f (.v (.int .i64 0)), .f (.v (.int .i64 0)), .nl] [(0, 1, false), (1, 1, false), (2, 1, false)] 40),
  (25, .st 3 [.f (.v (.int .i64 0)), .f (.v (.int .i64 0)), .nl] [(0, 1, false), (1, 1, false), (2, 1, false)] 40),
  (28, .w (.slice 111) (.nl) 24),
  (29, .w (.slice 175) (.nl) 24),
  (30, .st 3 [.f (.v (.int .i64 0)), .f (.v (.int .i64 0)), .nl] [(0, 1, false), (1, 1, false), (2, 1, false)] 40),
  (31, .st 3 [.f (.v (.int .i64 0)), .f (.v (.int .i64 0)), .nl] [(0, 1, false), (1, 1, false), (2, 1, false)] 40),
  (32, .w (.slice 92) (.nl) 24),
  (33, .w (.slice 71) (.nl) 24),
  (34, .st 2 [.nl, .nl] [(0, 1, false), (1, 1, false)] 48),
  (35, .st 2 [.nl, .nl] [(0, 1, false), (1, 1, false)] 48),
  (36, .w (.slice 154) (.nl) 24),
  (37, .st 11 [.nl, .f (.v (.int .i64 0)), .f (.v (.int .i64 0)), .nl, .f (.v (.int .i64 0)), .f (.v (.int .i64 0)), .f (.v (.int .i64 0)), .nl, .nl, .nl, .nl] [(0, 1, false), (1, 3, true), (4, 1, false), (5, 1, false), (6, 1, false), (7, 1, false), (8, 2, true), (10, 1, false)] 184),
  (38, .st 11 [.nl, .f (.v (.int .i64 0)), .f (.v (.int .i64 0)), .nl, .f (.v (.int .i64 0)), .f (.v (.int .i64 0)), .f (.v (.int .i64 0)), .nl, .nl, .nl, .nl] [(0, 1, false), (1, 3, true), (4, 1, false), (5, 1, false), (6, 1, false), (7, 1, false), (8, 2, true), (10, 1, false)] 184),
  (50, .w (.slice 68) (.nl) 24),
  (51, .st 2 [.nl, .nl] [(0, 1, false), (1, 1, false)] 48),
  (52, .st 2 [.nl, .nl] [(0, 1, false), (1, 1, false)] 48),
  (54, .w (.slice 3) (.nl) 24),
  (67, .st 3 [.f (.v (.int .i64 0)), .f (.v (.int .i64 0)), .f (.v (.int .i64 0))] [(0, 1, false), (1, 1, false), (2, 1, false)] 24),
  (68, .st 3 [.f (.v (.int .i64 0)), .f (.v (.int .i64 0)), .f (.v (.int .i64 0))] [(0, 1, false), (1, 1, false), (2, 1, false)] 24),
  (71, .st 3 [.f (.v (.int .i64 0)), .f (.v (.int .i64 0)), .f (.v (.int .i64 0))] [(0, 1, false), (1, 1, false), (2, 1, false)] 24),
  (74, .w (.slice 200) (.nl) 24),
  (75, .w (.slice 204) (.nl) 24),
  (76, .st 11 [.nl, .f (.v (.int .i64 0)), .f (.v (.int .i64 0)), .nl, .f (.v (.int .i64 0)), .f (.v (.int .i64 0)), .f (.v (.int .i64 0)), .nl, .nl, .nl, .nl] [(0, 1, false), (1, 3, true), (4, 1, false), (5, 1, false), (6, 1, false), (7, 1, false), (8, 2, true), (10, 1, false)] 184),
  (77, .st 11 [.nl, .f (.v (.int .i64 0)), .f (.v (.int .i64 0)), .nl, .f (.v (.int .i64 0)), .f (.v (.int .i64 0)), .f (.v (.int .i64 0)), .nl, .nl, .nl, .nl] [(0, 1, false), (1, 3, true), (4, 1, false), (5, 1, false), (6, 1, false), (7, 1, false), (8, 2, true), (10, 1, false)] 184),
  (91, .st 6 [.f (.v (.int .i64 0)), .f (.v (.int .i64 0)), .f (.v (.int .i64 0)), .f (.v (.int .i64 0)), .f (.v (.int .i64 0)), .nl] [(0, 1, false), (1, 1, false), (2, 1, false), (3, 3, true)] 64),
  (92, .st 6 [.f (.v (.int .i64 0)), .f (.v (.int .i64 0)), .f (.v (.int .i64 0)), .f (.v (.int .i64 0)), .f (.v (.int .i64 0)), .nl] [(0, 1, false), (1, 1, false), (2, 1, false), (3, 3, true)] 64),
  (98, .w (.slice 223) (.nl) 24),
  (99, .st 3 [.f (.v (.string ⟨#[]⟩)), .f (.v (.bool false)), .nl] [(0, 1, false), (1, 1, false), (2, 1, false)] 48),
  (100, .st 3 [.f (.v (.string ⟨#[]⟩)), .f (.v (.bool false)), .nl] [(0, 1, false), (1, 1, false), (2, 1, false)] 48),
  (109, .w (.slice 183) (.nl) 24),
  (110, .st 3 [.f (.v (.string ⟨#[]⟩)), .f (.v (.bool false)), .nl] [(0, 1, false), (1, 1, false), (2, 1, false)] 48),
  (111, .st 3 [.f (.v (.string ⟨#[]⟩)), .f (.v (.bool false)), .nl] [(0, 1, false), (1, 1, false), (2, 1, false)] 48),
  (115, .w (.pointer 31) (.f (.v (.pointer none))) 8),
  (135, .w (.pointer 35) (.f (.v (.pointer none))) 8),
  (153, .st 3 [.f (.v (.int .i64 0)), .f (.v (.int .i64 0)), .f (.v (.int .i64 0))] [(0, 1, false), (1, 1, false), (2, 1, false)] 24),
  (154, .st 3 [.f (.v (.int .i64 0)), .f (.v (.int .i64 0)), .f (.v (.int .i64 0))] [(0, 1, false), (1, 1, false), (2, 1, false)] 24),
  (166, .w (.pointer 92) (.f (.v (.pointer none))) 8),
  (170, .st 5 [.f (.v (.int .i64 0)), .f (.v (.int .i64 0)), .f (.v (.int .i64 0)), .f (.v (.string ⟨#[]⟩)), .nl] [(0, 1, false), (1, 1, false), (2, 1, false), (3, 1, false), (4, 1, false)] 64),
  (171, .st 5 [.f (.v (.int .i64 0)), .f (.v (.int .i64 0)), .f (.v (.int .i64 0)), .f (.v (.string ⟨#[]⟩)), .nl] [(0, 1, false), (1, 1, false), (2, 1, false), (3, 1, false), (4, 1, false)] 64),
  (175, .st 5 [.f (.v (.int .i64 0)), .f (.v (.int .i64 0)), .f (.v (.int .i64 0)), .f (.v (.string ⟨#[]⟩)), .nl] [(0, 1, false), (1, 1, false), (2, 1, false), (3, 1, false), (4, 1, false)] 64),
  (179, .w (.map 3 4) (.f (.v (.map none))) 8),
  (182, .st 2 [.nl, .f (.v (.int .i64 0))] [(0, 1, false), (1, 1, false)] 32),
  (183, .st 2 [.nl, .f (.v (.int .i64 0))] [(0, 1, false), (1, 1, false)] 32),
  (189, .w (.slice 5) (.nl) 24),
  (199, .st 6 [.f (.v (.int .i64 0)), .f (.v (.int .i64 0)), .f (.v (.int .i64 0)), .f (.v (.int .i64 0)), .f (.v (.int .i64 0)), .nl] [(0, 1, false), (1, 1, false), (2, 1, false), (3, 3, true)] 64),
  (200, .st 6 [.f (.v (.int .i64 0)), .f (.v (.int .i64 0)), .f (.v (.int .i64 0)), .f (.v (.int .i64 0)), .f (.v (.int .i64 0)), .nl] [(0, 1, false), (1, 1, false), (2, 1, false), (3, 3, true)] 64),
  (204, .st 3 [.f (.v (.int .i64 0)), .f (.v (.int .i64 0)), .f (.v (.int .i64 0))] [(0, 1, false), (1, 1, false), (2, 1, false)] 24),
  (205, .w (.pointer 38) (.f (.v (.pointer none))) 8),
  (212, .w (.slice 9) (.nl) 24),
  (218, .w (.pointer 175) (.f (.v (.pointer none))) 8),
  (223, .st 2 [.nl, .f (.v (.int .i64 0))] [(0, 1, false), (1, 1, false)] 32),
  (245, .w (.slice 33) (.nl) 24),
  (257, .w (.int .u64) (.f (.v (.int .u64 0))) 8),
  (267, .w (.int .i64) (.f (.v (.int .i64 0))) 8),
  (274, .w (.int .u32) (.f (.v (.int .u32 0))) 4),
  (276, .w (.int .u64) (.f (.v (.int .u64 0))) 8),
  (278, .w (.int .u64) (.f (.v (.int .u64 0))) 8),
  (282, .w (.pointer 3) (.f (.v (.pointer none))) 8),
  (284, .w (.pointer 278) (.f (.v (.pointer none))) 8),
  (287, .st 4 [.f (.v (.pointer none)), .f (.v (.pointer none)), .f (.v (.pointer none)), .f (.v (.string ⟨#[]⟩))] [(0, 1, false), (1, 1, false), (2, 1, false), (3, 1, false)] 40),
  (288, .st 4 [.f (.v (.pointer none)), .f (.v (.pointer none)), .f (.v (.pointer none)), .f (.v (.string ⟨#[]⟩))] [(0, 1, false), (1, 1, false), (2, 1, false), (3, 1, false)] 40),
  (293, .w (.int .u8) (.f (.v (.int .u8 0))) 1),
  (294, .w (.int .u8) (.f (.v (.int .u8 0))) 1),
  (296, .w (.pointer 5) (.f (.v (.pointer none))) 8),
  (297, .w (.int .i32) (.f (.v (.int .i32 0))) 4),
  (298, .w (.int .i32) (.f (.v (.int .i32 0))) 4),
  (299, .st 11 [.f (.v (.int .u64 0)), .f (.v (.int .u64 0)), .f (.v (.int .u32 0)), .f (.v (.int .u8 0)), .f (.v (.int .u8 0)), .f (.v (.int .u8 0)), .f (.v (.int .u8 0)), .f (.v (.nilFunc)), .f (.v (.pointer none)), .f (.v (.int .i32 0)), .f (.v (.int .i32 0))] [(0, 1, false), (1, 1, false), (2, 1, false), (3, 1, false), (4, 1, false), (5, 1, false), (6, 1, false), (7, 1, false), (8, 1, false), (9, 1, false), (10, 1, false)] 48),
  (300, .st 11 [.f (.v (.int .u64 0)), .f (.v (.int .u64 0)), .f (.v (.int .u32 0)), .f (.v (.int .u8 0)), .f (.v (.int .u8 0)), .f (.v (.int .u8 0)), .f (.v (.int .u8 0)), .f (.v (.nilFunc)), .f (.v (.pointer none)), .f (.v (.int .i32 0)), .f (.v (.int .i32 0))] [(0, 1, false), (1, 1, false), (2, 1, false), (3, 1, false), (4, 1, false), (5, 1, false), (6, 1, false), (7, 1, false), (8, 1, false), (9, 1, false), (10, 1, false)] 48)]
theorem tbl_ok : TabOK Tryz.prog (get tbl) := tabOK_of (
  ⟨⟨Tryz.underlying2, rfl, by kernel_rfl, by kernel_rfl, .int .i64 0, by kernel_rfl, rfl, rfl⟩,
  ⟨⟨Tryz.underlying3, rfl, by kernel_rfl, by kernel_rfl, .int .i64 0, by kernel_rfl, rfl, rfl⟩,
  ⟨⟨Tryz.underlying4, rfl, by kernel_rfl, by kernel_rfl, .bool false, by kernel_rfl, rfl, rfl⟩,
  ⟨⟨Tryz.underlying5, rfl, by kernel_rfl, by kernel_rfl, .int .u8 0, by kernel_rfl, rfl, rfl⟩,
  ⟨⟨Tryz.underlying6, rfl, by kernel_rfl, by kernel_rfl, .int .u8 0, by kernel_rfl, rfl, rfl⟩,
  ⟨⟨_, #[.int .i64 0, .int .i64 0, .bool false, .int .u8 0], Tryz.underlying7, by kernel_rfl, by kernel_rfl, by kernel_rfl, rfl, rfl, rfl, by kernel_rfl, rfl⟩,
  ⟨⟨_, #[.int .i64 0, .int .i64 0, .bool false, .int .u8 0], Tryz.underlying8, by kernel_rfl, by kernel_rfl, by kernel_rfl, rfl, rfl, rfl, by kernel_rfl, rfl⟩,
  ⟨⟨Tryz.underlying9, rfl, by kernel_rfl, by kernel_rfl, .string ⟨#[]⟩, by kernel_rfl, rfl, rfl⟩,
  ⟨⟨Tryz.underlying10, rfl, by kernel_rfl, by kernel_rfl, .string ⟨#[]⟩, by kernel_rfl, rfl, rfl⟩,
  ⟨⟨Tryz.underlying11, rfl, by kernel_rfl, by kernel_rfl, .string ⟨#[]⟩, by kernel_rfl, rfl, rfl⟩,
  ⟨⟨Tryz.underlying12, rfl, by kernel_rfl, by kernel_rfl, .int .u64 0, by kernel_rfl, rfl, rfl⟩,
  ⟨⟨_, #[.string ⟨#[]⟩, .int .u64 0], Tryz.underlying13, by kernel_rfl, by kernel_rfl, by kernel_rfl, rfl, rfl, rfl, by kernel_rfl, rfl⟩,
  ⟨⟨_, #[.string ⟨#[]⟩, .int .u64 0], Tryz.underlying14, by kernel_rfl, by kernel_rfl, by kernel_rfl, rfl, rfl, rfl, by kernel_rfl, rfl⟩,
  ⟨⟨Tryz.underlying15, rfl, by kernel_rfl, by kernel_rfl, .pointer none, by kernel_rfl, rfl, rfl⟩,
  ⟨⟨Tryz.underlying16, rfl, by kernel_rfl, by kernel_rfl, .pointer none, by kernel_rfl, rfl, rfl⟩,
  ⟨⟨Tryz.underlying17, rfl, by kernel_rfl, by kernel_rfl, .pointer none, by kernel_rfl, rfl, rfl⟩,
  ⟨⟨_, #[.pointer none], Tryz.underlying18, by kernel_rfl, by kernel_rfl, by kernel_rfl, rfl, rfl, rfl, by kernel_rfl, rfl⟩,
  ⟨⟨_, #[.pointer none], Tryz.underlying19, by kernel_rfl, by kernel_rfl, by kernel_rfl, rfl, rfl, rfl, by kernel_rfl, rfl⟩,
  ⟨⟨Tryz.underlying21, rfl, by kernel_rfl, by kernel_rfl, .int .i32 0, by kernel_rfl, rfl, rfl⟩,
  ⟨⟨Tryz.underlying22, rfl, by kernel_rfl, by kernel_rfl, .slice none 0 0, by kernel_rfl, rfl, rfl⟩,
  ⟨⟨Tryz.underlying23, rfl, by kernel_rfl, by kernel_rfl, .slice none 0 0, by kernel_rfl, rfl, rfl⟩,
  ⟨⟨_, #[.int .i64 0, .int .i64 0, .slice none 0 0], Tryz.underlying24, by kernel_rfl, by kernel_rfl, by kernel_rfl, rfl, rfl, rfl, by kernel_rfl, rfl⟩,
  ⟨⟨_, #[.int .i64 0, .int .i64 0, .slice none 0 0], Tryz.underlying25, by kernel_rfl, by kernel_rfl, by kernel_rfl, rfl, rfl, rfl, by kernel_rfl, rfl⟩,
  ⟨⟨Tryz.underlying28, rfl, by kernel_rfl, by kernel_rfl, .slice none 0 0, by kernel_rfl, rfl, rfl⟩,
  ⟨⟨Tryz.underlying29, rfl, by kernel_rfl, by kernel_rfl, .slice none 0 0, by kernel_rfl, rfl, rfl⟩,
  ⟨⟨_, #[.int .i64 0, .int .i64 0, .slice none 0 0], Tryz.underlying30, by kernel_rfl, by kernel_rfl, by kernel_rfl, rfl, rfl, rfl, by kernel_rfl, rfl⟩,
  ⟨⟨_, #[.int .i64 0, .int .i64 0, .slice none 0 0], Tryz.underlying31, by kernel_rfl, by kernel_rfl, by kernel_rfl, rfl, rfl, rfl, by kernel_rfl, rfl⟩,
  ⟨⟨Tryz.underlying32, rfl, by kernel_rfl, by kernel_rfl, .slice none 0 0, by kernel_rfl, rfl, rfl⟩,
  ⟨⟨Tryz.underlying33, rfl, by kernel_rfl, by kernel_rfl, .slice none 0 0, by kernel_rfl, rfl, rfl⟩,
  ⟨⟨_, #[.slice none 0 0, .slice none 0 0], Tryz.underlying34, by kernel_rfl, by kernel_rfl, by kernel_rfl, rfl, rfl, rfl, by kernel_rfl, rfl⟩,
  ⟨⟨_, #[.slice none 0 0, .slice none 0 0], Tryz.underlying35, by kernel_rfl, by kernel_rfl, by kernel_rfl, rfl, rfl, rfl, by kernel_rfl, rfl⟩,
  ⟨⟨Tryz.underlying36, rfl, by kernel_rfl, by kernel_rfl, .slice none 0 0, by kernel_rfl, rfl, rfl⟩,
  ⟨⟨_, #[.slice none 0 0, .int .i64 0, .int .i64 0, .slice none 0 0, .int .i64 0, .int .i64 0, .int .i64 0, .slice none 0 0, .slice none 0 0, .slice none 0 0, .slice none 0 0], Tryz.underlying37, by kernel_rfl, by kernel_rfl, by kernel_rfl, rfl, rfl, rfl, by kernel_rfl, rfl⟩,
  ⟨⟨_, #[.slice none 0 0, .int .i64 0, .int .i64 0, .slice none 0 0, .int .i64 0, .int .i64 0, .int .i64 0, .slice none 0 0, .slice none 0 0, .slice none 0 0, .slice none 0 0], Tryz.underlying38, by kernel_rfl, by kernel_rfl, by kernel_rfl, rfl, rfl, rfl, by kernel_rfl, rfl⟩,
  ⟨⟨Tryz.underlying50, rfl, by kernel_rfl, by kernel_rfl, .slice none 0 0, by kernel_rfl, rfl, rfl⟩,
  ⟨⟨_, #[.slice none 0 0, .slice none 0 0], Tryz.underlying51, by kernel_rfl, by kernel_rfl, by kernel_rfl, rfl, rfl, rfl, by kernel_rfl, rfl⟩,
  ⟨⟨_, #[.slice none 0 0, .slice none 0 0], Tryz.underlying52, by kernel_rfl, by kernel_rfl, by kernel_rfl, rfl, rfl, rfl, by kernel_rfl, rfl⟩,
  ⟨⟨Tryz.underlying54, rfl, by kernel_rfl, by kernel_rfl, .slice none 0 0, by kernel_rfl, rfl, rfl⟩,
  ⟨⟨_, #[.int .i64 0, .int .i64 0, .int .i64 0], Tryz.underlying67, by kernel_rfl, by kernel_rfl, by kernel_rfl, rfl, rfl, rfl, by kernel_rfl, rfl⟩,
  ⟨⟨_, #[.int .i64 0, .int .i64 0, .int .i64 0], Tryz.underlying68, by kernel_rfl, by kernel_rfl, by kernel_rfl, rfl, rfl, rfl, by kernel_rfl, rfl⟩,
  ⟨⟨_, #[.int .i64 0, .int .i64 0, .int .i64 0], Tryz.underlying71, by kernel_rfl, by kernel_rfl, by kernel_rfl, rfl, rfl, rfl, by kernel_rfl, rfl⟩,
  ⟨⟨Tryz.underlying74, rfl, by kernel_rfl, by kernel_rfl, .slice none 0 0, by kernel_rfl, rfl, rfl⟩,
  ⟨⟨Tryz.underlying75, rfl, by kernel_rfl, by kernel_rfl, .slice none 0 0, by kernel_rfl, rfl, rfl⟩,
  ⟨⟨_, #[.slice none 0 0, .int .i64 0, .int .i64 0, .slice none 0 0, .int .i64 0, .int .i64 0, .int .i64 0, .slice none 0 0, .slice none 0 0, .slice none 0 0, .slice none 0 0], Tryz.underlying76, by kernel_rfl, by kernel_rfl, by kernel_rfl, rfl, rfl, rfl, by kernel_rfl, rfl⟩,
  ⟨⟨_, #[.slice none 0 0, .int .i64 0, .int .i64 0, .slice none 0 0, .int .i64 0, .int .i64 0, .int .i64 0, .slice none 0 0, .slice none 0 0, .slice none 0 0, .slice none 0 0], Tryz.underlying77, by kernel_rfl, by kernel_rfl, by kernel_rfl, rfl, rfl, rfl, by kernel_rfl, rfl⟩,
  ⟨⟨_, #[.int .i64 0, .int .i64 0, .int .i64 0, .int .i64 0, .int .i64 0, .slice none 0 0], Tryz.underlying91, by kernel_rfl, by kernel_rfl, by kernel_rfl, rfl, rfl, rfl, by kernel_rfl, rfl⟩,
  ⟨⟨_, #[.int .i64 0, .int .i64 0, .int .i64 0, .int .i64 0, .int .i64 0, .slice none 0 0], Tryz.underlying92, by kernel_rfl, by kernel_rfl, by kernel_rfl, rfl, rfl, rfl, by kernel_rfl, rfl⟩,
  ⟨⟨Tryz.underlying98, rfl, by kernel_rfl, by kernel_rfl, .slice none 0 0, by kernel_rfl, rfl, rfl⟩,
  ⟨⟨_, #[.string ⟨#[]⟩, .bool false, .slice none 0 0], Tryz.underlying99, by kernel_rfl, by kernel_rfl, by kernel_rfl, rfl, rfl, rfl, by kernel_rfl, rfl⟩,
  ⟨⟨_, #[.string ⟨#[]⟩, .bool false, .slice none 0 0], Tryz.underlying100, by kernel_rfl, by kernel_rfl, by kernel_rfl, rfl, rfl, rfl, by kernel_rfl, rfl⟩,
  ⟨⟨Tryz.underlying109, rfl, by kernel_rfl, by kernel_rfl, .slice none 0 0, by kernel_rfl, rfl, rfl⟩,
  ⟨⟨_, #[.string ⟨#[]⟩, .bool false, .slice none 0 0], Tryz.underlying110, by kernel_rfl, by kernel_rfl, by kernel_rfl, rfl, rfl, rfl, by kernel_rfl, rfl⟩,
  ⟨⟨_, #[.string ⟨#[]⟩, .bool false, .slice none 0 0], Tryz.underlying111, by kernel_rfl, by kernel_rfl, by kernel_rfl, rfl, rfl, rfl, by kernel_rfl, rfl⟩,
  ⟨⟨Tryz.underlying115, rfl, by kernel_rfl, by kernel_rfl, .pointer none, by kernel_rfl, rfl, rfl⟩,
  ⟨⟨Tryz.underlying135, rfl, by kernel_rfl, by kernel_rfl, .pointer none, by kernel_rfl, rfl, rfl⟩,
  ⟨⟨_, #[.int .i64 0, .int .i64 0, .int .i64 0], Tryz.underlying153, by kernel_rfl, by kernel_rfl, by kernel_rfl, rfl, rfl, rfl, by kernel_rfl, rfl⟩,
  ⟨⟨_, #[.int .i64 0, .int .i64 0, .int .i64 0], Tryz.underlying154, by kernel_rfl, by kernel_rfl, by kernel_rfl, rfl, rfl, rfl, by kernel_rfl, rfl⟩,
  ⟨⟨Tryz.underlying166, rfl, by kernel_rfl, by kernel_rfl, .pointer none, by kernel_rfl, rfl, rfl⟩,
  ⟨⟨_, #[.int .i64 0, .int .i64 0, .int .i64 0, .string ⟨#[]⟩, .slice none 0 0], Tryz.underlying170, by kernel_rfl, by kernel_rfl, by kernel_rfl, rfl, rfl, rfl, by kernel_rfl, rfl⟩,
  ⟨⟨_, #[.int .i64 0, .int .i64 0, .int .i64 0, .string ⟨#[]⟩, .slice none 0 0], Tryz.underlying171, by kernel_rfl, by kernel_rfl, by kernel_rfl, rfl, rfl, rfl, by kernel_rfl, rfl⟩,
  ⟨⟨_, #[.int .i64 0, .int .i64 0, .int .i64 0, .string ⟨#[]⟩, .slice none 0 0], Tryz.underlying175, by kernel_rfl, by kernel_rfl, by kernel_rfl, rfl, rfl, rfl, by kernel_rfl, rfl⟩,
  ⟨⟨Tryz.underlying179, rfl, by kernel_rfl, by kernel_rfl, .map none, by kernel_rfl, rfl, rfl⟩,
  ⟨⟨_, #[.slice none 0 0, .int .i64 0], Tryz.underlying182, by kernel_rfl, by kernel_rfl, by kernel_rfl, rfl, rfl, rfl, by kernel_rfl, rfl⟩,
  ⟨⟨_, #[.slice none 0 0, .int .i64 0], Tryz.underlying183, by kernel_rfl, by kernel_rfl, by kernel_rfl, rfl, rfl, rfl, by kernel_rfl, rfl⟩,
  ⟨⟨Tryz.underlying189, rfl, by kernel_rfl, by kernel_rfl, .slice none 0 0, by kernel_rfl, rfl, rfl⟩,
  ⟨⟨_, #[.int .i64 0, .int .i64 0, .int .i64 0, .int .i64 0, .int .i64 0, .slice none 0 0], Tryz.underlying199, by kernel_rfl, by kernel_rfl, by kernel_rfl, rfl, rfl, rfl, by kernel_rfl, rfl⟩,
  ⟨⟨_, #[.int .i64 0, .int .i64 0, .int .i64 0, .int .i64 0, .int .i64 0, .slice none 0 0], Tryz.underlying200, by kernel_rfl, by kernel_rfl, by kernel_rfl, rfl, rfl, rfl, by kernel_rfl, rfl⟩,
  ⟨⟨_, #[.int .i64 0, .int .i64 0, .int .i64 0], Tryz.underlying204, by kernel_rfl, by kernel_rfl, by kernel_rfl, rfl, rfl, rfl, by kernel_rfl, rfl⟩,
  ⟨⟨Tryz.underlying205, rfl, by kernel_rfl, by kernel_rfl, .pointer none, by kernel_rfl, rfl, rfl⟩,
  ⟨⟨Tryz.underlying212, rfl, by kernel_rfl, by kernel_rfl, .slice none 0 0, by kernel_rfl, rfl, rfl⟩,
  ⟨⟨Tryz.underlying218, rfl, by kernel_rfl, by kernel_rfl, .pointer none, by kernel_rfl, rfl, rfl⟩,
  ⟨⟨_, #[.slice none 0 0, .int .i64 0], Tryz.underlying223, by kernel_rfl, by kernel_rfl, by kernel_rfl, rfl, rfl, rfl, by kernel_rfl, rfl⟩,
  ⟨⟨Tryz.underlying245, rfl, by kernel_rfl, by kernel_rfl, .slice none 0 0, by kernel_rfl, rfl, rfl⟩,
  ⟨⟨Tryz.underlying257, rfl, by kernel_rfl, by kernel_rfl, .int .u64 0, by kernel_rfl, rfl, rfl⟩,
  ⟨⟨Tryz.underlying267, rfl, by kernel_rfl, by kernel_rfl, .int .i64 0, by kernel_rfl, rfl, rfl⟩,
  ⟨⟨Tryz.underlying274, rfl, by kernel_rfl, by kernel_rfl, .int .u32 0, by kernel_rfl, rfl, rfl⟩,
  ⟨⟨Tryz.underlying276, rfl, by kernel_rfl, by kernel_rfl, .int .u64 0, by kernel_rfl, rfl, rfl⟩,
  ⟨⟨Tryz.underlying278, rfl, by kernel_rfl, by kernel_rfl, .int .u64 0, by kernel_rfl, rfl, rfl⟩,
  ⟨⟨Tryz.underlying282, rfl, by kernel_rfl, by kernel_rfl, .pointer none, by kernel_rfl, rfl, rfl⟩,
  ⟨⟨Tryz.underlying284, rfl, by kernel_rfl, by kernel_rfl, .pointer none, by kernel_rfl, rfl, rfl⟩,
  ⟨⟨_, #[.pointer none, .pointer none, .pointer none, .string ⟨#[]⟩], Tryz.underlying287, by kernel_rfl, by kernel_rfl, by kernel_rfl, rfl, rfl, rfl, by kernel_rfl, rfl⟩,
  ⟨⟨_, #[.pointer none, .pointer none, .pointer none, .string ⟨#[]⟩], Tryz.underlying288, by kernel_rfl, by kernel_rfl, by kernel_rfl, rfl, rfl, rfl, by kernel_rfl, rfl⟩,
  ⟨⟨Tryz.underlying293, rfl, by kernel_rfl, by kernel_rfl, .int .u8 0, by kernel_rfl, rfl, rfl⟩,
  ⟨⟨Tryz.underlying294, rfl, by kernel_rfl, by kernel_rfl, .int .u8 0, by kernel_rfl, rfl, rfl⟩,
  ⟨⟨Tryz.underlying296, rfl, by kernel_rfl, by kernel_rfl, .pointer none, by kernel_rfl, rfl, rfl⟩,
  ⟨⟨Tryz.underlying297, rfl, by kernel_rfl, by kernel_rfl, .int .i32 0, by kernel_rfl, rfl, rfl⟩,
  ⟨⟨Tryz.underlying298, rfl, by kernel_rfl, by kernel_rfl, .int .i32 0, by kernel_rfl, rfl, rfl⟩,
  ⟨⟨_, #[.int .u64 0, .int .u64 0, .int .u32 0, .int .u8 0, .int .u8 0, .int .u8 0, .int .u8 0, .nilFunc, .pointer none, .int .i32 0, .int .i32 0], Tryz.underlying299, by kernel_rfl, by kernel_rfl, by kernel_rfl, rfl, rfl, rfl, by kernel_rfl, rfl⟩,
  ⟨⟨_, #[.int .u64 0, .int .u64 0, .int .u32 0, .int .u8 0, .int .u8 0, .int .u8 0, .int .u8 0, .nilFunc, .pointer none, .int .i32 0, .int .i32 0], Tryz.underlying300, by kernel_rfl, by kernel_rfl, by kernel_rfl, rfl, rfl, rfl, by kernel_rfl, rfl⟩,
  trivial⟩⟩⟩⟩⟩⟩⟩⟩⟩⟩⟩⟩⟩⟩⟩⟩⟩⟩⟩⟩⟩⟩⟩⟩⟩⟩⟩⟩⟩⟩⟩⟩⟩⟩⟩⟩⟩⟩⟩⟩⟩⟩⟩⟩⟩⟩⟩⟩⟩⟩⟩⟩⟩⟩⟩⟩⟩⟩⟩⟩⟩⟩⟩⟩⟩⟩⟩⟩⟩⟩⟩⟩⟩⟩⟩⟩⟩⟩⟩⟩⟩⟩⟩⟩⟩⟩⟩⟩⟩)
theorem mixed : Tryz.prog.follows .mixedOrders = true := by kernel_rfl
end Go.Proofs.YtchfpgpboifbeaaGreat.Ac
