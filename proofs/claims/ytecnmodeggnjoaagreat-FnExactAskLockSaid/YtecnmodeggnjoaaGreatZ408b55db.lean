/- Several of our texts, one behind the other, without what this claim does not need: AcW. -/
import Derived.Test.YtecnmodeggnjoaaGreatZf9c41e52
set_option linter.unusedVariables false
set_option linter.unusedSimpArgs false
namespace Go.Proofs.YtecnmodeggnjoaaGreat.Ac
open Go.RowKit
section
variable {P : Program} {tb : Tab} {w₀ : World} {H₀ : Hp} {φ₀ : Phi} {N : Nat} {e : Env} {g : Hp} {φ : Phi} {a : Act} {w : World} {K : Act → World → Prop} {Q : Exit → Act → World → Prop}
theorem fr_elim {sq : Bool} {q : Eff → Prop} {o : Out} : ∀ {l : List Nat} {rs : List Nat}, (frK l o).K sq g rs q → (∀ n ∈ l, g n = none) ∧ ∃ rs', o.K sq g rs' q
  | [], rs, h => ⟨fun n hn => (by cases hn), rs, h⟩
  | n :: l, rs, h => by
    simp only [frK, Out.K] at h
    split at h
    · rename_i hn
      obtain ⟨h1, h2⟩ := fr_elim h
      refine ⟨fun m hm => ?_, h2⟩
      rcases List.mem_cons.1 hm with rfl | hm
      · exact hn
      · exact h1 m hm
    · exact h.elim
theorem rnAK_eq {β : Type} {r : List (Nat × Nat)} {x : A} {κ : A → Out} : rnAK (β := β) r x κ = κ (rnA r x) := by cases x <;> first | rfl | (unfold rnAK; exact natK_eq)
theorem rnCK_eq {r : List (Nat × Nat)} : ∀ {l : List A} {κ : List A → Out}, rnCK r l κ = κ (rnC r l)
  | [], κ => rfl
  | x :: l, κ => by rw [rnCK, rnAK_eq, rnCK_eq]; rfl
theorem rnVK_eq {r : List (Nat × Nat)} : ∀ {l : List (Bool × List A)} {κ : List (Bool × List A) → Out}, rnVK r l κ = κ (rnP r l)
  | [], κ => rfl
  | (ag, cs) :: l, κ => by rw [rnVK, rnCK_eq, rnVK_eq]; rfl
theorem rnHK_elim {sq : Bool} {q : Eff → Prop} {r : List (Nat × Nat)} : ∀ {H : Hs} {κ : Hs → Out} {rs : List Nat}, ClH H → (rnHK r H κ).K sq g rs q → (κ (rnH r H)).K sq g rs q
  | [], κ, rs, _, h => h
  | (n, none) :: l, κ, rs, hc, h => rnHK_elim (H := l) (κ := fun l => κ ((rn r n, none) :: l)) (fun m ob hm => hc m ob (List.mem_cons_of_mem _ hm)) (by simp only [rnHK, natK_eq] at h; exact h)
  | (n, some ⟨fl, wd, es⟩) :: l, κ, rs, hc, h => by
    have hc' : ClH l := fun m ob hm => hc m ob (List.mem_cons_of_mem _ hm)
    simp only [rnHK, natK_eq] at h
    cases hb : Nat.beq fl 3
    · rw [hb] at h
      have h2 := rnHK_elim (H := l) (κ := fun l => κ ((rn r n, some ⟨fl, wd, es⟩) :: l)) hc' h
      have hcl := hc n _ List.mem_cons_self hb
      simp only [rnH, List.map_cons, rnOb, Option.map_some]
      rw [rnR_cl r hcl]
      exact h2
    · rw [hb] at h
      dsimp only [cond_true] at h
      split at h
      · rename_i e0
        rw [rnCK_eq] at h
        exact rnHK_elim (H := l) (κ := fun l => κ ((rn r n, some ⟨fl, wd, [rnC r e0]⟩) :: l)) hc' h
      · exact h.elim
theorem fzCO_eq : ∀ {cs : List A} {c : List L}, fzCO cs = some c → cs = c.map .f
  | [], c, h => by cases h; rfl
  | .f x :: l, c, h => by
    simp only [fzCO] at h
    split at h
    · rename_i r hr; cases h; rw [fzCO_eq hr]; rfl
    · cases h
  | .nl :: _, _, h => by cases h
  | .un _ :: _, _, h => by cases h
  | .row .. :: _, _, h => by cases h
  | .pt .. :: _, _, h => by cases h
  | .mp .. :: _, _, h => by cases h
  | .ow .. :: _, _, h => by cases h
  | .cl .. :: _, _, h => by cases h
theorem fzTs_eq : ∀ {vs : List T} {c : List (Bool × List L)}, fzTs vs = some c → vs = (fzL c).map fun x => .val x.1 x.2
  | [], c, h => by cases h; rfl
  | .val ag cs :: l, c, h => by
    simp only [fzTs] at h
    split at h
    · rename_i c1 c2 h1 h2; cases h; rw [fzCO_eq h1, fzTs_eq h2]; rfl
    · cases h
  | .tu _ :: _, _, h => by cases h
  | .bot :: _, _, h => by cases h
def RepTs (h : Array Obj) (H : Hp) (φ : Phi) : List T → List Value → Prop
  | [], [] => True
  | x :: xs, u :: us => RepT h H φ x u ∧ RepTs h H φ xs us
  | _, _ => False
theorem RepTs.tl {fz : Bool} {r : List (Nat × Nat)} {H0 : Hs} {out : Nat → Prop} (hH : subH fz r g H0 H0) (o : OutOK fz r H0 g φ out) (ok : HeapOK w.heap g φ) : ∀ {vs : List T} {ys : List (Bool × List A)} {us : List Value}, tlTs fz r g H0 vs ys → inP H0 ys = true → RepTs w.heap g φ vs us → RepVs w.heap (get H0) (ph r H0 g φ out) ys us
  | [], [], [], _, _, _ => trivial
  | .val ag cs :: vs, (ag', cs') :: ys, u :: us, ht, hi, hr => by
    simp only [inP, Bool.and_eq_true] at hi
    obtain ⟨h1, h2, h3⟩ := ht
    dsimp only at h1 h2
    subst h1
    exact ⟨repV_tl hH o ok h2 hi.1 hr.1, RepTs.tl hH o ok h3 hi.2 hr.2⟩
  | [], [], _ :: _, _, _, hr => hr.elim
  | _ :: _, _ :: _, [], _, _, hr => hr.elim
  | [], _ :: _, _, ht, _, _ => ht.elim
  | .val _ _ :: _, [], _, ht, _, _ => ht.elim
  | .tu _ :: _, _, _ :: _, ht, _, _ => ht.elim
  | .bot :: _, _, _ :: _, ht, _, _ => ht.elim
theorem gcall (s : Sim w₀ H₀ φ₀ N e g φ a w) {f : FuncId} {H0 H1 : Hs} {args res : List (Bool × List A)} (hc : GCalls P f H0 args H1 res) {fz : Bool} {r : List (Nat × Nat)} {vals : List T} {us : List Value} (hv : RepTs w.heap g φ vals us) (ht : tlTs fz r g H0 vals args) (hH : subH fz r g H0 H0)
    (hpl : fz = true → plVs res ∧ plH H1) (hi : inP H0 args = true) (hO : H0.all (fun x => inO H0 x.2) = true) (hnd : nodupB (H0.map fun x => rn r x.1) = true) {d : Nat} {rs : List Nat} {k : Eff → Prop} (h : (resO d H0 r H1 res).K true g rs k) :
    CallsX P f us.toArray w fun e' w' => ∃ v, e' = .returned v ∧ ∃ ε, k ε ∧ ∃ φ', RepT w'.heap (putH ε.upd g) φ' ε.val v ∧ HeapOK w'.heap (putH ε.upd g) φ' ∧ Turn w.heap g φ w'.heap (putH ε.upd g) φ' ∧ w'.os = w.os ∧ w'.tape = w.tape ∧ w'.output = w.output ∧ w.heap.size ≤ w'.heap.size := by
  unfold resO at h
  obtain ⟨h0, h1⟩ := cond_K h
  obtain ⟨hfr, rs', h2⟩ := fr_elim h1
  rw [nmK_eq, rnVK_eq] at h2
  have h3 := rnHK_elim hc.cl h2
  clear h h1 h2
  let out : Nat → Prop := match fz with
    | true => φ.out
    | false => fun b => Own φ b ∧ ∀ n ob q hd, get H0 n = some (some ob) → φ (rn r n, q) = some hd → hd.b ≠ b
  have houts : ∀ b, φ.out b → out b := by
    intro b hb
    cases fz with
    | true => exact hb
    | false => exact ⟨.inl hb, fun n ob q hd _ hq e => s.ok.apart _ hd hq (e ▸ hb)⟩
  have o : OutOK fz r H0 g φ out := by
    refine ⟨fun b hb => ?_, fun n ob' q hd hn hq hb => ?_, fun hz X hd hX hb => ?_⟩
    · cases fz with
      | true => exact .inl hb
      | false => exact hb.1
    · cases fz with
      | true => exact s.ok.apart _ hd hq hb
      | false => exact hb.2 n ob' q hd hn hq rfl
    · subst hz; exact s.ok.apart X hd hX hb
  have hnm : ∀ c, hasN H1 c = true → rn (nmL d H0 r H1) c = cond (hasN H0 c) (rn r c) (16 * (d + 1) + (c - 1000)) := by
    intro c hcn
    have : ∀ (l : Hs), hasN l c = true → get (nmL d H0 r l) c = some (cond (hasN H0 c) (rn r c) (16 * (d + 1) + (c - 1000))) := by
      intro l
      induction l with
      | nil => intro h; simp [hasN, get] at h
      | cons y l ih =>
        intro hl
        simp only [nmL, List.map_cons, get]
        cases hb : Nat.beq y.1 c
        · refine ih ?_
          simp only [hasN, get, hb, cond_false] at hl
          exact hl
        · rw [Nat.eq_of_beq_eq_true hb]; rfl
    simp only [rn, this H1 hcn, Option.getD_some]
  have hinj : nodupB (H1.map fun x => rn (nmL d H0 r H1) x.1) = true := by
    have : (H1.map fun x => rn (nmL d H0 r H1) x.1) = (nmL d H0 r H1).map (·.2) := by
      simp only [nmL, List.map_map]
      refine List.map_congr_left fun x hx => ?_
      have hx1 : hasN H1 x.1 = true := by
        unfold hasN
        cases hgt : get H1 x.1 with
        | some _ => rfl
        | none =>
          exfalso
          have : ∀ (l : Hs), x ∈ l → get l x.1 ≠ none := by
            intro l
            induction l with
            | nil => intro h; cases h
            | cons y l ih =>
              intro h
              simp only [get]
              cases hb : Nat.beq y.1 x.1
              · rcases List.mem_cons.1 h with rfl | h
                · simp at hb
                · exact ih h
              · simp
          exact this H1 hx hgt
      exact hnm x.1 hx1
    rw [this]; exact h0
  have kk : CallOK fz r (nmL d H0 r H1) H0 H1 g φ out := by
    refine ⟨o, houts, fun hz X hd hX hn => ?_, fun n hn => ?_, fun n hn hn0 => ?_, hinj, hc.dom⟩
    · subst hz
      refine ⟨.inr ⟨X, hd, hX, rfl⟩, fun n ob q hd' hn' hq e => hn n ob hn' ?_⟩
      exact congrArg Prod.fst (s.ok.inj _ _ _ _ hq hX e)
    · rw [hnm n (hc.dom n hn), hn]; rfl
    · rw [hnm n hn, hn0]
      refine hfr _ ?_
      unfold hasN at hn
      split at hn
      · rename_i x hx
        exact List.mem_map.2 ⟨(n, x), List.mem_filter.2 ⟨get_mem hx, by rw [hn0]; rfl⟩, rfl⟩
      · cases hn
  have hheap := heap_tl hH o s.ok hO (nodupB_live hnd)
  have hargs := RepTs.tl hH o s.ok ht hi hv
  refine (hc.calls _ w us hheap hargs).mono ?_
  rintro e' w' ⟨v, φ1, rfl, hr, ok1, t, a1, a2, a3, a4⟩
  have hout : φ1.out = out := t.out
  have okC := heapC kk s.ok hH ok1 t hout hc.inn.2 hc.cl fun hz => (hpl hz).2
  have tC := turnC kk hH t
  refine ⟨v, rfl, _, h3, _, ?_, okC, tC, a1, a2, a3, a4⟩
  dsimp only
  have key : ∀ {xs : List (Bool × List A)} {us : List Value}, inP H1 xs = true → (fz = true → plVs xs) → RepVs w'.heap (get H1) φ1 xs us → RepVs w'.heap (putH (rnH (nmL d H0 r H1) H1) g) (phC (nmL d H0 r H1) H1 φ φ1) (rnP (nmL d H0 r H1) xs) us := by
    intro xs
    induction xs with
    | nil => intro us _ _ hr; cases us with
      | nil => trivial
      | cons _ _ => exact hr.elim
    | cons x xs ih =>
      intro us hi hp hr
      obtain ⟨ag, cs⟩ := x
      cases us with
      | nil => exact hr.elim
      | cons u us =>
        simp only [inP, Bool.and_eq_true] at hi
        refine ⟨?_, ih hi.2 (fun hz => (hp hz).2) hr.2⟩
        have hcell : ∀ {cs : List A} {us : List Value}, inC H1 cs = true → (fz = true → plC cs) → RepC w'.heap (get H1) φ1 cs us → RepC w'.heap (putH (rnH (nmL d H0 r H1) H1) g) (phC (nmL d H0 r H1) H1 φ φ1) (rnC (nmL d H0 r H1) cs) us := by
          intro cs
          induction cs with
          | nil => intro us _ _ hr; cases us with
            | nil => trivial
            | cons _ _ => exact hr.elim
          | cons y cs ih2 =>
            intro us hi hp hr
            cases us with
            | nil => exact hr.elim
            | cons u us =>
              simp only [inC, Bool.and_eq_true] at hi
              exact ⟨repE_C kk hout hr.1 hi.1 fun hz => (hp hz).1, ih2 hi.2 (fun hz => (hp hz).2) hr.2⟩
        have hr1 := hr.1
        dsimp only at hr1
        cases ag with
        | true => obtain ⟨c, rfl, hc2⟩ := hr1; exact ⟨c, rfl, hcell hi.1 (fun hz => (hp hz).1) hc2⟩
        | false =>
          obtain ⟨y, rfl, hy⟩ := hr1
          simp only [inC, Bool.and_true] at hi
          exact ⟨_, rfl, repE_C kk hout hy hi.1 fun hz => (hp hz).1.1⟩
  match res, hr, hpl, hc.inn.1 with
  | [], hr, hpl, hin =>
    obtain ⟨us', hv', hr2⟩ := hr
    exact ⟨us', hv', key (xs := []) hin (fun hz => (hpl hz).1) hr2⟩
  | [x], hr, hpl, hin =>
    obtain ⟨ag, cs⟩ := x
    have := key (xs := [(ag, cs)]) (us := [v]) hin (fun hz => (hpl hz).1) ⟨hr, trivial⟩
    exact this.1
  | x :: y :: xs, hr, hpl, hin =>
    obtain ⟨us', rfl, hr⟩ := hr
    obtain ⟨ag, cs⟩ := x
    obtain ⟨ag', cs'⟩ := y
    exact ⟨us', rfl, key hin (fun hz => (hpl hz).1) hr⟩
theorem callO_calls (s : Sim w₀ H₀ φ₀ N e g φ a w) {f : FuncId} {d : Nat} {vals : List T} {us : List Value} (hv : RepTs w.heap g φ vals us) {rs : List Nat} {k : Eff → Prop} (h : (callO P f d vals).K true g rs k) :
    CallsX P f us.toArray w fun e' w' => ∃ v, e' = .returned v ∧ ∃ ε, k ε ∧ ∃ φ', RepT w'.heap (putH ε.upd g) φ' ε.val v ∧ HeapOK w'.heap (putH ε.upd g) φ' ∧ Turn w.heap g φ w'.heap (putH ε.upd g) φ' ∧ w'.os = w.os ∧ w'.tape = w.tape ∧ w'.output = w.output ∧ w.heap.size ≤ w'.heap.size := by
  unfold callO at h
  split at h
  · rename_i args hargs
    obtain ⟨⟨H1, res⟩, hc, h⟩ := h
    have hvals := fzTs_eq hargs
    refine gcall s hc (fz := false) (r := []) hv ?_ trivial (fun h => by cases h) ?_ rfl rfl h
    · rw [hvals]
      have key : ∀ (l : List (Bool × List L)), tlTs false [] g [] ((fzL l).map fun x => .val x.1 x.2) (fzL l) := by
        intro l
        induction l with
        | nil => trivial
        | cons x l ih =>
          refine ⟨rfl, ?_, ih⟩
          have : ∀ (c : List L), tlC false [] g [] (c.map .f) (c.map .f) := by
            intro c
            induction c with
            | nil => trivial
            | cons y c ih => exact ⟨rfl, ih⟩
          exact this x.2
      exact key args
    · have key : ∀ (l : List (Bool × List L)), inP [] (fzL l) = true := by
        intro l
        induction l with
        | nil => rfl
        | cons x l ih =>
          have : ∀ (c : List L), inC [] (c.map .f) = true := by
            intro c
            induction c with
            | nil => rfl
            | cons y c ih => simp only [List.map_cons, inC, inA, Bool.true_and]; exact ih
          simp only [fzL, List.map_cons, inP, this, Bool.true_and]
          exact ih
      exact key args
  · obtain ⟨⟨fz, r, H0, args, H1, res⟩, hc, h⟩ := h
    dsimp only at hc h
    obtain ⟨h0, h⟩ := cond_K h
    simp only [Bool.and_eq_true] at h0
    obtain ⟨⟨h01, h02⟩, h03⟩ := h0
    obtain ⟨loc1, rs1, h, g0, _, g02⟩ := rdAll_elim _ _ _ (fun n => .inl rfl) h
    obtain ⟨loc, rs', h, g1, g3, _⟩ := rdAll_elim _ _ _ g0 h
    have g2 : ∀ n ∈ nmTs vals ++ H0.map fun x => rn r x.1, get loc n = g n := fun n hn => by
      have e := g02 n hn
      rcases g1 n with h1 | h1
      · by_cases hz : get loc1 n = none
        · rw [h1, ← e, hz]
        · exact absurd h1 (g3 n hz)
      · exact h1
    obtain ⟨⟨h1, h2, h3⟩, h⟩ := h
    have hr : ∀ n, hasN H0 n = true → get loc (rn r n) = g (rn r n) := by
      intro n hn
      refine g2 _ (List.mem_append_right _ ?_)
      unfold hasN at hn
      split at hn
      · rename_i x hx
        exact List.mem_map.2 ⟨(n, x), get_mem hx, rfl⟩
      · cases hn
    refine gcall s hc hv ?_ (subH_up g1 hr h02 H0 (fun x hx => hx) h2) (fun hz => by subst hz; exact h3) h01 h02 h03 h
    have key : ∀ {vs : List T} {ys : List (Bool × List A)}, inP H0 ys = true → tlTs fz r (get loc) H0 vs ys → tlTs fz r g H0 vs ys := by
      intro vs
      induction vs with
      | nil =>
        intro ys _ h
        cases ys with
        | nil => trivial
        | cons _ _ => exact h.elim
      | cons v vs ih =>
        intro ys hi h
        cases v with
        | val ag cs =>
          cases ys with
          | nil => exact h.elim
          | cons y ys =>
            obtain ⟨ag', cs'⟩ := y
            simp only [inP, Bool.and_eq_true] at hi
            exact ⟨h.1, tlC_up g1 hr hi.1 h.2.1, ih hi.2 h.2.2⟩
        | tu _ => exact h.elim
        | bot => exact h.elim
    exact key h01 h1
def fnO (P : Program) (d : Nat) (fv : T) (vals : List T) : Out := match fv with
  | .val false [.f (.cl f ls)] => callO P f d (vals ++ ls.map fun x => .val x.1 (x.2.map .f))
  | .val false [.cl f caps] => callO P f d (vals ++ caps.map fun x => .val x.1 x.2)
  | _ => .no
def callee (o : Op) : Option (Operand × Array Operand) := match o with
  | .call { callee := .value x, args, .. } => some (x, args)
  | _ => none
def tagC : List A → List Nat
  | .f (.v (.int _ _)) :: l => 0 :: tagC l
  | .f (.v (.string _)) :: l => 1 :: tagC l
  | _ :: l => 2 :: tagC l
  | [] => []
def eqFs (P : Program) : Nat → List Field → List Nat → Bool
  | _, [], [] => true
  | n, f :: fs, k :: ks => f.name != "_" && Nat.beq f.offset n && (match P.underlying f.type with
    | some (.int _) => Nat.beq k 0
    | some .string => Nat.beq k 1
    | _ => false) && eqFs P (n + 1) fs ks
  | _, _, _ => false
def eqPl (P : Program) (t : TypeId) (ks : List Nat) : Bool := !P.stoodInHeld t && !P.eqGuardType P.depth t && match P.underlying t with
  | some (.struct fs) => eqFs P 0 fs.toList ks
  | _ => false
def eqPO (op : BinOp) (p : Prop) : Out := match op with
  | .eql => split2 p
  | .neq => split2 (¬ p)
  | _ => .no
theorem eqP_does (ok : HeapOK w.heap g φ) {s : BinOp → Sem Next} {p : Prop} (b : Bool) (hb : b = true ↔ p) (h1 : (s .eql).run P w = .ok (.value (.bool b)) w) (h2 : (s .neq).run P w = .ok (.value (.bool (!b))) w) (rs : List Nat) : ∀ op, DoesO P w g φ (s op) rs (eqPO op p) := by
  intro op
  cases op
  case eql => exact split2_does ok b hb h1 rs
  case neq => exact split2_does ok (!b) (by rw [Bool.not_eq_true', ← Bool.not_eq_true, hb]) h2 rs
  all_goals exact fun k h => h.elim
def eqStO (P : Program) (op : BinOp) (t : TypeId) (x y : T) : Out := match x, y with
  | .val true cs, .val true ds => match eqC cs ds with
    | some p => .con (eqPl P t (tagC cs) = true) (eqPO op p)
    | none => .no
  | _, _ => .no
def isStr (tb : Tab) (o : Op) : Option (BinOp × TypeId × Operand × Operand) := match o with
  | .binOp op t x y _ => match tb t with
    | some (.st _ _ _ _) => some (op, t, x, y)
    | _ => none
  | _ => none
def actO (P : Program) (tb : Tab) (o : Op) (d : Nat) (ρ : Operand → T) : Out := match callee o with
  | some (x, args) => fnO P d (ρ x) (args.toList.map ρ)
  | none => match isStr tb o with
    | some (op, t, x, y) => eqStO P op t (ρ x) (ρ y)
    | none => opO tb o d ρ
theorem eqC_tags : ∀ {cs ds : List A} {p : Prop}, eqC cs ds = some p → ∀ {P : Program} {d : Nat} {w : World} {h : Array Obj} {H : Hp} {φ : Phi} {us vs : List Value}, RepC h H φ cs us → RepC h H φ ds vs → ∀ {n : Nat} {fs : List Field} {xs ys : Array Value},
    eqFs P n fs (tagC cs) = true → (∀ j u, us[j]? = some u → xs[n + j]? = some u) → (∀ j u, vs[j]? = some u → ys[n + j]? = some u) → ∃ b : Bool, (b = true ↔ p) ∧ (Op.eqFields (d + 1) xs ys fs).run P w = .ok b w := by
  intro cs
  induction cs with
  | nil =>
    intro ds p h
    cases ds with
    | nil =>
      cases h
      intro P d w h H φ us vs hu hv n fs xs ys hf h1 h2
      cases fs with
      | nil => exact ⟨true, by simp, by simp [Op.eqFields]⟩
      | cons f fs => cases hf
    | cons y ds => cases h
  | cons x cs ih =>
    intro ds p h
    cases ds with
    | nil => unfold eqC at h; split at h <;> simp_all
    | cons y ds =>
    intro P d w h' H φ us vs hu hv n fs xs ys hf h1 h2
    cases us with
    | nil => exact hu.elim
    | cons u us =>
    cases vs with
    | nil => exact hv.elim
    | cons v vs =>
    have step : ∀ {a b : Value} {q p' : Prop} {f : Field} {fs' : List Field} {k : Nat} {r : Bool}, fs = f :: fs' → u = a → v = b → f.name ≠ "_" → f.offset = n → (P.underlying f.type = some (.int .i64) → True) → (∀ w, (isAgg f.type).run P w = .ok false w) → ((Op.equalIn (d + 1) f.type a b).run P w = .ok r w) → (r = true ↔ q) → eqC cs ds = some p' → eqFs P (n + 1) fs' (tagC cs) = true → p = (q ∧ p') →
        ∃ b : Bool, (b = true ↔ p) ∧ (Op.eqFields (d + 1) xs ys fs).run P w = .ok b w := by
      intro a b q p' f fs' k r hfs hua hvb hnm hoff _ hag heq hr hp' hf' hp
      subst hfs hua hvb hp
      obtain ⟨b', hb1, hb2⟩ := ih hp' hu.2 hv.2 (d := d) (w := w) (xs := xs) (ys := ys) hf' (fun j u hj => by have := h1 (j + 1) u (by simpa using hj); rw [show n + 1 + j = n + (j + 1) by omega]; exact this) (fun j u hj => by have := h2 (j + 1) u (by simpa using hj); rw [show n + 1 + j = n + (j + 1) by omega]; exact this)
      have e1 := h1 0 u rfl
      have e2 := h2 0 v rfl
      rw [Nat.add_zero] at e1 e2
      cases r with
      | true =>
        refine ⟨b', by rw [hb1]; simp [hr.1 rfl], ?_⟩
        simp [Op.eqFields, hnm, part, hag, hoff, e1, e2, heq, hb2]
      | false =>
        have hq : ¬ q := fun w => by have := hr.2 w; cases this
        refine ⟨false, by simp [hq], ?_⟩
        simp [Op.eqFields, hnm, part, hag, hoff, e1, e2, heq]
    cases fs with
    | nil => unfold tagC at hf; split at hf <;> simp_all [eqFs]
    | cons f fs =>
    unfold eqC at h
    split at h
    · rename_i he _; cases he
    · rename_i i a xs' j b ys' hx hy
      cases hx; cases hy
      split at h
      · rename_i p' hb hp'
        cases h
        have hij := beqK_eq hb
        subst hij
        simp only [tagC, eqFs, Bool.and_eq_true] at hf
        obtain ⟨⟨⟨f1, f2⟩, f3⟩, f4⟩ := hf
        cases v_rep ⟨_, rfl, hu.1⟩
        cases v_rep ⟨_, rfl, hv.1⟩
        split at f3
        · rename_i k' hk'
          exact step (k := 0) (q := a = b) rfl rfl rfl (by simpa using f1) (Nat.eq_of_beq_eq_true f2) (fun _ => trivial) (fun w => by simp [isAgg, run_underlying hk']) (run_equalIn_int w d f.type i k' a b hk') (by simp) hp' f4 rfl
        · cases f3
        · cases f3
      · cases h
    · rename_i a xs' b ys' hx hy
      cases hx; cases hy
      split at h
      · rename_i p' hp'
        cases h
        simp only [tagC, eqFs, Bool.and_eq_true] at hf
        obtain ⟨⟨⟨f1, f2⟩, f3⟩, f4⟩ := hf
        cases v_rep ⟨_, rfl, hu.1⟩
        cases v_rep ⟨_, rfl, hv.1⟩
        split at f3
        · cases f3
        · rename_i hk'
          exact step (k := 0) (q := a = b) rfl rfl rfl (by simpa using f1) (Nat.eq_of_beq_eq_true f2) (fun _ => trivial) (fun w => by simp [isAgg, run_underlying hk']) (run_equalIn_string w d f.type a b hk') (Lib.bytes_beq_iff a b) hp' f4 rfl
        · cases f3
      · cases h
    · cases h
theorem callee_eq {o : Op} {x : Operand} {args : Array Operand} (h : callee o = some (x, args)) : ∃ ts, o = .call { callee := .value x, args := args, argTypes := ts } := by
  unfold callee at h
  split at h
  · cases h; exact ⟨_, rfl⟩
  · cases h
theorem RepTs.app {h : Array Obj} {H : Hp} {φ : Phi} : ∀ {xs : List T} {us : List Value} {ys : List T} {vs : List Value}, RepTs h H φ xs us → RepTs h H φ ys vs → RepTs h H φ (xs ++ ys) (us ++ vs)
  | [], [], _, _, _, r => r
  | _ :: _, _ :: _, _, _, q, r => ⟨q.1, RepTs.app q.2 r⟩
  | [], _ :: _, _, _, q, _ => q.elim
  | _ :: _, [], _, _, q, _ => q.elim
theorem RepTs.of_get {h : Array Obj} {H : Hp} {φ : Phi} : ∀ {xs : List T} {us : List Value}, us.length = xs.length → (∀ (i : Nat) (x : T), xs[i]? = some x → RepT h H φ x (us.getD i undef)) → RepTs h H φ xs us
  | [], [], _, _ => trivial
  | x :: xs, u :: us, hl, hr => ⟨hr 0 x rfl, RepTs.of_get (by simpa using hl) fun i y hy => hr (i + 1) y hy⟩
  | [], _ :: _, hl, _ => by simp at hl
  | _ :: _, [], hl, _ => by simp at hl
theorem RepV.of_wf {h : Array Obj} {H : Hp} {φ : Phi} {ag : Bool} {cs : List A} {u : Value} (hw : wfv ag cs.length u) (hr : ∀ j x, cs[j]? = some x → RepE h H φ x (partv ag u j)) : RepV h H φ ag cs u := by
  cases ag with
  | true =>
    obtain ⟨c, rfl, hc⟩ := hw
    refine ⟨c, rfl, ?_⟩
    have := RepC_of (h := h) (H := H) (φ := φ) (xs := cs) (fun j => c.getD j undef) fun j x hx => by have := hr j x hx; simpa [partv] using this
    have e : (List.range cs.length).map (fun j => c.getD j undef) = c.toList := by
      apply List.ext_getElem?
      intro q
      rw [List.getElem?_map]
      by_cases hq : q < c.size
      · rw [List.getElem?_range (by omega), Array.getElem?_toList]
        simp [hq]
      · rw [List.getElem?_eq_none (by simp; omega), List.getElem?_eq_none (by simp; omega)]; rfl
    rw [e] at this; exact this
  | false =>
    obtain ⟨h1, _⟩ := hw
    match cs, h1 with
    | [x], _ => exact ⟨x, rfl, by have := hr 0 x rfl; cases u <;> exact this⟩
theorem fn_calls (s : Sim w₀ H₀ φ₀ N e g φ a w) {d : Nat} {fv : T} {vf : Value} (hf : RepT w.heap g φ fv vf) {vals : List T} {us : List Value} (hv : RepTs w.heap g φ vals us) {rs : List Nat} {k : Eff → Prop} (h : (fnO P d fv vals).K true g rs k) :
    ∃ f cap, vf = .func (.func f) #[] cap ∧ CallsX P f (us ++ cap.toList).toArray w fun e' w' => ∃ v, e' = .returned v ∧ ∃ ε, k ε ∧ ∃ φ', RepT w'.heap (putH ε.upd g) φ' ε.val v ∧ HeapOK w'.heap (putH ε.upd g) φ' ∧ Turn w.heap g φ w'.heap (putH ε.upd g) φ' ∧ w'.os = w.os ∧ w'.tape = w.tape ∧ w'.output = w.output ∧ w.heap.size ≤ w'.heap.size := by
  unfold fnO at h
  split at h
  · rename_i f ls
    have r := rep_one hf
    cases r with
    | f _ _ r =>
    cases r with
    | cl _ _ cap hs hw hr =>
      have h1 := callO_calls s (hv.app (RepTs.of_get (us := cap.toList) (by simpa using hs) fun i x hx => by
        rw [List.getElem?_map] at hx
        cases hq : ls[i]? with
        | none => rw [hq] at hx; cases hx
        | some y =>
          rw [hq] at hx
          cases hx
          have e1 : cap.toList.getD i undef = cap.getD i undef := by simp [List.getD_eq_getElem?_getD]
          rw [e1]
          refine RepV.of_wf (by simpa using hw i y hq) fun j x hx => ?_
          rw [List.getElem?_map] at hx
          cases hq2 : y.2[j]? with
          | none => rw [hq2] at hx; cases hx
          | some z => rw [hq2] at hx; cases hx; exact .f _ _ (hr i y j z hq hq2))) h
      exact ⟨f, cap, rfl, h1⟩
  · rename_i f caps
    have r := rep_one hf
    cases r with
    | cl _ _ cap hs hw hr =>
      have h1 := callO_calls s (hv.app (RepTs.of_get (us := cap.toList) (by simpa using hs) fun i x hx => by
        rw [List.getElem?_map] at hx
        cases hq : caps[i]? with
        | none => rw [hq] at hx; cases hx
        | some y =>
          rw [hq] at hx
          cases hx
          have e1 : cap.toList.getD i undef = cap.getD i undef := by simp [List.getD_eq_getElem?_getD]
          rw [e1]
          exact RepV.of_wf (hw i y hq) fun j x hx => hr i y j x hq hx)) h
      exact ⟨f, cap, rfl, h1⟩
  · exact h.elim
theorem RepTs.map (s : Sim w₀ H₀ φ₀ N e g φ a w) : ∀ {xs : List Operand}, (∀ x ∈ xs, operOK x = true) → RepTs w.heap g φ (xs.map (evT e)) (xs.map a.eval)
  | [], _ => trivial
  | x :: xs, h => ⟨ev_ok s (h x List.mem_cons_self), RepTs.map s fun y hy => h y (List.mem_cons_of_mem _ hy)⟩
theorem act_wp (hT : TabOK P tb) (s : Sim w₀ H₀ φ₀ N e g φ a w) {o : Oper} {d : Nat} (hop : o.op.operands.all operOK = true) (hd : ∀ x, o.dst = some x → x < N) {rs : List Nat} {k : Eff → Prop} (h : (actO P tb o.op d (evT e)).K true g rs k)
    (hK : ∀ ε, k ε → ∀ a' w', SimS w₀ H₀ φ₀ N (putE o.dst ε.val e) (putH ε.upd g) a' w' → K a' w') : o.wp P a w K Q := by
  unfold actO at h
  split at h
  · rename_i x args hc
    obtain ⟨ts, hop'⟩ := callee_eq hc
    have hx : operOK x = true := Array.all_eq_true_iff_forall_mem.1 hop x (by rw [hop']; simp [Op.operands, Call.operands])
    have hargs : ∀ y ∈ args.toList, operOK y = true := fun y hy => Array.all_eq_true_iff_forall_mem.1 hop y (by rw [hop']; simp [Op.operands, Call.operands]; exact .inr (by simpa using hy))
    obtain ⟨f, cap, hvf, hcalls⟩ := fn_calls s (ev_ok s hx) (RepTs.map s hargs) h
    have hrun0 : (execOp a.eval o).run P w = (callFunc f (args.toList.map a.eval ++ cap.toList).toArray).run P w := by
      unfold execOp
      simp only [hop', resolve, hvf, Deferred.ofValue, Sem.run_bind, Sem.run_pure, Result.andThen_ok, invoke]
      congr 2
      apply Array.ext'
      simp
    rcases hcalls with ⟨⟨fn, f1, f2, f3⟩, hcalls⟩ | ⟨v, w', hv, v', e', ε, hk, φ', hr, ok', t', a1, a2, a3, a4⟩
    · have hrun : (execOp a.eval o).run P w = .ok (.enter f (args.toList.map a.eval ++ cap.toList).toArray) w := by
        rw [hrun0]
        unfold callFunc
        simp only [Sem.run_bind, run_program, Result.andThen_ok, f1, f2, f3]
        simp
      unfold Oper.wp
      rw [hrun, Oper.upon_enter]
      refine Calls.mono hcalls ?_
      rintro e' w' ⟨v, rfl, ε, hk, φ', hr, ok', t', a1, a2, a3, a4⟩
      exact hK ε hk _ _ ⟨φ', s.next t' ok' a1 a2 a3 a4 hd fun _ => hr⟩
    · cases e'
      exact wp_ok (hrun0.trans hv) (hK ε hk _ _ ⟨φ', s.next t' ok' a1 a2 a3 a4 hd fun _ => hr⟩)
  · split at h
    · rename_i op t x y hst
      have hop' : ∃ z, o.op = .binOp op t x y z := by
        unfold isStr at hst
        split at hst
        · rename_i op0 t0 x0 y0 z0 he
          split at hst
          · cases hst; exact ⟨z0, he⟩
          · cases hst
        · cases hst
      obtain ⟨z, hop'⟩ := hop'
      have ox : operOK x = true := Array.all_eq_true_iff_forall_mem.1 hop x (by rw [hop']; simp [Op.operands])
      have oy : operOK y = true := Array.all_eq_true_iff_forall_mem.1 hop y (by rw [hop']; simp [Op.operands])
      have hx := ev_ok s ox
      have hy := ev_ok s oy
      unfold eqStO at h
      split at h
      · rename_i cs ds h1 h2
        rw [h1] at hx
        rw [h2] at hy
        obtain ⟨us, hus, hu⟩ := hx
        obtain ⟨vs, hvs, hv⟩ := hy
        split at h
        · rename_i p hp
          obtain ⟨hpl, h⟩ := h
          simp only [eqPl, Bool.and_eq_true, Bool.not_eq_true'] at hpl
          obtain ⟨⟨g1, g2⟩, g3⟩ := hpl
          split at g3
          · rename_i fs hfs
            have hff : P.fieldsOf t = fs := by unfold Program.fieldsOf; rw [hfs]
            obtain ⟨b, hb1, hb2⟩ := eqC_tags hp hu hv (P := P) (d := 9998) (w := w) (n := 0) (fs := fs.toList) (xs := us) (ys := vs) g3 (fun j u hj => by simpa using hj) (fun j u hj => by simpa using hj)
            have heq : (Op.equalIn 10000 t (.agg us) (.agg vs)).run P w = .ok b w := by
              rw [run_equalIn_agg w 9999 t us vs (by rw [hff]; exact hfs) g1, hff]; exact hb2
            have hg := fun op => run_eqGuard_agg (P := P) w op t x y us vs g2
            have run1 : (execOp a.eval o).run P w = (do pure (.value (← (do eqGuard op t x y (.agg us) (.agg vs); binOp op t (.agg us) (.agg vs)))) : Sem Next).run P w := by
              unfold execOp
              simp only [hop', hus, hvs]
            obtain ⟨ε, h1, h2⟩ := eqP_does (P := P) s.ok (s := fun op => (do pure (.value (← (do eqGuard op t x y (.agg us) (.agg vs); binOp op t (.agg us) (.agg vs)))) : Sem Next)) b hb1 (by simp [hg, run_eql_struct, heq]) (by simp [hg, run_neq_struct, heq]) rs op k h
            have h2 : Does P w g φ (execOp a.eval o) ε := by
              obtain ⟨n, w', φ', q1, q2⟩ := h2
              exact ⟨n, w', φ', run1.trans q1, q2⟩
            exact h2.wp s hd fun a' w' hs => hK ε h1 a' w' hs
          · cases g3
        · exact h.elim
      · exact h.elim
    · obtain ⟨ε, h1, h2⟩ := opO_does hT s hop rs k h
      exact h2.wp s hd fun a' w' hs => hK ε h1 a' w' hs
end
end Go.Proofs.YtecnmodeggnjoaaGreat.Ac
