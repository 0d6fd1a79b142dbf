/- Several of our texts, one behind the other, without what this claim does not need: AcT, AcU. -/
import Derived.Test.YtecnmodeggnjoaaGreatZ00233e93
set_option linter.unusedVariables false
set_option linter.unusedSimpArgs false
namespace Go.Proofs.YtecnmodeggnjoaaGreat.Ac
open Go.RowKit
section
variable {P : Program} {w₀ : World} {H₀ : Hp} {φ₀ : Phi} {N : Nat} {a : Act} {w : World} {fp : List Nat}
theorem SimS.tell {r : List (Nat × Nat)} {es' : Es} {hs' : Hs} {e : Env} {g : Hp} (q : Sub fp r es' hs' e g) (hfp : ∀ n x, H₀ n = some x → n ∈ fp) (s : SimS w₀ H₀ φ₀ N e g a w) : SimS w₀ H₀ φ₀ N (get es') (get hs') a w := by
  obtain ⟨φ, s⟩ := s
  obtain ⟨q1, q2, q3⟩ := q
  simp only [subB, Bool.and_eq_true] at q1
  obtain ⟨⟨⟨a1, a2⟩, a3⟩, a4⟩ := q1
  have o : OutOK true r hs' g φ φ.out := ⟨fun b hb => .inl hb, fun n ob' q hd _ h => s.ok.apart _ hd h, fun _ X hd h => s.ok.apart X hd h⟩
  have hE : ∀ {l : Es}, subE true r g hs' e l → ∀ {t : Nat} {y : T}, (t, y) ∈ l → ∃ x, e t = some x ∧ tlT true r g hs' x y := by
    intro l
    induction l with
    | nil => intro _ t y hm; cases hm
    | cons z l ih =>
      intro hs t y hm
      rcases List.mem_cons.1 hm with rfl | hm
      · have := hs.1
        split at this
        · rename_i x hx; exact ⟨x, hx, this⟩
        · exact this.elim
      · exact ih hs.2 hm
  have fpk : ∀ n x, H₀ n = some x → hasN hs' n = true ∧ rn r n = n := fun n x hx => by
    have := List.all_eq_true.1 a4 n (hfp n x hx)
    simp only [Bool.and_eq_true] at this
    exact ⟨this.1, Nat.eq_of_beq_eq_true this.2⟩
  refine ⟨ph r hs' g φ φ.out, fun t y hy => ?_, s.sz, s.dfr, heap_tl q3 o s.ok a2 a3, ⟨s.turn.out, fun b hb hO => ?_, fun n hn => ?_, fun n ob hn => ?_⟩, s.os, s.tape, s.output, s.size⟩
  · obtain ⟨x, hx, ht⟩ := hE q2 (get_mem hy)
    exact repT_tl q3 o s.ok ht (List.all_eq_true.1 a1 _ (get_mem hy)) (s.env t x hx)
  · obtain ⟨h1, h2⟩ := s.turn.blk0 b hb hO
    refine ⟨?_, h2⟩
    rintro ⟨X, hd, hX, rfl⟩
    exact h1 ⟨_, hd, (ph_some hX).1, rfl⟩
  · have hg := s.turn.dead n hn
    obtain ⟨k1, k2⟩ := fpk n _ hn
    rcases ref_told q3 k1 with h0 | ⟨ob', ob, h1, h2, _⟩ | ⟨ob', h1, h2, _⟩
    · exact h0
    · rw [k2, hg] at h2; cases h2
    · rw [k2, hg] at h2; cases h2
  · obtain ⟨k1, k2⟩ := fpk n _ hn
    rcases ref_told q3 k1 with h0 | ⟨ob', ob2, h1, h2, h3, h4, h5, _⟩ | ⟨ob', h1, h2, _⟩
    · exact .inl h0
    · rcases s.turn.live n ob hn with hd | ⟨ob3, g1, g2, g3, g4⟩
      · rw [k2, hd] at h2; cases h2
      · rw [k2, g1] at h2
        cases h2
        refine .inr ⟨ob', h1, ?_, h3.symm.trans g3, by rw [← tlR_len h5]; exact g4⟩
        have := ph_live (φ := φ) (out := φ.out) h1 (show g (rn r n) = some (some ob2) by rw [k2]; exact g1) []
        rw [this, k2]; exact g2
    · rcases s.turn.live n ob hn with hd | ⟨ob3, g1, _⟩
      · rw [k2, hd] at h2; cases h2
      · rw [k2, g1] at h2; cases h2
def impO (m n i j : Nat) : Out := aliveO n fun fl wd es => aliveO m fun _ wd' ys => elO fl es i fun e => segK e j 1 fun seg => match seg with
  | [.row m' lo len] => cond (Nat.beq m m' && !Nat.beq m n && Nat.beq lo 0) (.ex (fun ys' : List (List A) => ys.take len = ys') fun ys' => spliceK e j [.ow wd' ys'] fun e' => setO fl wd es i e' fun ob => .ok .bot [(n, some ob), (m, none)]) .no
  | _ => .no
def ghK : List (Nat × Nat × Nat × Nat) → Hs → (Hs → Prop) → Prop
  | [], hs, k => k hs
  | (m, n, i, j) :: l, hs, k => (impO m n i j).K true (get hs) [] fun ε => match ε with
    | ⟨_, _, u⟩ => ghK l (u ++ hs) k
theorem imp_step {e : Env} {g : Hp} {φ : Phi} {m n i j : Nat} {k : Eff → Prop} (s : Sim w₀ H₀ φ₀ N e g φ a w) (h : (impO m n i j).K true g [] k) : ∃ ε, k ε ∧ SimS w₀ H₀ φ₀ N e (putH ε.upd g) a w := by
  unfold impO at h
  obtain ⟨fl, wd, es, hn, hf4, h1⟩ := alive_elim h
  obtain ⟨fl', wd', ys, hm, hm4, h2⟩ := alive_elim h1
  obtain ⟨e0, he, h3, h4⟩ := el_elim h2
  obtain ⟨hj, h5⟩ := seg_elim h4
  clear h h1 h2 h4
  have hlt : j < e0.length := by omega
  have e1 : (e0.drop j).take 1 = [e0[j]] := by rw [List.drop_eq_getElem_cons hlt]; rfl
  rw [e1] at h5
  split at h5
  · rename_i m' lo len heq
    have hx : e0[j] = .row m' lo len := by simpa using heq
    obtain ⟨hb, h6⟩ := cond_K h5
    simp only [Bool.and_eq_true, Bool.not_eq_true'] at hb
    have em := Nat.eq_of_beq_eq_true hb.1.1
    have el := Nat.eq_of_beq_eq_true hb.2
    subst em el
    have hmn : n ≠ m := fun e => by subst e; simp at hb
    obtain ⟨ys', rfl, h7⟩ := h6
    obtain ⟨_, h8⟩ := splice_elim h7
    have h9 := set_elim h3 h8
    have ej : e0.take j ++ [.ow wd' (ys.take len)] ++ e0.drop (j + [A.ow wd' (ys.take len)].length) = e0.set j (.ow wd' (ys.take len)) := by
      rw [List.set_eq_take_append_cons_drop, if_pos hlt]; simp
    rw [ej] at h9
    obtain ⟨φ', ok', t', _⟩ := imp_ok s.ok hn hf4 hm hm4 hmn he (show e0[j]? = some (.row m 0 len) by rw [List.getElem?_eq_getElem hlt, hx])
    refine ⟨_, h9, φ', ?_⟩
    dsimp only
    rw [putH_cons, putH_one]
    exact ⟨fun t x hx => (s.env t x hx).mono fun _ _ r => r.turn t', s.sz, s.dfr, ok', s.turn.trans t', s.os, s.tape, s.output, s.size⟩
  · exact h5.elim
theorem gh_ok {e : Env} : ∀ {l : List (Nat × Nat × Nat × Nat)} {hs : Hs} {k : Hs → Prop}, ghK l hs k → SimS w₀ H₀ φ₀ N e (get hs) a w → ∃ hs', k hs' ∧ SimS w₀ H₀ φ₀ N e (get hs') a w
  | [], hs, k, h, s => ⟨hs, h, s⟩
  | (m, n, i, j) :: l, hs, k, h, ⟨φ, s⟩ => by
    obtain ⟨⟨v, rd, u⟩, h1, s1⟩ := imp_step s h
    dsimp only at h1 s1
    rw [putH_get] at s1
    exact gh_ok h1 s1
def Tell (fp : List Nat) (gl : List (Nat × Nat × Nat × Nat)) (r : List (Nat × Nat)) (es' : Es) (hs' : Hs) (es : Es) (hs : Hs) : Prop := ghK gl hs fun hs1 => Sub fp r es' hs' (get es) (get hs1)
theorem SimS.told {gl : List (Nat × Nat × Nat × Nat)} {r : List (Nat × Nat)} {es es' : Es} {hs hs' : Hs} (q : Tell fp gl r es' hs' es hs) (hfp : ∀ n x, H₀ n = some x → n ∈ fp) (s : SimS w₀ H₀ φ₀ N (get es) (get hs) a w) : SimS w₀ H₀ φ₀ N (get es') (get hs') a w := by
  obtain ⟨hs1, h1, s1⟩ := gh_ok q s
  exact s1.tell h1 hfp
end
def RepR (h : Array Obj) (H : Hp) (φ : Phi) : List (Bool × List A) → Value → Prop
  | [x], u => RepV h H φ x.1 x.2 u
  | xs, u => ∃ us, u = .tuple us ∧ RepVs h H φ xs us.toList
def resT : List (Bool × List A) → T
  | [x] => .val x.1 x.2
  | xs => .tu xs
theorem RepR.t {h : Array Obj} {H : Hp} {φ : Phi} : ∀ {xs : List (Bool × List A)} {u : Value}, RepR h H φ xs u → RepT h H φ (resT xs) u
  | [], _, r => r
  | [x], _, r => r
  | _ :: _ :: _, _, r => r
def ClH (hs : Hs) : Prop := ∀ n ob, (n, some ob) ∈ hs → Nat.beq ob.fl 3 = false → clR ob.es
def IsFn (P : Program) (f : FuncId) : Prop := ∃ fn, P.funcs[f]? = some fn ∧ (fn.name == "runtime.NumGoroutine") = false ∧ fn.body.isNone = false
def CallsX (P : Program) (f : FuncId) (us : Array Value) (w : World) (Q : Ending → World → Prop) : Prop := (IsFn P f ∧ Calls P f us w Q) ∨ ∃ v w', (callFunc f us).run P w = .ok (.value v) w' ∧ Q (.returned v) w'
theorem CallsX.mono {P : Program} {f : FuncId} {us : Array Value} {w : World} {Q Q' : Ending → World → Prop} (h : CallsX P f us w Q) (hq : ∀ e w', Q e w' → Q' e w') : CallsX P f us w Q' :=
  h.imp (fun h => ⟨h.1, h.2.mono hq⟩) fun ⟨v, w', h1, h2⟩ => ⟨v, w', h1, hq _ _ h2⟩
theorem CallsX.body {P : Program} {f : FuncId} {us : Array Value} {w : World} {Q : Ending → World → Prop} (h : CallsX P f us w Q) (hf : IsFn P f) : Calls P f us w Q := by
  rcases h with h | ⟨v, w', h1, _⟩
  · exact h.2
  · obtain ⟨fn, f1, f2, f3⟩ := hf
    unfold callFunc at h1
    simp only [Sem.run_bind, run_program, Result.andThen_ok, f1, f2, f3] at h1
    simp at h1
structure GCalls (P : Program) (f : FuncId) (H0 : Hs) (args : List (Bool × List A)) (H1 : Hs) (res : List (Bool × List A)) : Prop where
  cl : ClH H1
  dom : ∀ n, hasN H0 n = true → hasN H1 n = true
  inn : inP H1 res = true ∧ H1.all (fun x => inO H1 x.2) = true
  calls : ∀ (φ : Phi) (w : World) (us : List Value), HeapOK w.heap (get H0) φ → RepVs w.heap (get H0) φ args us → CallsX P f us.toArray w fun e w' => ∃ v φ', e = .returned v ∧ RepR w'.heap (get H1) φ' res v ∧ HeapOK w'.heap (get H1) φ' ∧
    Turn w.heap (get H0) φ w'.heap (get H1) φ' ∧ w'.os = w.os ∧ w'.tape = w.tape ∧ w'.output = w.output ∧ w.heap.size ≤ w'.heap.size
def fzL (args : List (Bool × List L)) : List (Bool × List A) := args.map fun x => (x.1, x.2.map .f)
def FC (P : Program) (f : FuncId) (args : List (Bool × List L)) (H1 : Hs) (res : List (Bool × List A)) : Prop := GCalls P f [] (fzL args) H1 res
end Go.Proofs.YtecnmodeggnjoaaGreat.Ac
set_option linter.unusedVariables false
set_option linter.unusedSimpArgs false
namespace Go.Proofs.YtecnmodeggnjoaaGreat.Ac
open Go.RowKit
mutual
/-- A cell in which nothing hangs on memory, but for rows. -/
def plA : A → Prop
  | .f (.v _) => True
  | .f (.sl _ []) => True
  | .f _ => False
  | .nl => True
  | .un _ => True
  | .row _ _ _ => True
  | .pt _ _ _ => True
  | .mp _ => False
  | .ow _ es => plR es
  | .cl _ _ => False
def plC : List A → Prop
  | [] => True
  | x :: l => plA x ∧ plC l
def plR : List (List A) → Prop
  | [] => True
  | e :: l => plC e ∧ plR l
end
def plVs : List (Bool × List A) → Prop
  | [] => True
  | x :: l => plC x.2 ∧ plVs l
def plH : Hs → Prop
  | [] => True
  | (_, some ob) :: l => plR ob.es ∧ plH l
  | (_, none) :: l => plH l
theorem plC_at : ∀ {l : List A}, plC l → ∀ {x : A}, x ∈ l → plA x
  | [], _, _, hx => by cases hx
  | y :: l, h, x, hx => by
    rcases List.mem_cons.1 hx with rfl | hx
    · exact h.1
    · exact plC_at h.2 hx
theorem plR_at : ∀ {l : List (List A)}, plR l → ∀ {x : List A}, x ∈ l → plC x
  | [], _, _, hx => by cases hx
  | y :: l, h, x, hx => by
    rcases List.mem_cons.1 hx with rfl | hx
    · exact h.1
    · exact plR_at h.2 hx
theorem plH_at : ∀ {l : Hs}, plH l → ∀ {n : Nat} {ob : Ob}, (n, some ob) ∈ l → plR ob.es
  | [], _, _, _, hx => by cases hx
  | (m, some o) :: l, h, n, ob, hx => by
    rcases List.mem_cons.1 hx with hx | hx
    · cases hx; exact h.1
    · exact plH_at h.2 hx
  | (m, none) :: l, h, n, ob, hx => by
    rcases List.mem_cons.1 hx with hx | hx
    · cases hx
    · exact plH_at (l := l) h hx
def rnOb (r : List (Nat × Nat)) (o : Option Ob) : Option Ob := o.map fun ob => ⟨ob.fl, ob.wd, rnR r ob.es⟩
def rnH (r : List (Nat × Nat)) (H : Hs) : Hs := H.map fun x => (rn r x.1, rnOb r x.2)
section
variable {P : Program} {fz : Bool} {r r1 : List (Nat × Nat)} {H0 H1 : Hs} {h h' : Array Obj} {g : Hp} {φ φ1 : Phi} {out : Nat → Prop}
structure CallOK (fz : Bool) (r r1 : List (Nat × Nat)) (H0 H1 : Hs) (g : Hp) (φ : Phi) (out : Nat → Prop) : Prop where
  o : OutOK fz r H0 g φ out
  outs : ∀ b, φ.out b → out b
  rest : fz = false → ∀ X hd, φ X = some hd → (∀ n ob, get H0 n = some (some ob) → rn r n ≠ X.1) → out hd.b
  same : ∀ n, hasN H0 n = true → rn r1 n = rn r n
  fresh : ∀ n, hasN H1 n = true → hasN H0 n = false → g (rn r1 n) = none
  inj : nodupB (H1.map fun x => rn r1 x.1) = true
  dom : ∀ n, hasN H0 n = true → hasN H1 n = true
open Classical in
noncomputable def phC (r1 : List (Nat × Nat)) (H1 : Hs) (φ φ1 : Phi) : Phi := ⟨fun X => if hc : ∃ c, hasN H1 c = true ∧ rn r1 c = X.1 then (match get H1 hc.choose with
  | some (some _) => φ1 (hc.choose, X.2)
  | _ => none) else φ X, φ.out⟩
variable (k : CallOK fz r r1 H0 H1 g φ out)
include k
theorem nm_inj {m n : Nat} (hm : hasN H1 m = true) (hn : hasN H1 n = true) (e : rn r1 m = rn r1 n) : m = n := by
  unfold hasN at hm hn
  split at hm
  · rename_i o1 h1
    split at hn
    · rename_i o2 h2
      exact nodupB_inj k.inj (get_mem h1) (get_mem h2) e
    · cases hn
  · cases hm
theorem phC_at {c : Nat} (hc : hasN H1 c = true) (q : List (Nat × Nat)) : (phC r1 H1 φ φ1) (rn r1 c, q) = match get H1 c with
    | some (some _) => φ1 (c, q)
    | _ => none := by
  have ex : ∃ c', hasN H1 c' = true ∧ rn r1 c' = rn r1 c := ⟨c, hc, rfl⟩
  have hch := ex.choose_spec
  have e : ex.choose = c := nm_inj k hch.1 hc hch.2
  simp only [phC, dif_pos ex, e]
omit k in
theorem phC_ne {X : Place} (hX : ∀ c, hasN H1 c = true → rn r1 c ≠ X.1) : (phC r1 H1 φ φ1) X = φ X := by
  have : ¬ ∃ c, hasN H1 c = true ∧ rn r1 c = X.1 := fun ⟨c, h1, h2⟩ => hX c h1 h2
  simp only [phC, dif_neg this]
theorem phC_some {X : Place} {hd : Hd} (hX : (phC r1 H1 φ φ1) X = some hd) : (∃ c ob, get H1 c = some (some ob) ∧ rn r1 c = X.1 ∧ φ1 (c, X.2) = some hd) ∨ ((∀ c, hasN H1 c = true → rn r1 c ≠ X.1) ∧ φ X = some hd) := by
  by_cases hc : ∃ c, hasN H1 c = true ∧ rn r1 c = X.1
  · obtain ⟨c, h1, h2⟩ := hc
    have := phC_at (φ := φ) (φ1 := φ1) k h1 X.2
    rw [h2] at this
    rw [show (phC r1 H1 φ φ1) X = _ from this] at hX
    split at hX
    · rename_i ob hg; exact .inl ⟨c, ob, hg, h2, hX⟩
    · cases hX
  · have hn : ∀ c, hasN H1 c = true → rn r1 c ≠ X.1 := fun c h1 h2 => hc ⟨c, h1, h2⟩
    rw [phC_ne hn] at hX
    exact .inr ⟨hn, hX⟩
omit k in
theorem get_rnH {n : Nat} (hn : ∀ c, hasN H1 c = true → rn r1 c ≠ n) : get (rnH r1 H1) n = none := by
  refine get_none fun hm => ?_
  simp only [rnH, List.map_map] at hm
  obtain ⟨x, hx, e⟩ := List.mem_map.1 hm
  refine hn x.1 ?_ e
  unfold hasN
  cases hg : get H1 x.1 with
  | some _ => rfl
  | none =>
    exfalso
    have : ∀ (l : Hs), x ∈ l → get l x.1 ≠ none := by
      intro l
      induction l with
      | nil => intro h; cases h
      | cons y l ih =>
        intro h
        simp only [get]
        cases hb : Nat.beq y.1 x.1
        · rcases List.mem_cons.1 h with rfl | h
          · simp at hb
          · exact ih h
        · simp
    exact this H1 hx hg
omit k in
theorem get_rnH_at (hinj : nodupB (H1.map fun x => rn r1 x.1) = true) {c : Nat} {o : Option Ob} (hc : get H1 c = some o) : get (rnH r1 H1) (rn r1 c) = some (rnOb r1 o) := by
  have : ∀ (l : Hs), (∀ x ∈ l, x ∈ H1) → get l c = some o → get (rnH r1 l) (rn r1 c) = some (rnOb r1 o) := by
    intro l
    induction l with
    | nil => intro _ h; cases h
    | cons y l ih =>
      intro hl h
      simp only [rnH, List.map_cons, get] at h ⊢
      cases hb : Nat.beq y.1 c
      · rw [hb] at h
        have hne : rn r1 y.1 ≠ rn r1 c := fun e => by
          have := nodupB_inj hinj (hl y List.mem_cons_self) (get_mem hc) e
          rw [this] at hb; simp at hb
        rw [beq_false hne]
        exact ih (fun x hx => hl x (List.mem_cons_of_mem _ hx)) h
      · rw [hb] at h
        have := Nat.eq_of_beq_eq_true hb
        rw [this, Nat.beq_refl]
        simp only [cond_true, Option.some.injEq] at h ⊢
        rw [h]
  exact this H1 (fun x hx => hx) hc
theorem putH_at {c : Nat} {o : Option Ob} (hc : get H1 c = some o) : putH (rnH r1 H1) g (rn r1 c) = some (rnOb r1 o) := by
  simp only [putH, get_rnH_at k.inj hc]
omit k in
theorem putH_off {n : Nat} (hn : ∀ c, hasN H1 c = true → rn r1 c ≠ n) : putH (rnH r1 H1) g n = g n := by
  simp only [putH, get_rnH hn]
omit k in
theorem has_of {c : Nat} {o : Option Ob} (hc : get H1 c = some o) : hasN H1 c = true := by unfold hasN; rw [hc]
variable (ok : HeapOK h g φ) (hH : subH fz r g H0 H0) (ok1 : HeapOK h' (get H1) φ1) (t : Turn h (get H0) (ph r H0 g φ out) h' (get H1) φ1)
include ok hH ok1 t
omit hH ok1 in
theorem off_keep {X : Place} {hd : Hd} (hX : φ X = some hd) (hn : ∀ c, hasN H1 c = true → rn r1 c ≠ X.1) : ¬ Own0 φ1 hd.b ∧ h'[hd.b]? = h[hd.b]? := by
  refine t.blk0 hd.b (ok.lt X hd hX) ?_
  rintro ⟨Y, hd2, hY, hb⟩
  obtain ⟨h1, ob', h2⟩ := ph_some hY
  have := ok.inj _ _ _ _ h1 hX hb
  have h0 : hasN H0 Y.1 = true := by unfold hasN; rw [h2]
  exact hn Y.1 (k.dom _ h0) (by rw [k.same _ h0]; exact congrArg Prod.fst this)
omit ok ok1 in
theorem turnC : Turn h g φ h' (putH (rnH r1 H1) g) (phC r1 H1 φ φ1) := by
  refine ⟨rfl, fun b hb hO => ?_, fun n hn => ?_, fun n ob hn => ?_⟩
  · have hOc : ¬ Own0 (ph r H0 g φ out) b := by
      rintro ⟨X, hd, hX, rfl⟩
      exact hO ⟨_, hd, (ph_some hX).1, rfl⟩
    obtain ⟨h1, h2⟩ := t.blk0 b hb hOc
    refine ⟨?_, h2⟩
    rintro ⟨X, hd, hX, rfl⟩
    rcases phC_some k hX with ⟨c, ob, _, _, h5⟩ | ⟨_, h5⟩
    · exact h1 ⟨_, hd, h5, rfl⟩
    · exact hO ⟨_, hd, h5, rfl⟩
  · by_cases hc : ∃ c, hasN H1 c = true ∧ rn r1 c = n
    · obtain ⟨c, h1, rfl⟩ := hc
      have h0 : hasN H0 c = true := by
        cases h0 : hasN H0 c with
        | true => rfl
        | false => rw [k.fresh c h1 h0] at hn; cases hn
      rw [k.same c h0] at hn
      have hd0 : get H0 c = some none := by
        rcases ref_told hH h0 with h2 | ⟨ob', ob, h2, h3, _⟩ | ⟨ob', h2, h3, _⟩
        · exact h2
        · rw [hn] at h3; cases h3
        · rw [hn] at h3; cases h3
      have := t.dead c hd0
      rw [putH_at k this]; rfl
    · rw [putH_off fun c h1 h2 => hc ⟨c, h1, h2⟩]; exact hn
  · by_cases hc : ∃ c, hasN H1 c = true ∧ rn r1 c = n
    · obtain ⟨c, h1, rfl⟩ := hc
      have h0 : hasN H0 c = true := by
        cases h0 : hasN H0 c with
        | true => rfl
        | false => rw [k.fresh c h1 h0] at hn; cases hn
      rcases ref_told hH h0 with h2 | ⟨ob', ob2, h2, h3, h4, h5, h6, _⟩ | ⟨ob', h2, h3, _⟩
      · have := t.dead c h2
        exact .inl (by rw [putH_at k this]; rfl)
      · rw [← k.same c h0, hn] at h3
        cases h3
        rcases t.live c ob' h2 with hd | ⟨ob'', g1, g2, g3, g4⟩
        · exact .inl (by rw [putH_at k hd]; rfl)
        · refine .inr ⟨_, (putH_at k g1).trans rfl, ?_, g3.trans h4.symm, ?_⟩
          · rw [phC_at k h1, g1]
            dsimp only
            rw [g2, ph_live h2 (by rw [← k.same c h0]; exact hn), k.same c h0]
          · dsimp only
            rw [rnR_map, List.length_map, tlR_len h6]
            exact g4
      · rw [← k.same c h0, hn] at h3; cases h3
    · have hne : ∀ c, hasN H1 c = true → rn r1 c ≠ n := fun c h1 h2 => hc ⟨c, h1, h2⟩
      exact .inr ⟨ob, (putH_off hne).trans hn, phC_ne hne, rfl, Nat.le_refl _⟩
variable (hout : φ1.out = out)
include hout
omit ok hH ok1 t in
theorem own_phC (hfz : fz = false) {b : Nat} (h : Own (phC r1 H1 φ φ1) b) : Own φ1 b := by
  rcases h with h | ⟨X, hd, hX, rfl⟩
  · exact .inl (by rw [hout]; exact k.outs b h)
  · rcases phC_some k hX with ⟨c, ob, _, _, h5⟩ | ⟨h4, h5⟩
    · exact .inr ⟨_, hd, h5, rfl⟩
    · refine .inl ?_
      rw [hout]
      refine k.rest hfz X hd h5 fun n ob hn e => ?_
      have h0 : hasN H0 n = true := by unfold hasN; rw [hn]
      exact h4 n (k.dom n h0) (by rw [k.same n h0]; exact e)
omit ok hH ok1 t in
theorem repL_C {x : L} {u : Value} (hp : fz = true → plA (.f x)) (rx : RepL h' (Own φ1) x u) : RepL h' (Own (phC r1 H1 φ φ1)) x u := by
  cases fz with
  | false => exact rx.less fun b hb => own_phC k hout rfl hb
  | true =>
    have := hp rfl
    cases rx with
    | v _ hx => exact .v _ hx
    | nil wd a cap => exact .nil wd a cap
    | sl wd es b off cap c ty fr hw he =>
      cases es with
      | nil => exact absurd rfl he
      | cons e es => exact this.elim
    | pv => exact this.elim
    | cl => exact this.elim
omit ok hH ok1 t in
theorem repE_C : ∀ {x : A} {u : Value}, RepE h' (get H1) φ1 x u → inA H1 x = true → (fz = true → plA x) → RepE h' (putH (rnH r1 H1) g) (phC r1 H1 φ φ1) (rnA r1 x) u := by
  intro x u rx
  induction rx with
  | f x u rx => exact fun _ hp => .f _ _ (repL_C k hout hp rx)
  | nl a => exact fun _ _ => .nl a
  | un m u h1 h2 => exact fun _ _ => .un m u h1 h2
  | row n lo hi u rr =>
    intro hi' _
    refine .row _ _ _ _ ⟨rr.1, ?_⟩
    have r2 := rr.2
    simp only [inA] at hi'
    unfold hasN at hi'
    split at hi'
    · rename_i o ho
      rw [putH_at k ho]
      rw [ho] at r2
      cases o with
      | none => trivial
      | some ob =>
        dsimp only [rnOb, Option.map_some] at r2 ⊢
        obtain ⟨a1, a2, a3⟩ := r2
        refine ⟨a1, by rw [rnR_map, List.length_map]; exact a2, ?_⟩
        rw [phC_at k (has_of ho), ho]; exact a3
    · cases hi'
  | pt n i off u rr =>
    intro hi' _
    refine .pt _ _ _ _ ⟨rr.1, ?_⟩
    have r2 := rr.2
    simp only [inA] at hi'
    unfold hasN at hi'
    split at hi'
    · rename_i o ho
      rw [putH_at k ho]
      rw [ho] at r2
      cases o with
      | none => trivial
      | some ob =>
        dsimp only [rnOb, Option.map_some] at r2 ⊢
        obtain ⟨hd, a1, a2⟩ := r2
        refine ⟨hd, ?_, a2⟩
        rw [phC_at k (has_of ho), ho]; exact a1
    · cases hi'
  | mp n u rr =>
    intro hi' _
    refine .mp _ _ ⟨rr.1, ?_⟩
    have r2 := rr.2
    simp only [inA] at hi'
    unfold hasN at hi'
    split at hi'
    · rename_i o ho
      rw [putH_at k ho]
      rw [ho] at r2
      cases o with
      | none => trivial
      | some ob =>
        dsimp only [rnOb, Option.map_some] at r2 ⊢
        obtain ⟨hd, a1, a2⟩ := r2
        refine ⟨hd, ?_, a2⟩
        rw [phC_at k (has_of ho), ho]; exact a1
    · cases hi'
  | cl f caps cap hs hw hr ih =>
    intro hi' hp
    simp only [inA] at hi'
    have hfz : fz = false := by
      cases fz with
      | false => rfl
      | true => exact (hp rfl).elim
    refine .cl f (rnP r1 caps) cap (by rw [rnP_map]; simpa using hs) (fun i x hx => ?_) fun i x j y hx hy => ?_
    · rw [rnP_map, List.getElem?_map] at hx
      cases hq : caps[i]? with
      | none => rw [hq] at hx; cases hx
      | some x0 => rw [hq] at hx; cases hx; simpa using hw i x0 hq
    · rw [rnP_map, List.getElem?_map] at hx
      cases hq : caps[i]? with
      | none => rw [hq] at hx; cases hx
      | some x0 =>
        rw [hq] at hx
        cases hx
        rw [List.getElem?_map] at hy
        cases hq2 : x0.2[j]? with
        | none => rw [hq2] at hy; cases hy
        | some y0 =>
          rw [hq2] at hy
          cases hy
          exact ih i x0 j y0 hq hq2 (inC_all H1 (inP_all H1 hi' x0 (List.mem_of_getElem? hq)) y0 (List.mem_of_getElem? hq2)) fun h => by rw [hfz] at h; cases h
omit ok hH ok1 t in
theorem repA_C {c : Nat} {ob0 : Ob} (hc : get H1 c = some (some ob0)) : ∀ {X : Place} {x : A} {u : Value}, RepA h' (get H1) φ1 X x u → X.1 = c → inA H1 x = true → (fz = true → plA x) → RepA h' (putH (rnH r1 H1) g) (phC r1 H1 φ φ1) (rn r1 c, X.2) (rnA r1 x) u := by
  have hat : ∀ q, (phC r1 H1 φ φ1) (rn r1 c, q) = φ1 (c, q) := fun q => by rw [phC_at k (has_of hc), hc]
  intro X x u rx
  induction rx with
  | e X x u rx => exact fun _ hi hp => .e _ _ _ (repE_C k hout rx hi hp)
  | nilo X wd a hw hX => exact fun hX1 _ _ => .nilo _ wd a hw (by rw [hat, ← hX1]; exact hX)
  | ow X wd es hd cc ty hX hb okr hr ih =>
    intro hX1 hi hp
    simp only [inA] at hi
    have e1 : (rnR r1 es).length = es.length := by rw [rnR_map]; simp
    rw [← e1]
    refine .ow _ wd (rnR r1 es) hd cc ty (by rw [hat, ← hX1]; exact hX) hb ⟨okr.wd0, fun e he => ?_, by rw [e1]; exact okr.le, okr.cap, okr.size, okr.one⟩ fun i e j x hi' hj => ?_
    · rw [rnR_map] at he
      obtain ⟨e0, he0, rfl⟩ := List.mem_map.1 he
      simpa using okr.len e0 he0
    · rw [rnR_map, List.getElem?_map] at hi'
      cases hq : es[i]? with
      | none => rw [hq] at hi'; cases hi'
      | some e0 =>
        rw [hq] at hi'
        cases hi'
        rw [List.getElem?_map] at hj
        cases hq2 : e0[j]? with
        | none => rw [hq2] at hj; cases hj
        | some x0 =>
          rw [hq2] at hj
          cases hj
          exact ih i e0 j x0 hq hq2 hX1 (inC_all H1 (inR_all H1 hi e0 (List.mem_of_getElem? hq)) x0 (List.mem_of_getElem? hq2)) fun h => plC_at (plR_at (hp h) (List.mem_of_getElem? hq)) (List.mem_of_getElem? hq2)
theorem heapC (hin : H1.all (fun x => inO H1 x.2) = true) (hcl : ClH H1) (hp : fz = true → plH H1) : HeapOK h' (putH (rnH r1 H1) g) (phC r1 H1 φ φ1) := by
  have tC := turnC k hH t
  have hsz : h.size ≤ h'.size ∨ True := .inr trivial
  refine ⟨fun n ob hn => ?_, fun X hd hX => ?_, fun X hd hX ho => ?_, fun b hb => ?_, fun X Y hd1 hd2 hX hY hb => ?_⟩
  · by_cases hc : ∃ c, hasN H1 c = true ∧ rn r1 c = n
    · obtain ⟨c, h1, rfl⟩ := hc
      unfold hasN at h1
      split at h1
      · rename_i o ho
        rw [putH_at k ho] at hn
        cases o with
        | none => cases hn
        | some ob1 =>
          cases hn
          have hat : ∀ q, (phC r1 H1 φ φ1) (rn r1 c, q) = φ1 (c, q) := fun q => by rw [phC_at k (has_of ho), ho]
          have hin1 : inR H1 ob1.es = true := by
            have := List.all_eq_true.1 hin _ (get_mem ho)
            simp only [inO] at this
            cases hb : Nat.beq ob1.fl 3
            · exact inR_cl H1 (hcl c ob1 (get_mem ho) hb)
            · rw [hb] at this; exact this
          have hob := ok1.ob c ob1 ho
          have e1 : (rnR r1 ob1.es).length = ob1.es.length := by rw [rnR_map]; simp
          refine ⟨hob.1, fun h4 => ?_, fun h4 => ?_⟩
          rotate_left
          · obtain ⟨hd, es, ck, l, b1, b2, b3, b4⟩ := hob.2.2 h4
            exact ⟨hd, es, ck, l, (hat _).trans b1, b2, by dsimp only; rw [b3]; exact rnR_cl r1 (cl_mp l), b4⟩
          rcases (hob.row h4) with ⟨a1, a2⟩ | ⟨hd, cc, ty, a1, a2, a3, a4, a5⟩
          · exact .inl ⟨List.eq_nil_of_length_eq_zero (by dsimp only; rw [e1, a1]; rfl), (hat _).trans a2⟩
          · refine .inr ⟨hd, cc, ty, (hat _).trans a1, a2, ⟨a3.wd0, fun e he => ?_, by dsimp only; rw [e1]; exact a3.le, a3.cap, a3.size, a3.one⟩, fun hf => by dsimp only; rw [e1]; exact a4 hf, fun i e j x hi' hj => ?_⟩
            · dsimp only at he
              rw [rnR_map] at he
              obtain ⟨e0, he0, rfl⟩ := List.mem_map.1 he
              simpa using a3.len e0 he0
            · dsimp only at hi'
              rw [rnR_map, List.getElem?_map] at hi'
              cases hq : ob1.es[i]? with
              | none => rw [hq] at hi'; cases hi'
              | some e0 =>
                rw [hq] at hi'
                cases hi'
                rw [List.getElem?_map] at hj
                cases hq2 : e0[j]? with
                | none => rw [hq2] at hj; cases hj
                | some x0 =>
                  rw [hq2] at hj
                  cases hj
                  exact repA_C k hout ho (a5 i e0 j x0 hq hq2) rfl (inC_all H1 (inR_all H1 hin1 e0 (List.mem_of_getElem? hq)) x0 (List.mem_of_getElem? hq2)) fun h => plC_at (plR_at (plH_at (hp h) (get_mem ho)) (List.mem_of_getElem? hq)) (List.mem_of_getElem? hq2)
      · cases h1
    · have hne : ∀ c, hasN H1 c = true → rn r1 c ≠ n := fun c h1 h2 => hc ⟨c, h1, h2⟩
      rw [putH_off hne] at hn
      exact (ok.ob n ob hn).keep (fun _ _ r => r.turn tC) (fun q => phC_ne hne) fun q hd hq => (off_keep k ok t hq hne).2
  · rcases phC_some k hX with ⟨c, ob, _, _, h5⟩ | ⟨h4, h5⟩
    · exact ok1.lt _ hd h5
    · exact lt_of_same (ok.lt X hd h5) (off_keep k ok t h5 h4).2
  · rcases phC_some k hX with ⟨c, ob, _, _, h5⟩ | ⟨h4, h5⟩
    · exact ok1.apart _ hd h5 (by rw [hout]; exact k.outs _ ho)
    · exact ok.apart _ hd h5 ho
  · have hO0 : ¬ Own0 (ph r H0 g φ out) b := by
      rintro ⟨X, hd, hX, rfl⟩
      exact ok.apart _ hd (ph_some hX).1 hb
    exact lt_of_same (ok.old b hb) (t.blk0 b (ok.old b hb) hO0).2
  · rcases phC_some k hX with ⟨c, ob, g1, g2, g3⟩ | ⟨g2, g3⟩ <;> rcases phC_some k hY with ⟨c', ob', g1', g2', g3'⟩ | ⟨g2', g3'⟩
    · have := ok1.inj _ _ _ _ g3 g3' hb
      simp only [Prod.mk.injEq] at this
      refine Prod.ext ?_ this.2
      rw [← g2, ← g2', this.1]
    · exact absurd ⟨_, hd1, g3, hb⟩ (off_keep k ok t g3' g2').1
    · exact absurd ⟨_, hd2, g3', hb.symm⟩ (off_keep k ok t g3 g2).1
    · exact ok.inj _ _ _ _ g3 g3' hb
end
end Go.Proofs.YtecnmodeggnjoaaGreat.Ac
