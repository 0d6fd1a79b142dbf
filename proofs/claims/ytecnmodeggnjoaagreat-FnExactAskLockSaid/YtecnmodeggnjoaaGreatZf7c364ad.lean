/- Several of our texts, one behind the other, without what this claim does not need: AcE. -/
import Derived.Test.YtecnmodeggnjoaaGreatZ2148fcee
set_option linter.unusedVariables false
set_option linter.unusedSimpArgs false
namespace Go.Proofs.YtecnmodeggnjoaaGreat.Ac
open Go.RowKit
inductive Out : Type 1 where
  | no
  | ok (v : T) (u : List (Nat × Option Ob))
  | rd (n : Nat) (k : Option (Option Ob) → Out)
  | spl (c : Prop) (a b : Out)
  | con (c : Prop) (a : Out)
  | ex {α : Type} (p : α → Prop) (f : α → Out)
  | all {α : Type} (p : α → Prop) (f : α → Out)
def Out.K (sq : Bool) (g : Hp) : Out → List Nat → (Eff → Prop) → Prop
  | .no, _, _ => False
  | .ok v u, rs, k => k ⟨v, rs, u⟩
  | .rd n f, rs, k => (f (g n)).K sq g (n :: rs) k
  | .spl c a b, rs, k => (c → a.K sq g rs k) ∧ (¬ c → b.K sq g rs k)
  | .con c a, rs, k => c ∧ a.K sq g rs k
  | .ex p f, rs, k => ∃ x, p x ∧ (f x).K sq g rs k
  | .all p f, rs, k => match sq with
    | true => ∀ x, p x → (f x).K sq g rs k
    | false => False
section
variable {g g' : Hp} {ε : Eff} {k k' : Eff → Prop}
theorem Out.mono (hk : ∀ ε, k ε → k' ε) {sq : Bool} : ∀ (o : Out) (rs : List Nat), o.K sq g rs k → o.K sq g rs k'
  | .no, _, h => h
  | .ok v u, rs, h => hk _ h
  | .rd n f, rs, h => Out.mono hk (f (g n)) _ h
  | .spl c a b, rs, h => ⟨fun hc => Out.mono hk a rs (h.1 hc), fun hc => Out.mono hk b rs (h.2 hc)⟩
  | .con c a, rs, h => ⟨h.1, Out.mono hk a rs h.2⟩
  | .ex p f, rs, ⟨x, hx, h⟩ => ⟨x, hx, Out.mono hk (f x) rs h⟩
  | .all p f, rs, h => by
    cases sq with
    | true => exact fun x hx => Out.mono hk (f x) rs (h x hx)
    | false => exact h
theorem Out.seq : ∀ (o : Out) (rs : List Nat), o.K false g rs k → o.K true g rs k
  | .no, _, h => h
  | .ok v u, rs, h => h
  | .rd n f, rs, h => Out.seq (f (g n)) _ h
  | .spl c a b, rs, h => ⟨fun hc => Out.seq a rs (h.1 hc), fun hc => Out.seq b rs (h.2 hc)⟩
  | .con c a, rs, h => ⟨h.1, Out.seq a rs h.2⟩
  | .ex p f, rs, ⟨x, hx, h⟩ => ⟨x, hx, Out.seq (f x) rs h⟩
  | .all p f, rs, h => h.elim
theorem Out.elim : ∀ (o : Out) (rs : List Nat), o.K false g rs k → ∃ ε, o.K false g rs (fun ε' => ε' = ε) ∧ k ε
  | .no, _, h => h.elim
  | .ok v u, rs, h => ⟨_, rfl, h⟩
  | .rd n f, rs, h => Out.elim (f (g n)) _ h
  | .spl c a b, rs, h => by
    by_cases hc : c
    · obtain ⟨ε, h1, h2⟩ := Out.elim a rs (h.1 hc)
      exact ⟨ε, ⟨fun _ => h1, fun h => absurd hc h⟩, h2⟩
    · obtain ⟨ε, h1, h2⟩ := Out.elim b rs (h.2 hc)
      exact ⟨ε, ⟨fun h => absurd h hc, fun _ => h1⟩, h2⟩
  | .con c a, rs, h => by
    obtain ⟨ε, h1, h2⟩ := Out.elim a rs h.2
    exact ⟨ε, ⟨h.1, h1⟩, h2⟩
  | .ex p f, rs, ⟨x, hx, h⟩ => by
    obtain ⟨ε, h1, h2⟩ := Out.elim (f x) rs h
    exact ⟨ε, ⟨x, hx, h1⟩, h2⟩
  | .all p f, rs, h => h.elim
theorem Out.reads : ∀ (o : Out) (rs : List Nat), o.K false g rs (fun ε' => ε' = ε) → ∀ n ∈ rs, n ∈ ε.rdn
  | .no, _, h => h.elim
  | .ok v u, rs, h => by cases h; exact fun n hn => hn
  | .rd n f, rs, h => fun m hm => Out.reads (f (g n)) _ h m (List.mem_cons_of_mem _ hm)
  | .spl c a b, rs, h => by
    by_cases hc : c
    · exact Out.reads a rs (h.1 hc)
    · exact Out.reads b rs (h.2 hc)
  | .con c a, rs, h => Out.reads a rs h.2
  | .ex p f, rs, ⟨x, _, h⟩ => Out.reads (f x) rs h
  | .all p f, rs, h => h.elim
theorem Out.local (hg : ∀ n ∈ names ε, g' n = g n) : ∀ (o : Out) (rs : List Nat), o.K false g rs (fun ε' => ε' = ε) → o.K false g' rs (fun ε' => ε' = ε)
  | .no, _, h => h
  | .ok v u, rs, h => h
  | .rd n f, rs, h => by
    have hn : n ∈ ε.rdn := Out.reads (f (g n)) _ h n List.mem_cons_self
    show (f (g' n)).K false g' (n :: rs) _
    rw [hg n (List.mem_append_left _ hn)]
    exact Out.local hg (f (g n)) _ h
  | .spl c a b, rs, h => ⟨fun hc => Out.local hg a rs (h.1 hc), fun hc => Out.local hg b rs (h.2 hc)⟩
  | .con c a, rs, h => ⟨h.1, Out.local hg a rs h.2⟩
  | .ex p f, rs, ⟨x, hx, h⟩ => ⟨x, hx, Out.local hg (f x) rs h⟩
  | .all p f, rs, h => h.elim
end
structure Sim (w₀ : World) (H₀ : Hp) (φ₀ : Phi) (N : Nat) (e : Env) (g : Hp) (φ : Phi) (a : Act) (w : World) : Prop where
  env : ∀ t x, e t = some x → RepT w.heap g φ x (a.eval (.tmp t))
  sz : a.tmps.size = N
  dfr : a.defers = []
  ok : HeapOK w.heap g φ
  turn : Turn w₀.heap H₀ φ₀ w.heap g φ
  os : w.os = w₀.os
  tape : w.tape = w₀.tape
  output : w.output = w₀.output
  size : w₀.heap.size ≤ w.heap.size
section
variable {P : Program} {w₀ : World} {H₀ : Hp} {φ₀ : Phi} {N : Nat} {e : Env} {g g' : Hp} {φ φ' : Phi} {a : Act} {w w' : World} {K : Act → World → Prop} {Q : Exit → Act → World → Prop} {ε : Eff}
theorem eval_put {d t : Nat} {u : Value} (hd : d < a.tmps.size) : (a.put (some d) u).eval (.tmp t) = if d = t then u else a.eval (.tmp t) := by
  simp only [Act.put, Act.eval]
  by_cases h : d = t
  · subst h; simp [hd]
  · simp [h, Array.getElem?_setIfInBounds_ne h]
theorem Sim.next (s : Sim w₀ H₀ φ₀ N e g φ a w) (t : Turn w.heap g φ w'.heap g' φ') (ok' : HeapOK w'.heap g' φ') (hos : w'.os = w.os) (htape : w'.tape = w.tape) (hout : w'.output = w.output) (hsize : w.heap.size ≤ w'.heap.size)
    {d : Option Tmp} {v : T} {u : Value} (hd : ∀ x, d = some x → x < N) (hv : d ≠ none → RepT w'.heap g' φ' v u) : Sim w₀ H₀ φ₀ N (putE d v e) g' φ' (a.put d u) w' := by
  refine ⟨fun i x hx => ?_, ?_, ?_, ok', s.turn.trans t, hos.trans s.os, htape.trans s.tape, hout.trans s.output, Nat.le_trans s.size hsize⟩
  · cases d with
    | none => exact (s.env i x hx).mono fun _ _ r => r.turn t
    | some d =>
      rw [eval_put (by rw [s.sz]; exact hd d rfl)]
      by_cases hdi : d = i
      · subst hdi
        simp only [putE, Nat.beq_refl, cond_true, Option.some.injEq] at hx
        subst hx
        simpa using hv (by simp)
      · rw [putE_ne (by simpa using hdi)] at hx
        rw [if_neg hdi]
        exact (s.env i x hx).mono fun _ _ r => r.turn t
  · cases d with
    | none => exact s.sz
    | some d => simpa [Act.put] using s.sz
  · cases d <;> exact s.dfr
def Does (P : Program) (w : World) (g : Hp) (φ : Phi) (s : Sem Next) (ε : Eff) : Prop := ∃ n w' φ', s.run P w = .ok n w' ∧ (n = .skip ∨ ∃ u, n = .value u ∧ RepT w'.heap (putH ε.upd g) φ' ε.val u) ∧ (n = .skip → ε.val = .bot) ∧
  Turn w.heap g φ w'.heap (putH ε.upd g) φ' ∧ HeapOK w'.heap (putH ε.upd g) φ' ∧ w'.os = w.os ∧ w'.tape = w.tape ∧ w'.output = w.output ∧ w.heap.size ≤ w'.heap.size
def DoesO (P : Program) (w : World) (g : Hp) (φ : Phi) (s : Sem Next) (rs : List Nat) (o : Out) : Prop := ∀ k, o.K true g rs k → ∃ ε, k ε ∧ Does P w g φ s ε
theorem putH_one (n : Nat) (o : Option Ob) (g : Hp) : putH [(n, o)] g = put1 g n o := by
  funext m
  by_cases h : m = n
  · subst h; simp [putH, get, put1]
  · simp only [putH, put1, h, if_false]
    rw [get_cons_ne _ _ (Ne.symm h)]; rfl
theorem putH_cons (n : Nat) (o : Option Ob) (u : List (Nat × Option Ob)) (g : Hp) : putH ((n, o) :: u) g = put1 (putH u g) n o := by
  funext m
  by_cases h : m = n
  · subst h; simp [putH, get, put1]
  · simp only [putH, put1, h, if_false]
    rw [get_cons_ne _ _ (Ne.symm h)]
theorem Does.value {s : Sem Next} {v : T} {u : Value} {rd : List Nat} (ok : HeapOK w.heap g φ) (hrun : s.run P w = .ok (.value u) w) (hv : RepT w.heap g φ v u) : Does P w g φ s ⟨v, rd, []⟩ :=
  ⟨_, w, φ, hrun, .inr ⟨u, rfl, hv⟩, fun h => (by cases h), Turn.refl _ _ _, ok, rfl, rfl, rfl, Nat.le_refl _⟩
theorem Does.made {s : Sem Next} {v : T} {u : Value} {rd : List Nat} {us : List (Nat × Option Ob)} {w' : World} {φ' : Phi} (hrun : s.run P w = .ok (.value u) w') (ok : HeapOK w'.heap (putH us g) φ') (t : Turn w.heap g φ w'.heap (putH us g) φ')
    (hv : RepT w'.heap (putH us g) φ' v u) (h1 : w'.os = w.os) (h2 : w'.tape = w.tape) (h3 : w'.output = w.output) (h4 : w.heap.size ≤ w'.heap.size) : Does P w g φ s ⟨v, rd, us⟩ :=
  ⟨_, w', φ', hrun, .inr ⟨u, rfl, hv⟩, fun h => (by cases h), t, ok, h1, h2, h3, h4⟩
theorem Does.skip {s : Sem Next} {rd : List Nat} {us : List (Nat × Option Ob)} {w' : World} {φ' : Phi} (hrun : s.run P w = .ok .skip w') (ok : HeapOK w'.heap (putH us g) φ') (t : Turn w.heap g φ w'.heap (putH us g) φ')
    (h1 : w'.os = w.os) (h2 : w'.tape = w.tape) (h3 : w'.output = w.output) (h4 : w.heap.size ≤ w'.heap.size) : Does P w g φ s ⟨.bot, rd, us⟩ :=
  ⟨_, w', φ', hrun, .inl rfl, fun _ => rfl, t, ok, h1, h2, h3, h4⟩
theorem wp_ok {o : Oper} {v : Value} {w' : World} (hrun : (execOp a.eval o).run P w = .ok (.value v) w') (h : K (a.put o.dst v) w') : o.wp P a w K Q := by
  unfold Oper.wp
  rw [hrun]; exact h
theorem wp_skipped {o : Oper} {w' : World} (hrun : (execOp a.eval o).run P w = .ok .skip w') (h : K (a.put o.dst undef) w') : o.wp P a w K Q := by
  unfold Oper.wp
  rw [hrun]; exact h
def SimS (w₀ : World) (H₀ : Hp) (φ₀ : Phi) (N : Nat) (e : Env) (g : Hp) (a : Act) (w : World) : Prop := ∃ φ, Sim w₀ H₀ φ₀ N e g φ a w
theorem Does.wp {o : Oper} (s : Sim w₀ H₀ φ₀ N e g φ a w) (hd : ∀ x, o.dst = some x → x < N) (h : Does P w g φ (execOp a.eval o) ε)
    (hK : ∀ a' w', SimS w₀ H₀ φ₀ N (putE o.dst ε.val e) (putH ε.upd g) a' w' → K a' w') : o.wp P a w K Q := by
  obtain ⟨n, w', φ', hrun, hn, hb, ht, ok, h1, h2, h3, h4⟩ := h
  rcases hn with rfl | ⟨u, rfl, hu⟩
  · refine wp_skipped hrun (hK _ _ ⟨φ', s.next ht ok h1 h2 h3 h4 hd fun _ => ?_⟩)
    rw [hb rfl]; trivial
  · exact wp_ok hrun (hK _ _ ⟨φ', s.next ht ok h1 h2 h3 h4 hd fun _ => hu⟩)
end
inductive Lay where
  | w (d : TypeDesc) (z : A) (bt : Nat)
  | st (sz : Nat) (z : List A) (fs : List (Nat × Nat × Bool)) (bt : Nat)
def _root_.Go.TypeDesc.aggD : TypeDesc → Bool
  | .struct _ | .array _ _ => true
  | _ => false
def Lay.size : Lay → Nat
  | .w _ _ _ => 1
  | .st sz _ _ _ => sz
def Lay.zero : Lay → List A
  | .w _ z _ => [z]
  | .st _ z _ _ => z
def Lay.bt : Lay → Nat
  | .w _ _ b => b
  | .st _ _ _ b => b
abbrev Tab := Nat → Option Lay
def constA : Value → A
  | .slice none 0 0 => .nl
  | x => .f (.v x)
def constT : Value → T
  | .agg cs => .val true (cs.toList.map constA)
  | .tuple _ => .bot
  | x => .val false [constA x]
structure TabOK (P : Program) (tb : Tab) : Prop where
  w : ∀ i d z bt, tb i = some (.w d z bt) → P.underlying i = some d ∧ d.aggD = false ∧ ∃ inf zv, P.info? i = some inf ∧ inf.size = 1 ∧ inf.zero = some zv ∧ zv.oneCell' = true ∧ z = constA zv ∧ inf.bytes = bt
  st : ∀ i sz z fs bt, tb i = some (.st sz z fs bt) → ∃ inf fields zv, P.underlying i = some (.struct fields) ∧ P.info? i = some inf ∧ inf.size = sz ∧ inf.zero = some (.agg zv) ∧ z = zv.toList.map constA ∧
    zv.toList.all (·.oneCell') = true ∧ zv.size = sz ∧ inf.bytes = bt ∧ fs.length = fields.size ∧ ∀ (f : Nat) (x : Nat × Nat × Bool), fs[f]? = some x → ∃ fd inf', fields[f]? = some fd ∧ fd.offset = x.1 ∧ P.info? fd.type = some inf' ∧ inf'.size = x.2.1 ∧ x.2.1 ≠ 0 ∧ x.1 + x.2.1 ≤ sz ∧ ∃ d', P.underlying fd.type = some d' ∧ d'.aggD = x.2.2
def evT (e : Env) : Operand → T
  | .tmp t => (e t).getD .bot
  | .const v => constT v
  | .global _ => .bot
  | .func f => .val false [.f (.cl f [])]
section
variable {w₀ : World} {H₀ : Hp} {φ₀ : Phi} {N : Nat} {e : Env} {g : Hp} {φ : Phi} {a : Act} {w : World} {h : Array Obj} {H : Hp}
theorem constA_ok {v : Value} (hv : v.oneCell' = true) : RepE h H φ (constA v) v := by
  unfold constA
  split
  · exact .nl _
  · exact .f _ _ (.v v hv)
theorem constC_ok : ∀ {cs : List Value}, cs.all (·.oneCell') = true → RepC h H φ (cs.map constA) cs
  | [], _ => trivial
  | v :: cs, hc => by
    simp only [List.all_cons, Bool.and_eq_true] at hc
    exact ⟨constA_ok hc.1, constC_ok hc.2⟩
def constOK : Value → Bool
  | .agg cs => cs.toList.all (·.oneCell')
  | _ => true
def operOK : Operand → Bool
  | .const v => constOK v
  | _ => true
theorem ev_ok (s : Sim w₀ H₀ φ₀ N e g φ a w) {x : Operand} (hx : operOK x = true) : RepT w.heap g φ (evT e x) (a.eval x) := by
  cases x with
  | tmp t =>
    simp only [evT]
    cases ht : e t with
    | none => trivial
    | some v => exact s.env t v ht
  | const v =>
    simp only [evT, Act.eval]
    unfold constT
    split
    · rename_i cs
      exact ⟨cs, rfl, constC_ok (by simpa [operOK, constOK] using hx)⟩
    · trivial
    · rename_i h1 h2
      exact ⟨_, rfl, constA_ok (by cases v <;> first | rfl | exact absurd rfl (h1 _) | exact absurd rfl (h2 _))⟩
  | global n => trivial
  | func f => exact ⟨_, rfl, .f _ _ (.cl f [] #[] rfl (fun i x hi => by simp at hi) fun i x j y hi => by simp at hi)⟩
end
end Go.Proofs.YtecnmodeggnjoaaGreat.Ac
