/- Several of our texts, one behind the other, without what this claim does not need: AcY. -/
import Derived.Test.YtecnmodeggnjoaaGreatZ1cb6701d
set_option linter.unusedVariables false
set_option linter.unusedSimpArgs false
namespace Go.Proofs.YtecnmodeggnjoaaGreat.Ac
open Go.RowKit
def fdOf (P : Program) (fd : Field) : Option (Nat × Nat × Bool) := match P.info? fd.type, P.underlying fd.type with
  | some inf, some d => some (fd.offset, inf.size, d.aggD)
  | _, _ => none
def EntryOK (P : Program) (i : Nat) : Lay → Prop
  | .w d z bt => P.underlying i = some d ∧ d.aggD = false ∧ (P.info? i).map (·.size) = some 1 ∧ (P.info? i).map (·.bytes) = some bt ∧ ∃ zv, (P.info? i).bind (·.zero) = some zv ∧ zv.oneCell' = true ∧ z = constA zv
  | .st sz z fs bt => ∃ fields zv, P.underlying i = some (.struct fields) ∧ (P.info? i).map (·.size) = some sz ∧ (P.info? i).map (·.bytes) = some bt ∧ (P.info? i).bind (·.zero) = some (.agg zv) ∧ z = zv.toList.map constA ∧ zv.toList.all (·.oneCell') = true ∧ zv.size = sz ∧
    fields.toList.map (fdOf P) = fs.map some ∧ fs.all (fun x => x.2.1 != 0 && Nat.ble (x.1 + x.2.1) sz) = true
def EntriesOK (P : Program) : List (Nat × Lay) → Prop
  | [] => True
  | x :: l => EntryOK P x.1 x.2 ∧ EntriesOK P l
theorem entry_at {P : Program} {l : List (Nat × Lay)} (h : EntriesOK P l) {i : Nat} {x : Lay} (hx : get l i = some x) : EntryOK P i x := by
  induction l with
  | nil => cases hx
  | cons y l ih =>
    obtain ⟨m, v⟩ := y
    simp only [get] at hx
    cases hb : Nat.beq m i
    · rw [hb] at hx; exact ih h.2 hx
    · rw [hb] at hx
      cases hx
      rw [← Nat.eq_of_beq_eq_true hb]; exact h.1
theorem tabOK_of {P : Program} {l : List (Nat × Lay)} (h : EntriesOK P l) : TabOK P (get l) := by
  refine ⟨fun i d z bt hx => ?_, fun i sz z fs bt hx => ?_⟩
  · obtain ⟨h1, h2, h3, h3', zv, h4, h5, h6⟩ := entry_at h hx
    cases hi : P.info? i with
    | none => rw [hi] at h3; cases h3
    | some inf =>
      rw [hi] at h3 h3' h4
      exact ⟨h1, h2, inf, zv, rfl, by simpa using h3, by simpa using h4, h5, h6, by simpa using h3'⟩
  · obtain ⟨fields, zv, h1, h2, h2', h3, h4, h5, h6, h7, h8⟩ := entry_at h hx
    cases hi : P.info? i with
    | none => rw [hi] at h2; cases h2
    | some inf =>
      rw [hi] at h2 h2' h3
      refine ⟨inf, fields, zv, h1, rfl, by simpa using h2, by simpa using h3, h4, h5, h6, by simpa using h2', by have := congrArg List.length h7; simpa using this.symm, fun f x hf => ?_⟩
      have hm : (fields.toList.map (fdOf P))[f]? = some (some x) := by rw [h7, List.getElem?_map, hf]; rfl
      rw [List.getElem?_map] at hm
      cases hfd : fields.toList[f]? with
      | none => rw [hfd] at hm; cases hm
      | some fd =>
        rw [hfd] at hm
        simp only [Option.map_some, Option.some.injEq, fdOf] at hm
        split at hm
        · rename_i inf' d' g1 g2
          cases hm
          have h0 := List.all_eq_true.1 h8 _ (List.mem_of_getElem? hf)
          simp only [Bool.and_eq_true] at h0
          exact ⟨fd, inf', by simpa using hfd, rfl, g1, rfl, by simpa using h0.1, Nat.le_of_ble_eq_true h0.2, d', g2, rfl⟩
        · cases hm
def entry : Nat → List (Bool × List A) → Es
  | _, [] => []
  | i, x :: xs => (i, .val x.1 x.2) :: entry (i + 1) xs
def retK (tb : Tab) (e : Env) (g : Hp) : List ResultVar → (List (Bool × List A) → Prop) → Prop
  | [], k => k []
  | .tmp t :: vs, k => match e t with
    | some (.val ag cs) => retK tb e g vs fun xs => k ((ag, cs) :: xs)
    | _ => False
  | .cell p t :: vs, k => match e p, tb t with
    | some (.val false [.pt n 0 0]), some l => match g n with
      | some (some ⟨fl, _, [cs]⟩) => cond (Nat.beq fl 3 && Nat.beq cs.length l.size && noOw.go cs) (match mkT l cs with
        | .val ag cs => retK tb e g vs fun xs => k ((ag, cs) :: xs)
        | _ => False) False
      | _ => False
    | _, _ => False
def finB (fp : List Nat) (r : List (Nat × Nat)) (res : List (Bool × List A)) (H1 : Hs) : Bool := inP H1 res && H1.all (fun x => inO H1 x.2) && nodupB ((liveH H1).map fun x => rn r x.1) && fp.all (fun n => hasN H1 n && Nat.beq (rn r n) n)
def finK (tb : Tab) (fp : List Nat) (vs : List ResultVar) (H1 : Hs) (res : List (Bool × List A)) (x : Exit) (es : Es) (hs : Hs) : Prop := match x with
  | .normal | .ret => ∃ gl r, ghK gl hs fun hs1 => retK tb (get es) (get hs1) vs fun xs => finB fp r res H1 = true ∧ tlVs true r (get hs1) H1 xs res ∧ subH true r (get hs1) H1 H1
  | _ => False
section
variable {P : Program} {tb : Tab} {h : Array Obj} {g : Hp} {φ : Phi} {e : Env} {a : Act} {w : World}
variable {w₀ : World} {H₀ : Hp} {φ₀ : Phi} {N : Nat}
def retM (tmps : Array Value) : ResultVar → Sem Value
  | .tmp t => pure (tmps.getD t undef)
  | .cell p t => do loadVar t (← asAddr (tmps.getD p undef))
theorem results_eq (fn : Func) (tmps : Array Value) : results fn tmps = (do let vs ← fn.results.mapM (retM tmps); pure (if h : vs.size = 1 then vs[0] else .tuple vs)) := by
  unfold results
  refine congrArg (fun F : ResultVar → Sem Value => (do let vs ← fn.results.mapM F; pure (if h : vs.size = 1 then vs[0] else .tuple vs))) ?_
  funext x; cases x <;> rfl
theorem noOw_at : ∀ {cs : List A}, noOw.go cs = true → ∀ x ∈ cs, isOw x = false
  | [], _, x, hx => by cases hx
  | y :: cs, h, x, hx => by
    rcases List.mem_cons.1 hx with rfl | hx
    · cases x <;> first | rfl | cases h
    · have : noOw.go cs = true := by cases y <;> first | exact h | cases h
      exact noOw_at this x hx
theorem ret_ok (hT : TabOK P tb) (s : Sim w₀ H₀ φ₀ N e g φ a w) : ∀ (vs : List ResultVar) (k : List (Bool × List A) → Prop), retK tb e g vs k → ∃ xs, k xs ∧ ∃ us : List Value, (vs.mapM (m := Sem) (retM a.tmps)).run P w = .ok us w ∧ RepVs w.heap g φ xs us
  | [], k, h => ⟨[], h, [], by simp, trivial⟩
  | .tmp t :: vs, k, h => by
    simp only [retK] at h
    split at h
    · rename_i ag cs he
      obtain ⟨xs, hk, us, h1, h2⟩ := ret_ok hT s vs _ h
      exact ⟨_, hk, a.tmps.getD t undef :: us, (by simp only [List.mapM_cons, retM, Sem.run_bind, Sem.run_pure, Result.andThen_ok]; rw [h1]; rfl), s.env t _ he, h2⟩
    · exact h.elim
  | .cell p t :: vs, k, h => by
    simp only [retK] at h
    split at h
    · rename_i n l he hl
      split at h
      · rename_i fl wd cs hn
        obtain ⟨h0, hA⟩ := cond_elim' h
        clear h
        simp only [Bool.and_eq_true] at h0
        have hlen := Nat.eq_of_beq_eq_true h0.1.2
        have hno := noOw_at h0.2
        have hfl := Nat.eq_of_beq_eq_true h0.1.1
        subst hfl
        obtain ⟨hd, hp, hu, c, ty, hb, hrow, _, hcell⟩ := ref_row s.ok hn (by decide) (rep_one (s.env p _ he))
        have hin := (hrow.in (i := 0) (e := cs) rfl)
        simp only [Nat.zero_mul, Nat.add_zero] at hu hin hcell
        have hrep : RepC w.heap g φ cs ((List.range cs.length).map fun j => c.getD (hd.off + j) undef) := RepC_of _ fun j x hx => by
          have := (hcell 0 cs j x rfl hx).toE (hno x (List.mem_of_getElem? hx))
          simpa using this
        obtain ⟨u, hrun, hr⟩ := load_val (P := P) (w := w) hT hl hrep (b := hd.b) (off := hd.off) (fun j v hv => by
          obtain ⟨hj, rfl⟩ := range_get hv
          exact getD_cell hb (by omega)) hlen
        split at hA
        · rename_i ag cs' hmk
          rw [hmk] at hr
          obtain ⟨xs, hk, us, h1, h2⟩ := ret_ok hT s vs _ hA
          simp only [Act.eval] at hu
          have hs : (asAddr (a.tmps.getD p undef)).run P w = .ok ⟨hd.b, hd.off, none⟩ w := by rw [hu]; rfl
          exact ⟨_, hk, u :: us, (by simp only [List.mapM_cons, retM, Sem.run_bind, Sem.run_pure, Result.andThen_ok, hs, hrun]; rw [h1]; rfl), hr, h2⟩
        · exact hA.elim
      · exact h.elim
    · exact h.elim
theorem RepVs.len : ∀ {xs : List (Bool × List A)} {us : List Value}, RepVs h g φ xs us → us.length = xs.length
  | [], [], _ => rfl
  | _ :: _, _ :: _, r => congrArg (· + 1) (RepVs.len r.2)
  | [], _ :: _, r => r.elim
  | _ :: _, [], r => r.elim
theorem entry_ok : ∀ (xs : List (Bool × List A)) (us : List Value) (i : Nat), RepVs h g φ xs us → ∀ t x, get (entry i xs) t = some x → i ≤ t ∧ RepT h g φ x (us.getD (t - i) undef)
  | [], us, i, _, t, x, hx => by cases hx
  | y :: xs, u :: us, i, hr, t, x, hx => by
    simp only [entry, get] at hx
    cases hb : Nat.beq i t
    · rw [hb] at hx
      obtain ⟨h1, h2⟩ := entry_ok xs us (i + 1) hr.2 t x hx
      refine ⟨by omega, ?_⟩
      rw [show t - i = (t - (i + 1)) + 1 by omega]
      exact h2
    · rw [hb] at hx
      cases hx
      have := Nat.eq_of_beq_eq_true hb
      subst this
      refine ⟨Nat.le_refl _, ?_⟩
      rw [Nat.sub_self]
      exact hr.1
  | _ :: _, [], _, hr, _, _, _ => hr.elim
def clHs : Hs → Prop
  | [] => True
  | (_, some ob) :: l => cond (Nat.beq ob.fl 3) True (clR ob.es) ∧ clHs l
  | (_, none) :: l => clHs l
theorem clHs_of : ∀ {l : Hs}, clHs l → ClH l
  | [], _, n, ob, hm, _ => by cases hm
  | (m, some o) :: l, h, n, ob, hm, hf => by
    rcases List.mem_cons.1 hm with hm | hm
    · cases hm
      have := h.1; rw [hf] at this; exact this
    · exact clHs_of h.2 n ob hm hf
  | (m, none) :: l, h, n, ob, hm, hf => by
    rcases List.mem_cons.1 hm with hm | hm
    · cases hm
    · exact clHs_of (l := l) h n ob hm hf
theorem gcalls_of (hT : TabOK P tb) (hm : P.follows .mixedOrders = true) {f : FuncId} {fn : Func} {c : Code} {H0 H1 : Hs} {args res : List (Bool × List A)} (hf : P.funcs[f]? = some fn) (hb : fn.body = some c) (hN : fn.ntmps = N) (hname : (fn.name == "runtime.NumGoroutine") = false)
    (hlen : args.length ≤ N) {vs : List ResultVar} (hres : fn.results.toList = vs) (hB : (inP H1 res && H1.all (fun x => inO H1 x.2) && H0.all (fun x => hasN H1 x.1)) = true) (hcl : clHs H1)
    (h : awp P tb N (H0.map (·.1)) c (finK tb (H0.map (·.1)) vs H1 res) (entry 0 args) H0) : GCalls P f H0 args H1 res := by
  simp only [Bool.and_eq_true] at hB
  refine ⟨clHs_of hcl, fun n hn => ?_, hB.1, fun φ w us hok hr => .inl ⟨⟨fn, hf, hname, by rw [hb]; rfl⟩, calls_of_wp hf hb ?_⟩⟩
  · unfold hasN at hn
    split at hn
    · rename_i x hx; exact List.all_eq_true.1 hB.2 _ (get_mem hx)
    · cases hn
  have hul := hr.len
  have s : SimS w (get H0) φ N (get (entry 0 args)) (get H0) { tmps := us.toArray ++ Array.replicate (fn.ntmps - us.toArray.size) undef, defers := [] } w := by
    refine ⟨φ, fun t x hx => ?_, ?_, rfl, hok, Turn.refl _ _ _, rfl, rfl, rfl, Nat.le_refl _⟩
    · obtain ⟨_, q⟩ := entry_ok args us 0 hr t x hx
      have : (us.toArray ++ Array.replicate (fn.ntmps - us.toArray.size) undef).getD t undef = us.getD t undef := by
        by_cases ht : t < us.length
        · simp [ht, Array.getElem?_append]
        · simp only [Array.getD_eq_getD_getElem?, Array.getElem?_append, List.size_toArray, ht, if_false, Array.getElem?_replicate, List.getD_eq_getElem?_getD, List.getElem?_eq_none (Nat.le_of_not_lt ht)]
          split <;> rfl
      rw [Nat.sub_zero] at q
      simp only [Act.eval, this]
      exact q
    · simp; omega
  have hfp : ∀ n x, get H0 n = some x → n ∈ H0.map (·.1) := fun n x hx => List.mem_map.2 ⟨_, get_mem hx, rfl⟩
  refine wp_mono (awp_sound hT hm hfp c _ _ _ _ w h s) ?_
  rintro e a w' ⟨es, hs, hq, s'⟩
  have fin : finK tb (H0.map (·.1)) vs H1 res .ret es hs → a.defers = [] ∧ ∃ v, (results fn a.tmps).run P w' = .ok v w' ∧ ∃ v' φ', Ending.returned v = .returned v' ∧ RepR w'.heap (get H1) φ' res v' ∧ HeapOK w'.heap (get H1) φ' ∧ Turn w.heap (get H0) φ w'.heap (get H1) φ' ∧
      w'.os = w.os ∧ w'.tape = w.tape ∧ w'.output = w.output ∧ w.heap.size ≤ w'.heap.size := by
    rintro ⟨gl, r, hgh⟩
    obtain ⟨hs1, hret, φ1, s1⟩ := gh_ok hgh s'
    refine ⟨s1.dfr, ?_⟩
    obtain ⟨xs, ⟨k1, k2, k3⟩, us', h1, h2⟩ := ret_ok hT s1 vs _ hret
    simp only [finB, Bool.and_eq_true] at k1
    obtain ⟨⟨⟨b1, b2⟩, b3⟩, b4⟩ := k1
    have o : OutOK true r H1 (get hs1) φ1 φ1.out := ⟨fun b hb => .inl hb, fun n ob' q hd _ h => s1.ok.apart _ hd h, fun _ X hd h => s1.ok.apart X hd h⟩
    obtain ⟨φ2, s2⟩ := SimS.tell (fp := H0.map (·.1)) (es' := []) (r := r) (hs' := H1) (by
      refine ⟨?_, trivial, k3⟩
      simp only [subB, Bool.and_eq_true]
      exact ⟨⟨⟨rfl, b2⟩, b3⟩, b4⟩) hfp ⟨φ1, s1⟩
    have hrep := repVs_tl k3 o s1.ok k2 b1 h2
    have hheap := heap_tl k3 o s1.ok b2 b3
    have hlen' := h2.len
    have hrun : (fn.results.mapM (m := Sem) (retM a.tmps)).run P w' = .ok us'.toArray w' := by
      rw [← Array.toArray_toList (xs := fn.results), hres, List.mapM_toArray]
      simp only [Functor.map, Sem.run_map, Sem.run_bind', h1]
      rfl
    -- the state told anew, once more, with the places that the results have
    have tt : Turn w.heap (get H0) φ w'.heap (get H1) (ph r H1 (get hs1) φ1 φ1.out) := by
      have fpk : ∀ n x, get H0 n = some x → hasN H1 n = true ∧ rn r n = n := fun n x hx => by
        have := List.all_eq_true.1 b4 n (hfp n x hx)
        simp only [Bool.and_eq_true] at this
        exact ⟨this.1, Nat.eq_of_beq_eq_true this.2⟩
      refine ⟨s1.turn.out, fun b hb hO => ?_, fun n hn => ?_, fun n ob hn => ?_⟩
      · obtain ⟨h1, h2⟩ := s1.turn.blk0 b hb hO
        refine ⟨?_, h2⟩
        rintro ⟨X, hd, hX, rfl⟩
        exact h1 ⟨_, hd, (ph_some hX).1, rfl⟩
      · have hg := s1.turn.dead n hn
        obtain ⟨k1, k2⟩ := fpk n _ hn
        rcases ref_told k3 k1 with h0 | ⟨ob', ob, h1, h2, _⟩ | ⟨ob', h1, h2, _⟩
        · exact h0
        · rw [k2, hg] at h2; cases h2
        · rw [k2, hg] at h2; cases h2
      · obtain ⟨k1, k2⟩ := fpk n _ hn
        rcases ref_told k3 k1 with h0 | ⟨ob', ob2, h1, h2, h3, h4, h5, _⟩ | ⟨ob', h1, h2, _⟩
        · exact .inl h0
        · rcases s1.turn.live n ob hn with hd | ⟨ob3, g1, g2, g3, g4⟩
          · rw [k2, hd] at h2; cases h2
          · rw [k2, g1] at h2
            cases h2
            refine .inr ⟨ob', h1, ?_, h3.symm.trans g3, by rw [← tlR_len h5]; exact g4⟩
            have := ph_live (φ := φ1) (out := φ1.out) h1 (show get hs1 (rn r n) = some (some ob2) by rw [k2]; exact g1) []
            rw [this, k2]; exact g2
        · rcases s1.turn.live n ob hn with hd | ⟨ob3, g1, _⟩
          · rw [k2, hd] at h2; cases h2
          · rw [k2, g1] at h2; cases h2
    have hle := hrep.len
    rw [results_eq, Sem.run_bind, hrun]
    simp only [Result.andThen_ok, Sem.run_pure]
    refine ⟨_, rfl, _, _, rfl, ?_, hheap, tt, s1.os, s1.tape, s1.output, s1.size⟩
    match res, us', hrep with
    | [], [], _ => exact ⟨#[], rfl, trivial⟩
    | [x], [u], hrep => exact hrep.1
    | x :: y :: xs, u :: v :: us, hrep => exact ⟨_, by simp, hrep⟩
  cases e with
  | normal => exact fin hq
  | ret => exact fin hq
  | _ => exact hq.elim
end
end Go.Proofs.YtecnmodeggnjoaaGreat.Ac
