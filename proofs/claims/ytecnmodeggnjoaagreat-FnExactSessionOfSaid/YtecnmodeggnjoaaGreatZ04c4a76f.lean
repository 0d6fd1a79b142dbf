/- Several of our texts, one behind the other, without what this claim does not need: Sc, Sd, Se, Sf. -/
import Derived.Test.YtecnmodeggnjoaaGreatZ2e4902f1
import Derived.Test.YtecnmodeggnjoaaGreatZaf835343
import Derived.Test.YtecnmodeggnjoaaGreatZdecfb37c
set_option linter.unusedVariables false
set_option linter.unusedSimpArgs false
set_option maxRecDepth 20000
set_option maxHeartbeats 20000000
namespace Go.Proofs.YtecnmodeggnjoaaGreat.Ac
open Go.RowKit
def leafW : ByteArray := ⟨#[116, 101, 120, 116]⟩
def TermsP (rules : Int) (l : List Tm) : Prop := l.length ≤ 4 ∧ ∀ t ∈ l, TermP rules t
def RuleP (rules : Int) (r : Ru) : Prop := WordP r.name ∧ r.name ≠ leafW ∧ (r.leaf = true → r.terms.length = 0) ∧ TermsP rules r.terms
def TmB (t : Tm) : Prop := t.kinds.length < 2 ^ 62
def RuB (r : Ru) : Prop := r.name.size < 2 ^ 62 ∧ r.terms.length < 2 ^ 62 ∧ ∀ t ∈ r.terms, TmB t
theorem areTerms1_ok (t : Tm) (rules : Int) (hl : TmB t) : FC Tryz.prog 375 [(true, tmL t), (false, [.pv [iL rules]])] [] [(false, [.f (bL (!dB (TermP rules t)))])] := by
  have h := isTerm_ok t rules hl
  generalize dB (TermP rules t) = b at h
  refine gr Tryz.func375 Tryz.ntmps375 trivial ?_
  cases b with
  | true =>
    refine ⟨([], _), h, nx ?_⟩
    exact ⟨[], [], don⟩
  | false =>
    refine ⟨([], _), h, nx ?_⟩
    exact ⟨[], [], don⟩
theorem areTerms_ok (l : List Tm) (rules : Int) (hl : l.length < 2 ^ 62) (hk : ∀ t ∈ l, TmB t) : FC Tryz.prog 330 [(false, [tms l]), (false, [iL rules])] [] [(false, [.f (bL (dB (TermsP rules l)))])] := by
  have hc := cofTerm_ok l 375 (.pv [iL rules]) (fun t => !dB (TermP rules t)) hl fun t ht => areTerms1_ok t rules (hk t ht)
  refine gr Tryz.func330 Tryz.ntmps330 trivial ?_
  refine ⟨fun h => nx ?_, fun h => nx ?_⟩
  cases hb : l.any fun t => !dB (TermP rules t) with
  | true =>
    rw [hb] at hc
    refine ⟨⟨true, [], _, _, _, _⟩, hc, cd ?_⟩
    have q : dB (TermsP rules l) = false := dB_no fun w => by
      obtain ⟨t, ht, h1⟩ := List.any_eq_true.1 hb
      rw [dB_yes (w.2 t ht)] at h1; cases h1
    exact ⟨[], [], don⟩
  | false =>
    rw [hb] at hc
    refine ⟨⟨true, [], _, _, _, _⟩, hc, cd ?_⟩
    have q : dB (TermsP rules l) = true := dB_yes ⟨by rw [List.length_map] at h; omega, fun t ht => by
      have := List.any_eq_false.1 hb t ht
      exact dB_iff.1 (by simpa using this)⟩
    exact ⟨[], [], don⟩
  have q : dB (TermsP rules l) = false := dB_no fun w => by have := w.1; rw [List.length_map] at h; omega
  exact ⟨[], [], don⟩
theorem ruleOK_ok (r : Ru) (rules : Int) (hr : RuB r) : FC Tryz.prog 268 [(true, ruL r), (false, [iL rules])] [] [(false, [.f (bL (dB ((1 ≤ rules ∧ rules ≤ 8) ∧ RuleP rules r)))])] := by
  have hn := nameOK_ok r.name hr.1
  have ht := areTerms_ok r.terms rules hr.2.1 hr.2.2
  have hlen : (r.terms.map tmL).length = r.terms.length := List.length_map ..
  refine gr Tryz.func268 Tryz.ntmps268 trivial ?_
  by_cases k1 : 1 ≤ rules ∧ rules ≤ 8
  refine ⟨([], _), within_t k1, nx ?_⟩
  by_cases k2 : WordP r.name
  refine ⟨([], _), hn.y k2, nx ?_⟩
  by_cases k3 : r.name = leafW
  refine ⟨fun h => absurd h (fun h => h k3), fun h => nx ?_⟩
  have q : dB ((1 ≤ rules ∧ rules ≤ 8) ∧ RuleP rules r) = false := dB_no fun w => w.2.2.1 k3
  exact ⟨[], [], don⟩
  refine ⟨fun h => nx ?_, fun h => absurd h (fun h => h k3)⟩
  by_cases k6 : TermsP rules r.terms
  cases k4 : r.leaf with
  | true =>
    refine nx ?_
    by_cases k5 : r.terms.length = 0
    refine ⟨fun h => nx ?_, fun h => absurd h (fun h => h (by omega))⟩
    refine ⟨([], _), ht.y k6, nx ?_⟩
    have q : dB ((1 ≤ rules ∧ rules ≤ 8) ∧ RuleP rules r) = true := dB_yes ⟨k1, k2, k3, fun _ => k5, k6⟩
    exact ⟨[], [], don⟩
    refine ⟨fun h => absurd h (fun h => k5 (by omega)), fun h => nx ?_⟩
    have q : dB ((1 ≤ rules ∧ rules ≤ 8) ∧ RuleP rules r) = false := dB_no fun w => k5 (w.2.2.2.1 k4)
    exact ⟨[], [], don⟩
  | false =>
    refine nx ?_
    refine ⟨([], _), ht.y k6, nx ?_⟩
    have q : dB ((1 ≤ rules ∧ rules ≤ 8) ∧ RuleP rules r) = true := dB_yes ⟨k1, k2, k3, fun e => absurd (k4.symm.trans e) (by simp), k6⟩
    exact ⟨[], [], don⟩
  have q : dB ((1 ≤ rules ∧ rules ≤ 8) ∧ RuleP rules r) = false := dB_no fun w => k6 w.2.2.2.2
  cases k4 : r.leaf with
  | true =>
    refine nx ?_
    by_cases k5 : r.terms.length = 0
    refine ⟨fun h => nx ?_, fun h => absurd h (fun h => h (by omega))⟩
    refine ⟨([], _), ht.x k6, nx ?_⟩
    exact ⟨[], [], don⟩
    refine ⟨fun h => absurd h (fun h => k5 (by omega)), fun h => nx ?_⟩
    exact ⟨[], [], don⟩
  | false =>
    refine nx ?_
    refine ⟨([], _), ht.x k6, nx ?_⟩
    exact ⟨[], [], don⟩
  refine ⟨([], _), hn.x k2, nx ?_⟩
  have q : dB ((1 ≤ rules ∧ rules ≤ 8) ∧ RuleP rules r) = false := dB_no fun w => k2 w.2.1
  exact ⟨[], [], don⟩
  refine ⟨([], _), within_f k1, nx ?_⟩
  have q : dB ((1 ≤ rules ∧ rules ≤ 8) ∧ RuleP rules r) = false := dB_no fun w => k1 w.1
  exact ⟨[], [], don⟩
end Go.Proofs.YtecnmodeggnjoaaGreat.Ac
set_option linter.unusedVariables false
set_option linter.unusedSimpArgs false
set_option maxRecDepth 20000
set_option maxHeartbeats 20000000
namespace Go.Proofs.YtecnmodeggnjoaaGreat.Ac
open Go.RowKit
theorem l03Rule_ok (r : Ru) (rules : Int) (hr : RuB r) : FC Tryz.prog 264 [(true, ruL r), (false, [iL rules])] [] [(false, [.f (bL (dB (RuleP rules r)))])] := by
  have hn := l00Word_ok r.name hr.1
  have hlen : (r.terms.map tmL).length = r.terms.length := List.length_map ..
  have hsz := hr.2.1
  refine gr Tryz.func264 Tryz.ntmps264 trivial ?_
  by_cases k2 : WordP r.name
  refine ⟨([], _), hn.y k2, nx ?_⟩
  by_cases k3 : r.name = leafW
  refine ⟨fun h => nx ?_, fun h => absurd h (fun h => h k3)⟩
  have q : dB (RuleP rules r) = false := dB_no fun w => w.2.1 k3
  exact ⟨[], [], don⟩
  refine ⟨fun h => absurd h (fun h => k3 h), fun h => nx ?_⟩
  refine ⟨fun h => nx ?_, fun h => nx ?_⟩
  have q : dB (RuleP rules r) = false := dB_no fun w => by have := w.2.2.2.1; omega
  exact ⟨[], [], don⟩
  have k7 := h
  cases k4 : r.leaf with
  | true =>
    refine nx ?_
    refine ⟨fun h => nx ?_, fun h => nx ?_⟩
    have q : dB (RuleP rules r) = false := dB_no fun w => by have := w.2.2.1 k4; omega
    exact ⟨[], [], don⟩
    have k5 : r.terms.length = 0 := by omega
    (refine ⟨fun m es hs => ∃ (i : Nat) (lf : Bool), (m + i = r.terms.length) ∧ (∀ j, j < i → ∀ h : j < r.terms.length, TermP rules r.terms[j]) ∧ es = [(5, .val false [.f (iL i)]), (2, .val false [.pt 48 0 0]), (1, .val false [.f (iL rules)])] ∧ hs = [(48, some ⟨3, 3, [[.f (sL r.name), .f (bL lf), .f (tms r.terms)]]⟩)], ⟨r.terms.length, [], [], _, _, don, 0, true, don, don, rfl, rfl⟩, ?_⟩; rintro m _ _ ⟨i, lf, hRB0, hRB1, rfl, rfl⟩; refine nx ?_)
    refine ⟨fun h => nx ?_, fun h => nx ?_⟩
    omega
    have q : dB (RuleP rules r) = true := dB_yes ⟨k2, k3, fun _ => k5, by omega, fun t ht => by
      rw [List.eq_nil_of_length_eq_zero k5] at ht; cases ht⟩
    exact ⟨[], [], don⟩
  | false =>
    refine nx ?_
    (refine ⟨fun m es hs => ∃ (i : Nat) (lf : Bool), (m + i = r.terms.length) ∧ (∀ j, j < i → ∀ h : j < r.terms.length, TermP rules r.terms[j]) ∧ es = [(5, .val false [.f (iL i)]), (2, .val false [.pt 48 0 0]), (1, .val false [.f (iL rules)])] ∧ hs = [(48, some ⟨3, 3, [[.f (sL r.name), .f (bL lf), .f (tms r.terms)]]⟩)], ⟨r.terms.length, [], [], _, _, don, 0, false, don, don, rfl, rfl⟩, ?_⟩; rintro m _ _ ⟨i, lf, hRB0, hRB1, rfl, rfl⟩; refine nx ?_)
    refine ⟨fun h => nx ?_, fun h => nx ?_⟩
    have hi : i < r.terms.length := by omega
    have hb := l03Term_ok r.terms[i] rules (hr.2.2 _ (List.getElem_mem _))
    refine ⟨(i, tmL r.terms[i]), ⟨rfl, by simp [hi]⟩, nx ?_⟩
    by_cases k : TermP rules r.terms[i]
    refine ⟨([], _), hb.y k, nx ?_⟩
    have q := lt_suc (n := 0) hRB1 fun _ => k
    exact ⟨m - 1, [], [], _, _, by omega, don, (i + 1), lf, don, don, rfl, rfl⟩
    refine ⟨([], _), hb.x k, nx ?_⟩
    have q : dB (RuleP rules r) = false := dB_no fun w => k (w.2.2.2.2 _ (List.getElem_mem _))
    exact ⟨[], [], don⟩
    have q : dB (RuleP rules r) = true := dB_yes ⟨k2, k3, fun e => absurd (k4.symm.trans e) (by simp), by omega, fun t ht => by
      obtain ⟨j, hj, rfl⟩ := List.mem_iff_getElem.1 ht
      exact hRB1 j (by omega) hj⟩
    exact ⟨[], [], don⟩
  refine ⟨([], _), hn.x k2, nx ?_⟩
  have q : dB (RuleP rules r) = false := dB_no fun w => k2 w.1
  exact ⟨[], [], don⟩
def nmQ (nm : ByteArray) (r : Ru) : Bool := decide (r.name = nm)
theorem kindOf1_ok (r : Ru) (nm : ByteArray) : FC Tryz.prog 332 [(true, ruL r), (false, [.pv [sL nm]])] [] [(false, [.f (bL (nmQ nm r))])] := by
  refine gr Tryz.func332 Tryz.ntmps332 trivial ?_
  refine ⟨fun h => nx ?_, fun h => nx ?_⟩
  have q : nmQ nm r = true := decide_eq_true h
  exact ⟨[], [], don⟩
  have q : nmQ nm r = false := decide_eq_false h
  exact ⟨[], [], don⟩
def kindF (l : List Ru) (nm : ByteArray) : Int := ixP (nmQ nm) 0 l + 1
theorem kindOf_ok (l : List Ru) (nm : ByteArray) (hl : l.length < 2 ^ 62) : FC Tryz.prog 269 [(false, [rus l]), (false, [sL nm])] [] [(false, [.f (iL (kindF l nm))])] := by
  have hc := ixfRule_ok l 332 (.pv [sL nm]) (nmQ nm) hl fun r _ => kindOf1_ok r nm
  have hw : IntKind.i64.wrap (ixP (nmQ nm) 0 l + 1) = kindF l nm := by
    unfold kindF
    rcases ixP_at (p := nmQ nm) l 0 with ⟨h1, _⟩ | ⟨j, hj, h1, _⟩ <;> rw [h1]
    · rfl
    · exact wrap_id (by omega)
  refine gr Tryz.func269 Tryz.ntmps269 trivial ?_
  refine ⟨⟨true, [], _, _, _, _⟩, hc, cd ?_⟩
  rw [hw]
  exact ⟨[], [], don⟩
def NamesP (l : List Ru) (i : Nat) (h : i < l.length) : Prop := ∀ j (hj : j < i), l[j].name ≠ l[i].name
def SchemaP (l : List Ru) : Prop := (1 ≤ (l.length : Int) ∧ (l.length : Int) ≤ 8) ∧ ∀ i (h : i < l.length), RuleP l.length l[i] ∧ NamesP l i h
theorem kindF_at (l : List Ru) (i : Nat) (h : i < l.length) : (NamesP l i h ∧ kindF l l[i].name = (i : Int) + 1) ∨ (¬ NamesP l i h ∧ kindF l l[i].name ≠ (i : Int) + 1) := by
  unfold kindF
  rcases ixP_at (p := nmQ l[i].name) l 0 with ⟨_, h2⟩ | ⟨j, hj, h1, h2, h3⟩
  · have := h2 l[i] (List.getElem_mem _)
    simp [nmQ] at this
  · rw [h1]
    have hji : j ≤ i := by
      by_cases g : j ≤ i
      · exact g
      · have := h3 i (by omega)
        simp [nmQ] at this
    by_cases e : j = i
    · subst e
      exact .inl ⟨fun k hk => by simpa [nmQ] using h3 k hk, by omega⟩
    · exact .inr ⟨fun w => w j (by omega) (by simpa [nmQ] using h2), by omega⟩
theorem schemaOK_ok (l : List Ru) (hl : l.length < 2 ^ 62) (hb : ∀ r ∈ l, RuB r) : FC Tryz.prog 191 [(false, [rus l])] [] [(false, [.f (bL (dB (SchemaP l)))])] := by
  have hlen : ((l.map ruL).length : Int) = l.length := by rw [List.length_map]
  by_cases k1 : 1 ≤ (l.length : Int) ∧ (l.length : Int) ≤ 8
  · have w1 := within_t k1
    refine gr Tryz.func191 Tryz.ntmps191 trivial ?_
    rw [hlen]
    refine ⟨([], _), w1, nx ?_⟩
    (refine ⟨fun m es hs => ∃ (i : Nat), (m + i = l.length) ∧ (∀ j, j < i → ∀ h : j < l.length, RuleP l.length l[j] ∧ NamesP l j h) ∧ es = [(11, .val false [.f (iL i)]), (10, .val false [.f (iL l.length)]), (9, .val false [.f (rus l)]), (0, .val false [.f (rus l)])] ∧ hs = [], ⟨l.length, [], [], _, _, don, 0, don, don, rfl, rfl⟩, ?_⟩; rintro m _ _ ⟨i, hSA0, hSA1, rfl, rfl⟩; refine nx ?_)
    refine ⟨fun h => nx ?_, fun h => nx ?_⟩
    have hi : i < l.length := by omega
    have hr := ruleOK_ok l[i] l.length (hb _ (List.getElem_mem _))
    have hk := kindOf_ok l l[i].name hl
    refine ⟨(i, ruL l[i]), ⟨rfl, by simp [hi]⟩, nx ?_⟩
    rw [hlen]
    by_cases k : RuleP l.length l[i]
    refine ⟨([], _), hr.y ⟨k1, k⟩, nx ?_⟩
    refine ⟨([], _), hk, nx ?_⟩
    rw [wrap_suc (i := i) (by omega)]
    rcases kindF_at l i hi with ⟨g1, g2⟩ | ⟨g1, g2⟩
    refine ⟨fun h => absurd h (fun e => e (by rw [g2]; rfl)), fun h => nx ?_⟩
    have q := lt_suc (n := 0) hSA1 fun _ => ⟨k, g1⟩
    exact ⟨m - 1, [], [], _, _, by omega, don, (i + 1), don, don, rfl, rfl⟩
    refine ⟨fun h => nx ?_, fun h => absurd h (fun e => e (fun e2 => g2 (by rw [e2]; rfl)))⟩
    have q : dB (SchemaP l) = false := dB_no fun w => g1 (w.2 i hi).2
    exact ⟨[], [], don⟩
    refine ⟨([], _), hr.x fun w => k w.2, nx ?_⟩
    have q : dB (SchemaP l) = false := dB_no fun w => k (w.2 i hi).1
    exact ⟨[], [], don⟩
    have q : dB (SchemaP l) = true := dB_yes ⟨k1, fun j hj => hSA1 j (by omega) hj⟩
    exact ⟨[], [], don⟩
  · have w1 := within_f k1
    refine gr Tryz.func191 Tryz.ntmps191 trivial ?_
    rw [hlen]
    refine ⟨([], _), w1, nx ?_⟩
    have q : dB (SchemaP l) = false := dB_no fun w => k1 w.1
    exact ⟨[], [], don⟩
theorem l03OK_ok (l : List Ru) (hl : l.length < 2 ^ 62) (hb : ∀ r ∈ l, RuB r) : FC Tryz.prog 184 [(false, [rus l])] [] [(false, [.f (bL (dB (SchemaP l)))])] := by
  have hlen : ((l.map ruL).length : Int) = l.length := by rw [List.length_map]
  by_cases k1 : 1 ≤ (l.length : Int) ∧ (l.length : Int) ≤ 8
  · have w1 := in_t k1
    refine gr Tryz.func184 Tryz.ntmps184 trivial ?_
    rw [hlen]
    refine ⟨([], _), w1, nx ?_⟩
    (refine ⟨fun m es hs => ∃ (i : Nat), (m + i = l.length) ∧ (∀ j, j < i → ∀ h : j < l.length, RuleP l.length l[j] ∧ NamesP l j h) ∧ es = [(3, .val false [.f (iL i)]), (0, .val false [.f (rus l)])] ∧ hs = [], ⟨l.length, [], [], _, _, don, 0, don, don, rfl, rfl⟩, ?_⟩; rintro m _ _ ⟨i, hSO0, hSO1, rfl, rfl⟩; refine nx ?_)
    refine ⟨fun h => nx ?_, fun h => nx ?_⟩
    have hi : i < l.length := by omega
    have hr := l03Rule_ok l[i] l.length (hb _ (List.getElem_mem _))
    refine ⟨(i, ruL l[i]), ⟨rfl, by simp [hi]⟩, nx ?_⟩
    rw [hlen]
    by_cases k : RuleP l.length l[i]
    refine ⟨([], _), hr.y k, nx ?_⟩
    obtain ⟨mo, hmo⟩ : ∃ mo, mo = m := ⟨m, rfl⟩
    (refine ⟨fun m es hs => ∃ (u : Nat), (m + u = i) ∧ (∀ j, j < u → ∀ h : j < l.length, l[j].name ≠ l[i].name) ∧ es = [(4, .val false [.f (iL u)]), (3, .val false [.f (iL i)]), (0, .val false [.f (rus l)])] ∧ hs = [], ⟨i, [], [], _, _, don, 0, don, don, rfl, rfl⟩, ?_⟩; rintro m _ _ ⟨u, hSP0, hSP1, rfl, rfl⟩; refine nx ?_)
    refine ⟨fun h => nx ?_, fun h => nx ?_⟩
    have hki : u < l.length := by omega
    refine ⟨(u, ruL l[u]), ⟨rfl, by simp [hki]⟩, nx ?_⟩
    refine ⟨(i, ruL l[i]), ⟨rfl, by simp [hi]⟩, nx ?_⟩
    refine ⟨fun h => nx ?_, fun h => nx ?_⟩
    have q : dB (SchemaP l) = false := dB_no fun w => (w.2 i hi).2 u (by omega) h
    exact ⟨[], [], don⟩
    have q := lt_suc (n := 0) hSP1 fun _ => h
    exact ⟨m - 1, [], [], _, _, by omega, don, (u + 1), don, don, rfl, rfl⟩
    have q := lt_suc (n := 0) hSO1 fun _ => ⟨k, fun j hj => hSP1 j (by omega) (by omega)⟩
    exact ⟨mo - 1, [], [], _, _, by omega, don, (i + 1), don, don, rfl, rfl⟩
    refine ⟨([], _), hr.x k, nx ?_⟩
    have q : dB (SchemaP l) = false := dB_no fun w => k (w.2 i hi).1
    exact ⟨[], [], don⟩
    have q : dB (SchemaP l) = true := dB_yes ⟨k1, fun j hj => hSO1 j (by omega) hj⟩
    exact ⟨[], [], don⟩
  · have w1 := in_f k1
    refine gr Tryz.func184 Tryz.ntmps184 trivial ?_
    rw [hlen]
    refine ⟨([], _), w1, nx ?_⟩
    have q : dB (SchemaP l) = false := dB_no fun w => k1 w.1
    exact ⟨[], [], don⟩
end Go.Proofs.YtecnmodeggnjoaaGreat.Ac
set_option linter.unusedVariables false
set_option linter.unusedSimpArgs false
set_option maxRecDepth 20000
set_option maxHeartbeats 20000000
namespace Go.Proofs.YtecnmodeggnjoaaGreat.Ac
open Go.RowKit
def leF (many : Int) : Nat := if many = 0 ∨ many = 3 then 1 else 0
def moF (many : Int) (n : Nat) : Nat := if many < 2 then min n 1 else n
def matchP : List Tm → List Int → Prop
  | [], kids => kids = []
  | t :: ts, kids => ∃ n, n ≤ moF t.many kids.length ∧ leF t.many ≤ n ∧ (∀ j (h : j < kids.length), j < n → kids[j] ∈ t.kinds) ∧ matchP ts (kids.drop n)
def ManyP (t : Tm) : Prop := 0 ≤ t.many ∧ t.many ≤ 3
theorem moF_le (many : Int) (n : Nat) : moF many n ≤ n := by unfold moF; split <;> omega
theorem drop_map {α : Type} {f : α → List L} (l : List α) (i : Nat) : (((l.map f).take l.length).drop i) = (l.drop i).map f := by rw [List.take_of_length_le (by simp), List.map_drop]
theorem ext_all {f : Int → List L} {l : List Int} {i : Nat} (hi : i ≤ l.length) : bndP (some (.val false [.f (iL i)])) 0 i ∧ bndP none (l.map f).length l.length ∧ i ≤ l.length ∧ l.length ≤ (l.map f).length ∧ (((l.map f).take l.length).drop i) = (l.drop i).map f :=
  ⟨rfl, by simp [bndP], hi, by simp, drop_map l i⟩
theorem matches_ok : ∀ (ts : List Tm) (kids : List Int), kids.length < 2 ^ 61 → ts.length < 2 ^ 61 → (∀ t ∈ ts, TmB t ∧ ManyP t) → FC Tryz.prog 333 [(false, [tms ts]), (false, [ints kids])] [] [(false, [.f (bL (dB (matchP ts kids)))])]
  | [], kids, hk, hl, hb => by
    refine gr Tryz.func333 Tryz.ntmps333 trivial ?_
    refine ⟨fun h => nx ?_, fun h => absurd h (fun n => n rfl)⟩
    refine ⟨fun h => nx ?_, fun h => nx ?_⟩
    have q : dB (matchP [] kids) = true := dB_yes (by rw [List.length_map] at h; exact List.eq_nil_of_length_eq_zero (by omega))
    exact ⟨[], [], don⟩
    have q : dB (matchP [] kids) = false := dB_no fun w => h (by rw [List.length_map, show kids = [] from w]; rfl)
    exact ⟨[], [], don⟩
  | ⟨kinds, many⟩ :: ts, kids, hk, hl, hb => by
    obtain ⟨hb1, hb2⟩ := hb _ List.mem_cons_self
    have hkd : kinds.length < 2 ^ 62 := hb1
    have ih : ∀ n, FC Tryz.prog 333 [(false, [tms ts]), (false, [ints (kids.drop n)])] [] [(false, [.f (bL (dB (matchP ts (kids.drop n))))])] := fun n => matches_ok ts (kids.drop n) (by simp; omega) (by simp at hl; omega) fun t ht => hb t (List.mem_cons_of_mem _ ht)
    obtain ⟨G, hG⟩ : ∃ G : Nat → Prop, G = fun n => n ≤ moF many kids.length ∧ leF many ≤ n ∧ (∀ j (h : j < kids.length), j < n → kids[j] ∈ kinds) ∧ matchP ts (kids.drop n) := ⟨_, rfl⟩
    have hM : matchP (⟨kinds, many⟩ :: ts) kids = ∃ n, G n := by rw [hG]; rfl
    obtain ⟨le, hle⟩ : ∃ le : Nat, le = leF many := ⟨_, rfl⟩
    obtain ⟨mo, hmo⟩ : ∃ mo : Nat, mo = moF many kids.length := ⟨_, rfl⟩
    have hmle : mo ≤ kids.length := hmo ▸ moF_le _ _
    have hG2 : ∀ n, G n ↔ (n ≤ mo ∧ le ≤ n ∧ (∀ j (h : j < kids.length), j < n → kids[j] ∈ kinds) ∧ matchP ts (kids.drop n)) := fun n => by rw [hG, hle, hmo]
    clear hG
    have h4 : many = 0 ∨ many = 1 ∨ many = 2 ∨ many = 3 := by have := hb2.1; have := hb2.2; dsimp only at *; omega
    have hlen : ((kids.map intE).length : Int) = kids.length := by rw [List.length_map]
    refine gr Tryz.func333 Tryz.ntmps333 trivial ?_
    refine ⟨fun h => absurd h (by rw [List.length_map, List.length_cons]; omega), fun h => nx ?_⟩
    refine ⟨(0, tmL ⟨kinds, many⟩), ⟨rfl, rfl⟩, nx ?_⟩
    rcases h4 with h4 | h4 | h4 | h4
    all_goals
      simp [leF, h4] at hle
      simp [moF, h4] at hmo
      (first | refine ⟨fun h => nx ?_, fun h => absurd (by dsimp only; omega) h⟩ | refine ⟨fun h => absurd h (by dsimp only; omega), fun h => nx ?_⟩)
      try ((first | refine ⟨fun h => nx ?_, fun h => absurd (by dsimp only; omega) h⟩ | refine ⟨fun h => absurd h (by dsimp only; omega), fun h => nx ?_⟩))
      try ((first | refine ⟨fun h => nx ?_, fun h => absurd (by dsimp only; omega) h⟩ | refine ⟨fun h => absurd h (by dsimp only; omega), fun h => nx ?_⟩))
      try ((first | refine ⟨fun h => nx ?_, fun h => absurd (by dsimp only; omega) h⟩ | refine ⟨fun h => absurd h (by dsimp only; omega), fun h => nx ?_⟩))
      (refine ⟨fun m es hs => ∃ (i : Nat), (m + i = mo + 1) ∧ (∀ j, j < i - 1 → ∀ h : j < kids.length, kids[j] ∈ kinds) ∧ (∀ n, n < i → ¬ G n) ∧ es = [(8, .val false [.f (iL i)]), (7, .val false [.f (iL mo)]), (6, .val false [.f (iL le)]), (5, .val false [.pt 96 0 0]), (1, .val false [.f (ints kids)]), (0, .val false [.f (tms (⟨kinds, many⟩ :: ts))])] ∧ hs = [(96, some ⟨3, 2, [[.f (ints kinds), .f (iL many)]]⟩)], ⟨mo + 1, [], [], _, _, don, 0, don, don, don, rfl, rfl⟩, ?_⟩; rintro m _ _ ⟨i, hMA0, hMA1, hMA2, rfl, rfl⟩; refine nx ?_)
      refine ⟨fun h => nx ?_, fun h => nx ?_⟩
      have hik : i ≤ kids.length := by omega
      refine ⟨fun h => nx ?_, fun h => nx ?_⟩
      have hp : i - 1 < kids.length := by omega
      refine ⟨(i - 1, intE kids[i - 1]), ge_idx hp (wrap_pre (by omega) (by omega)), nx ?_⟩
      by_cases k : kids[i - 1] ∈ kinds
      refine ⟨([], _), (contains_ok kinds kids[i - 1] hkd).t k, nx ?_⟩
      have all0 : ∀ j, j < i → ∀ h : j < kids.length, kids[j] ∈ kinds := fun j hj hl => by
        by_cases e : j = i - 1
        · subst e; exact k
        · exact hMA1 j (by omega) hl
      refine ⟨fun h => nx ?_, fun h => nx ?_⟩
      refine ⟨(1, ts.length + 1, ts.map tmL), ⟨rfl, by simp [bndP], by simp, by simp, by rw [List.take_of_length_le (by simp)]; rfl⟩, nx ?_⟩
      refine ⟨(i, kids.length, (kids.drop i).map intE), ext_all (by omega), nx ?_⟩
      by_cases g : matchP ts (kids.drop i)
      refine ⟨([], _), (ih i).y g, nx ?_⟩
      have q : dB (matchP (⟨kinds, many⟩ :: ts) kids) = true := dB_yes (hM ▸ ⟨i, (hG2 i).2 ⟨by omega, by omega, fun j hj hji => all0 j hji hj, g⟩⟩)
      exact ⟨[], [], don⟩
      refine ⟨([], _), (ih i).x g, nx ?_⟩
      have q := lt_suc (n := 0) hMA2 fun w => g ((hG2 i).1 w).2.2.2
      exact ⟨m - 1, [], [], _, _, by omega, don, (i + 1), don, don, don, rfl, rfl⟩
      have q := lt_suc (n := 0) hMA2 fun w => absurd ((hG2 i).1 w).2.1 (by omega)
      exact ⟨m - 1, [], [], _, _, by omega, don, (i + 1), don, don, don, rfl, rfl⟩
      refine ⟨([], _), (contains_ok kinds kids[i - 1] hkd).n k, nx ?_⟩
      have q : dB (matchP (⟨kinds, many⟩ :: ts) kids) = false := dB_no (hM ▸ fun ⟨n, hn⟩ => by
        by_cases e : n < i
        · exact hMA2 n e hn
        · exact k (((hG2 n).1 hn).2.2.1 (i - 1) hp (by omega)))
      exact ⟨[], [], don⟩
      have all0 : ∀ j, j < i → ∀ h : j < kids.length, kids[j] ∈ kinds := fun j hj hl => by omega
      refine ⟨fun h => nx ?_, fun h => nx ?_⟩
      refine ⟨(1, ts.length + 1, ts.map tmL), ⟨rfl, by simp [bndP], by simp, by simp, by rw [List.take_of_length_le (by simp)]; rfl⟩, nx ?_⟩
      refine ⟨(i, kids.length, (kids.drop i).map intE), ext_all (by omega), nx ?_⟩
      by_cases g : matchP ts (kids.drop i)
      refine ⟨([], _), (ih i).y g, nx ?_⟩
      have q : dB (matchP (⟨kinds, many⟩ :: ts) kids) = true := dB_yes (hM ▸ ⟨i, (hG2 i).2 ⟨by omega, by omega, fun j hj hji => all0 j hji hj, g⟩⟩)
      exact ⟨[], [], don⟩
      refine ⟨([], _), (ih i).x g, nx ?_⟩
      have q := lt_suc (n := 0) hMA2 fun w => g ((hG2 i).1 w).2.2.2
      exact ⟨m - 1, [], [], _, _, by omega, don, (i + 1), don, don, don, rfl, rfl⟩
      have q := lt_suc (n := 0) hMA2 fun w => absurd ((hG2 i).1 w).2.1 (by omega)
      exact ⟨m - 1, [], [], _, _, by omega, don, (i + 1), don, don, don, rfl, rfl⟩
      have q : dB (matchP (⟨kinds, many⟩ :: ts) kids) = false := dB_no (hM ▸ fun ⟨n, hn⟩ => hMA2 n (by have := ((hG2 n).1 hn).1; omega) hn)
      exact ⟨[], [], don⟩
      all_goals (try (split <;> omega))
end Go.Proofs.YtecnmodeggnjoaaGreat.Ac
set_option linter.unusedVariables false
set_option linter.unusedSimpArgs false
set_option maxRecDepth 20000
set_option maxHeartbeats 20000000
namespace Go.Proofs.YtecnmodeggnjoaaGreat.Ac
open Go.RowKit
theorem l03Least_ok (many : Int) : FC Tryz.prog 307 [(false, [iL many])] [] [(false, [.f (iL (leF many))])] := by
  refine gr Tryz.func307 Tryz.ntmps307 trivial ?_
  (repeat' (apply And.intro <;> intro h <;> refine nx ?_)); (all_goals refine ⟨[], [], ?_⟩)
  all_goals (try (repeat' first | exact trivial | exact rfl | exact tl_pv rfl rfl rfl (List.cons_ne_nil _ _) | exact ⟨_, rfl, frzC_map _⟩ | exact tl_ints rfl rfl rfl (by simp) | exact tl_txts rfl rfl rfl (by simp) | exact tl_nds rfl rfl rfl (by simp) | exact tl_tms rfl rfl rfl (by simp) | exact tl_rus rfl rfl rfl (by simp) | ((conv => whnf); first | exact trivial | exact rfl | exact .inr rfl | exact .inl ⟨rfl, rfl⟩ | apply And.intro) | refine tl_int ?_ | refine tl_bool ?_ | refine tl_str ?_ | refine tl_row rfl ?_ | exact cl_ints _ | exact cl_txts _ | exact cl_nds _ | exact cl_tms _ | exact cl_rus _ | exact cl_mp _ | exact Nat.succ_pos _ | exact pl_ints _ | exact pl_txts _ | exact pl_nds _ | exact pl_tms _ | exact pl_rus _ | with_reducible refine tl_f ?_)); all_goals (try first | rfl | assumption | exact q.symm | omega | (rw [IntKind.wrap_i64]; omega) | (simp; done) | (simp; omega))
  all_goals (unfold leF; split <;> omega)
theorem l03Match_ok : ∀ (ts : List Tm) (kids : List Int), kids.length < 2 ^ 61 → ts.length < 2 ^ 61 → (∀ t ∈ ts, TmB t ∧ ManyP t) → FC Tryz.prog 240 [(false, [tms ts]), (false, [ints kids])] [] [(false, [.f (bL (dB (matchP ts kids)))])]
  | [], kids, hk, hl, hb => by
    refine gr Tryz.func240 Tryz.ntmps240 trivial ?_
    refine ⟨fun h => nx ?_, fun h => absurd h (fun n => n rfl)⟩
    refine ⟨fun h => nx ?_, fun h => nx ?_⟩
    have q : dB (matchP [] kids) = true := dB_yes (by rw [List.length_map] at h; exact List.eq_nil_of_length_eq_zero (by omega))
    exact ⟨[], [], don⟩
    have q : dB (matchP [] kids) = false := dB_no fun w => h (by rw [List.length_map, show kids = [] from w]; rfl)
    exact ⟨[], [], don⟩
  | ⟨kinds, many⟩ :: ts, kids, hk, hl, hb => by
    obtain ⟨hb1, hb2⟩ := hb _ List.mem_cons_self
    have hkd : kinds.length < 2 ^ 62 := hb1
    have ih : ∀ n, FC Tryz.prog 240 [(false, [tms ts]), (false, [ints (kids.drop n)])] [] [(false, [.f (bL (dB (matchP ts (kids.drop n))))])] := fun n => l03Match_ok ts (kids.drop n) (by simp; omega) (by simp at hl; omega) fun t ht => hb t (List.mem_cons_of_mem _ ht)
    obtain ⟨G, hG⟩ : ∃ G : Nat → Prop, G = fun n => n ≤ moF many kids.length ∧ leF many ≤ n ∧ (∀ j (h : j < kids.length), j < n → kids[j] ∈ kinds) ∧ matchP ts (kids.drop n) := ⟨_, rfl⟩
    have hM : matchP (⟨kinds, many⟩ :: ts) kids = ∃ n, G n := by rw [hG]; rfl
    have hle0 := l03Least_ok many
    obtain ⟨le, hle⟩ : ∃ le : Nat, le = leF many := ⟨_, rfl⟩
    obtain ⟨mo, hmo⟩ : ∃ mo : Nat, mo = moF many kids.length := ⟨_, rfl⟩
    have hmle : mo ≤ kids.length := hmo ▸ moF_le _ _
    have hG2 : ∀ n, G n ↔ (n ≤ mo ∧ le ≤ n ∧ (∀ j (h : j < kids.length), j < n → kids[j] ∈ kinds) ∧ matchP ts (kids.drop n)) := fun n => by rw [hG, hle, hmo]
    rw [← hle] at hle0
    clear hG hle
    have hlen : ((kids.map intE).length : Int) = kids.length := by rw [List.length_map]
    refine gr Tryz.func240 Tryz.ntmps240 trivial ?_
    refine ⟨fun h => absurd h (by rw [List.length_map, List.length_cons]; omega), fun h => nx ?_⟩
    refine ⟨(0, tmL ⟨kinds, many⟩), ⟨rfl, rfl⟩, nx ?_⟩
    refine ⟨([], _), hle0, nx ?_⟩
    by_cases h4 : many < 2
    all_goals
      simp [moF, h4] at hmo
      (first | refine ⟨fun h => nx ?_, fun h => absurd (h4) h⟩ | refine ⟨fun h => absurd h (h4), fun h => nx ?_⟩)
      (refine ⟨fun m es hs => ∃ (i : Nat), (m + i = mo + 1) ∧ (∀ j, j < i → j < mo → ∀ h : j < kids.length, kids[j] ∈ kinds) ∧ (∀ n, n < i → ¬ G n) ∧ es = [(8, .val false [.f (iL i)]), (7, .val false [.f (iL mo)]), (6, .val false [.f (iL le)]), (5, .val false [.pt 96 0 0]), (1, .val false [.f (ints kids)]), (0, .val false [.f (tms (⟨kinds, many⟩ :: ts))])] ∧ hs = [(96, some ⟨3, 2, [[.f (ints kinds), .f (iL many)]]⟩)], ⟨mo + 1, [], [], _, _, don, 0, don, don, don, rfl, rfl⟩, ?_⟩; rintro m _ _ ⟨i, hMB0, hMB1, hMB2, rfl, rfl⟩; refine nx ?_)
      refine ⟨fun h => nx ?_, fun h => nx ?_⟩
      refine ⟨fun h => nx ?_, fun h => nx ?_⟩
      refine ⟨(1, ts.length + 1, ts.map tmL), ⟨rfl, by simp [bndP], by simp, by simp, by rw [List.take_of_length_le (by simp)]; rfl⟩, nx ?_⟩
      refine ⟨(i, kids.length, (kids.drop i).map intE), ext_all (by omega), nx ?_⟩
      by_cases g : matchP ts (kids.drop i)
      refine ⟨([], _), (ih i).y g, nx ?_⟩
      have q : dB (matchP (⟨kinds, many⟩ :: ts) kids) = true := dB_yes (hM ▸ ⟨i, (hG2 i).2 ⟨by omega, by omega, fun j hj hji => hMB1 j hji (by omega) hj, g⟩⟩)
      exact ⟨[], [], don⟩
      refine ⟨([], _), (ih i).x g, nx ?_⟩
      have gn := lt_suc (n := 0) hMB2 fun w => g ((hG2 i).1 w).2.2.2
      refine ⟨fun h => nx ?_, fun h => nx ?_⟩
      have hil : i < kids.length := by omega
      refine ⟨(i, intE kids[i]), ge_idx hil rfl, nx ?_⟩
      by_cases k : kids[i] ∈ kinds
      refine ⟨([], _), (l02Has_ok kinds kids[i] hkd).t k, nx ?_⟩
      have q := lt_suc (n := 0) hMB1 fun _ _ => k
      exact ⟨m - 1, [], [], _, _, by omega, don, (i + 1), don, don, don, rfl, rfl⟩
      refine ⟨([], _), (l02Has_ok kinds kids[i] hkd).n k, nx ?_⟩
      have q : dB (matchP (⟨kinds, many⟩ :: ts) kids) = false := dB_no (hM ▸ fun ⟨n, hn⟩ => by
        by_cases e : n < i + 1
        · exact gn n e hn
        · exact k (((hG2 n).1 hn).2.2.1 i hil (by omega)))
      exact ⟨[], [], don⟩
      have q := lt_suc (n := 0) hMB1 fun g => absurd g (by omega)
      exact ⟨m - 1, [], [], _, _, by omega, don, (i + 1), don, don, don, rfl, rfl⟩
      have gn := lt_suc (n := 0) hMB2 fun w => absurd ((hG2 i).1 w).2.1 (by omega)
      refine ⟨fun h => nx ?_, fun h => nx ?_⟩
      have hil : i < kids.length := by omega
      refine ⟨(i, intE kids[i]), ge_idx hil rfl, nx ?_⟩
      by_cases k : kids[i] ∈ kinds
      refine ⟨([], _), (l02Has_ok kinds kids[i] hkd).t k, nx ?_⟩
      have q := lt_suc (n := 0) hMB1 fun _ _ => k
      exact ⟨m - 1, [], [], _, _, by omega, don, (i + 1), don, don, don, rfl, rfl⟩
      refine ⟨([], _), (l02Has_ok kinds kids[i] hkd).n k, nx ?_⟩
      have q : dB (matchP (⟨kinds, many⟩ :: ts) kids) = false := dB_no (hM ▸ fun ⟨n, hn⟩ => by
        by_cases e : n < i + 1
        · exact gn n e hn
        · exact k (((hG2 n).1 hn).2.2.1 i hil (by omega)))
      exact ⟨[], [], don⟩
      have q := lt_suc (n := 0) hMB1 fun g => absurd g (by omega)
      exact ⟨m - 1, [], [], _, _, by omega, don, (i + 1), don, don, don, rfl, rfl⟩
      have q : dB (matchP (⟨kinds, many⟩ :: ts) kids) = false := dB_no (hM ▸ fun ⟨n, hn⟩ => hMB2 n (by have := ((hG2 n).1 hn).1; omega) hn)
      exact ⟨[], [], don⟩
      all_goals (try (split <;> omega))
end Go.Proofs.YtecnmodeggnjoaaGreat.Ac
