/- Several of our texts, one behind the other, without what this claim does not need: AcA. -/
import Derived.Orders
import Derived.Below
set_option linter.unusedVariables false
set_option linter.unusedSimpArgs false
namespace Go.Proofs.YtecnmodeggnjoaaGreat.Ac
open Go.RowKit
inductive L where
  | v (x : Value)
  | sl (wd : Nat) (es : List (List L))
  | pv (x : List L)
  | cl (f : FuncId) (caps : List (Bool × List L))
inductive A where
  | f (x : L)
  | nl
  | un (k : Option Nat)
  | row (n lo hi : Nat)
  | pt (n i off : Nat)
  | mp (n : Nat)
  | ow (wd : Nat) (es : List (List A))
  | cl (f : FuncId) (caps : List (Bool × List A))
inductive T where
  | val (ag : Bool) (cs : List A)
  | tu (vs : List (Bool × List A))
  | bot
structure Ob where
  fl : Nat
  wd : Nat
  es : List (List A)
abbrev cell (as : List A) : Ob := ⟨1, as.length, [as]⟩
def get {α : Type} : List (Nat × α) → Nat → Option α
  | [], _ => none
  | (m, o) :: H, n => cond (Nat.beq m n) (some o) (get H n)
abbrev Hp := Nat → Option (Option Ob)
abbrev Env := Nat → Option T
abbrev Place := Nat × List (Nat × Nat)
structure Hd where
  b : Nat
  off : Nat
  cap : Nat
structure Phi where
  at_ : Place → Option Hd
  out : Nat → Prop
instance : CoeFun Phi (fun _ => Place → Option Hd) := ⟨Phi.at_⟩
def Own0 (φ : Phi) (b : Nat) : Prop := ∃ X hd, φ X = some hd ∧ hd.b = b
def Own (φ : Phi) (b : Nat) : Prop := φ.out b ∨ Own0 φ b
theorem get_cons_ne {α : Type} {m n : Nat} (o : α) (H : List (Nat × α)) (h : m ≠ n) : get ((m, o) :: H) n = get H n := by
  have : Nat.beq m n = false := by
    cases hb : Nat.beq m n
    · rfl
    · exact absurd (Nat.eq_of_beq_eq_true hb) h
  simp [get, this]
def wfv : Bool → Nat → Value → Prop
  | true, n, u => ∃ c, u = .agg c ∧ c.size = n
  | false, n, u => n = 1 ∧ u.oneCell' = true
def partv : Bool → Value → Nat → Value
  | true, .agg c, j => c.getD j undef
  | _, u, _ => u
inductive RepL (h : Array Obj) (O : Nat → Prop) : L → Value → Prop
  | v (x : Value) (hx : x.oneCell' = true) : RepL h O (.v x) x
  | nil (wd : Nat) (a : Option Addr) (cap : Nat) : RepL h O (.sl wd []) (.slice a 0 cap)
  | sl (wd : Nat) (es : List (List L)) (b off cap : Nat) (c : Array Value) (ty : TypeId) (fr : Nat × Nat) (hw : 0 < wd) (he : es ≠ []) (hb : h[b]? = some (.cells c ty fr)) (hO : ¬ O b)
      (hl : ∀ e ∈ es, e.length = wd) (hs : off + es.length * wd ≤ c.size) (hc : es.length ≤ cap)
      (hr : ∀ i e j x, es[i]? = some e → e[j]? = some x → RepL h O x (c.getD (off + i * wd + j) undef)) :
      RepL h O (.sl wd es) (.slice (some ⟨b, off, none⟩) es.length cap)
  | pv (x : List L) (b off : Nat) (c : Array Value) (ty : TypeId) (fr : Nat × Nat) (he : x ≠ []) (hb : h[b]? = some (.cells c ty fr)) (hO : ¬ O b) (hs : off + x.length ≤ c.size)
      (hr : ∀ j y, x[j]? = some y → RepL h O y (c.getD (off + j) undef)) : RepL h O (.pv x) (.pointer (some ⟨b, off, none⟩))
  | cl (f : FuncId) (caps : List (Bool × List L)) (cap : Array Value) (hs : cap.size = caps.length) (hw : ∀ i x, caps[i]? = some x → wfv x.1 x.2.length (cap.getD i undef))
      (hr : ∀ i x j y, caps[i]? = some x → x.2[j]? = some y → RepL h O y (partv x.1 (cap.getD i undef) j)) : RepL h O (.cl f caps) (.func (.func f) #[] cap)
def RefRow (H : Hp) (φ : Phi) (n lo hi : Nat) (u : Value) : Prop := u.oneCell' = true ∧ match H n with
  | some none => True
  | some (some ob) => lo ≤ hi ∧ hi ≤ ob.es.length ∧ match φ (n, []) with
    | none => ∃ a, u = .slice a 0 0
    | some hd => ∃ a, u = .slice a (hi - lo) (hd.cap - lo) ∧ (lo = 0 ∨ lo < hd.cap → a = some ⟨hd.b, hd.off + lo * ob.wd, none⟩)
  | none => False
def RefPt (H : Hp) (φ : Phi) (n i off : Nat) (u : Value) : Prop := u.oneCell' = true ∧ match H n with
  | some none => True
  | some (some ob) => ∃ hd, φ (n, []) = some hd ∧ u = .pointer (some ⟨hd.b, hd.off + i * ob.wd + off, none⟩)
  | none => False
def RefMp (H : Hp) (φ : Phi) (n : Nat) (u : Value) : Prop := u.oneCell' = true ∧ match H n with
  | some none => True
  | some (some ob) => ∃ hd, φ (n, []) = some hd ∧ u = .map (some hd.b)
  | none => False
inductive RepE (h : Array Obj) (H : Hp) (φ : Phi) : A → Value → Prop
  | f (x : L) (u : Value) (r : RepL h (Own φ) x u) : RepE h H φ (.f x) u
  | nl (a : Option Addr) : RepE h H φ .nl (.slice a 0 0)
  | un (k : Option Nat) (u : Value) (h1 : u.oneCell' = true) (h2 : ∀ n, k = some n → ∃ a cap, u = .slice a n cap) : RepE h H φ (.un k) u
  | row (n lo hi : Nat) (u : Value) (r : RefRow H φ n lo hi u) : RepE h H φ (.row n lo hi) u
  | pt (n i off : Nat) (u : Value) (r : RefPt H φ n i off u) : RepE h H φ (.pt n i off) u
  | mp (n : Nat) (u : Value) (r : RefMp H φ n u) : RepE h H φ (.mp n) u
  | cl (f : FuncId) (caps : List (Bool × List A)) (cap : Array Value) (hs : cap.size = caps.length) (hw : ∀ i x, caps[i]? = some x → wfv x.1 x.2.length (cap.getD i undef))
      (hr : ∀ i x j y, caps[i]? = some x → x.2[j]? = some y → RepE h H φ y (partv x.1 (cap.getD i undef) j)) : RepE h H φ (.cl f caps) (.func (.func f) #[] cap)
structure RowOK (wd : Nat) (es : List (List A)) (hd : Hd) (c : Array Value) : Prop where
  wd0 : 0 < wd
  len : ∀ e ∈ es, e.length = wd
  le : es.length ≤ hd.cap
  cap : hd.cap ≤ maxLen
  size : c.size = hd.off + hd.cap * wd
  one : ∀ k, k < c.size → (c.getD k undef).oneCell' = true
inductive RepA (h : Array Obj) (H : Hp) (φ : Phi) : Place → A → Value → Prop
  | e (X : Place) (x : A) (u : Value) (r : RepE h H φ x u) : RepA h H φ X x u
  | nilo (X : Place) (wd : Nat) (a : Option Addr) (hw : 0 < wd) (hX : φ X = none) : RepA h H φ X (.ow wd []) (.slice a 0 0)
  | ow (X : Place) (wd : Nat) (es : List (List A)) (hd : Hd) (c : Array Value) (ty : TypeId) (hX : φ X = some hd) (hb : h[hd.b]? = some (.cells c ty (0, 0))) (ok : RowOK wd es hd c)
      (hr : ∀ i e j x, es[i]? = some e → e[j]? = some x → RepA h H φ (X.1, (i, j) :: X.2) x (c.getD (hd.off + i * wd + j) undef)) :
      RepA h H φ X (.ow wd es) (.slice (some ⟨hd.b, hd.off, none⟩) es.length hd.cap)
def ObRow (h : Array Obj) (H : Hp) (φ : Phi) (n : Nat) (ob : Ob) : Prop := ((ob.es = [] ∧ φ (n, []) = none) ∨
  ∃ hd c ty, φ (n, []) = some hd ∧ h[hd.b]? = some (.cells c ty (0, 0)) ∧ RowOK ob.wd ob.es hd c ∧ (ob.fl ≠ 0 → ob.es.length = hd.cap) ∧
    ∀ i e j x, ob.es[i]? = some e → e[j]? = some x → RepA h H φ (n, [(i, j)]) x (c.getD (hd.off + i * ob.wd + j) undef))
def mpR (l : List (Int × Value)) : List (List A) := l.map fun x => [.f (.v (.int .i64 x.1)), .f (.v x.2)]
def ObMap (h : Array Obj) (φ : Phi) (n : Nat) (ob : Ob) : Prop := ∃ hd es ck l, φ (n, []) = some hd ∧ h[hd.b]? = some (.map es ck) ∧ ob.es = mpR l ∧ es.toList.map (fun e => (e.key, e.val)) = l.map (fun x => (.int .i64 x.1, x.2)) ∧ ∀ x ∈ l, x.2.oneCell' = true
def ObOK (h : Array Obj) (H : Hp) (φ : Phi) (n : Nat) (ob : Ob) : Prop := 0 < ob.wd ∧ (ob.fl ≠ 4 → ObRow h H φ n ob) ∧ (ob.fl = 4 → ObMap h φ n ob)
theorem ObOK.row {h : Array Obj} {H : Hp} {φ : Phi} {n : Nat} {ob : Ob} (r : ObOK h H φ n ob) (h4 : ob.fl ≠ 4) : ObRow h H φ n ob := r.2.1 h4
theorem obRow {h : Array Obj} {H : Hp} {φ : Phi} {n : Nat} {ob : Ob} (h0 : 0 < ob.wd) (h4 : ob.fl ≠ 4) (r : ObRow h H φ n ob) : ObOK h H φ n ob := ⟨h0, fun _ => r, fun h => absurd h h4⟩
structure HeapOK (h : Array Obj) (H : Hp) (φ : Phi) : Prop where
  ob : ∀ n ob, H n = some (some ob) → ObOK h H φ n ob
  lt : ∀ X hd, φ X = some hd → hd.b < h.size
  apart : ∀ X hd, φ X = some hd → ¬ φ.out hd.b
  old : ∀ b, φ.out b → b < h.size
  inj : ∀ X Y hd hd', φ X = some hd → φ Y = some hd' → hd.b = hd'.b → X = Y
structure Turn (h : Array Obj) (H : Hp) (φ : Phi) (h' : Array Obj) (H' : Hp) (φ' : Phi) : Prop where
  out : φ'.out = φ.out
  blk0 : ∀ b, b < h.size → ¬ Own0 φ b → ¬ Own0 φ' b ∧ h'[b]? = h[b]?
  dead : ∀ n, H n = some none → H' n = some none
  live : ∀ n ob, H n = some (some ob) → H' n = some none ∨ ∃ ob', H' n = some (some ob') ∧ φ' (n, []) = φ (n, []) ∧ ob'.wd = ob.wd ∧ ob.es.length ≤ ob'.es.length
theorem Turn.blk {h h' : Array Obj} {H H' : Hp} {φ φ' : Phi} (t : Turn h H φ h' H' φ') (b : Nat) (hb : b < h.size) (hO : ¬ Own φ b) : ¬ Own φ' b ∧ h'[b]? = h[b]? := by
  have h0 : ¬ φ.out b := fun h => hO (.inl h)
  obtain ⟨h1, h2⟩ := t.blk0 b hb fun h => hO (.inr h)
  exact ⟨fun h => h.elim (fun h => h0 (t.out ▸ h)) h1, h2⟩
theorem lt_of_get {h : Array Obj} {b : Nat} {o : Obj} (hb : h[b]? = some o) : b < h.size := (Array.getElem?_eq_some_iff.1 hb).1
theorem lt_of_same {h h' : Array Obj} {b : Nat} (hb : b < h.size) (he : h'[b]? = h[b]?) : b < h'.size := by
  rw [Array.getElem?_eq_getElem hb] at he
  exact lt_of_get he
theorem HeapOK.own_lt {h : Array Obj} {H : Hp} {φ : Phi} (k : HeapOK h H φ) {b : Nat} (hO : Own φ b) : b < h.size := by
  rcases hO with hO | ⟨X, hd, hX, rfl⟩
  · exact k.old b hO
  · exact k.lt X hd hX
theorem RepL.turn {h h' : Array Obj} {O O' : Nat → Prop} (t : ∀ b, b < h.size → ¬ O b → ¬ O' b ∧ h'[b]? = h[b]?) {x : L} {u : Value} (r : RepL h O x u) : RepL h' O' x u := by
  induction r with
  | v x hx => exact .v x hx
  | nil wd a cap => exact .nil wd a cap
  | sl wd es b off cap c ty fr hw he hb hO hl hs hc hr ih =>
    obtain ⟨h1, h2⟩ := t b (lt_of_get hb) hO
    exact .sl wd es b off cap c ty fr hw he (h2.trans hb) h1 hl hs hc ih
  | pv x b off c ty fr he hb hO hs hr ih =>
    obtain ⟨h1, h2⟩ := t b (lt_of_get hb) hO
    exact .pv x b off c ty fr he (h2.trans hb) h1 hs ih
  | cl f caps cap hs hw hr ih => exact .cl f caps cap hs hw ih
theorem RepL.one {h : Array Obj} {O : Nat → Prop} {x : L} {u : Value} (r : RepL h O x u) : u.oneCell' = true := by
  cases r <;> first | assumption | rfl
theorem RepL.less {h : Array Obj} {O O' : Nat → Prop} (hO : ∀ b, O' b → O b) {x : L} {u : Value} (q : RepL h O x u) : RepL h O' x u := q.turn fun b _ hb => ⟨fun h => hb (hO b h), rfl⟩
theorem RepE.one {h : Array Obj} {H : Hp} {φ : Phi} {x : A} {u : Value} (r : RepE h H φ x u) : u.oneCell' = true := by
  cases r with
  | f x u r => exact r.one
  | nl a => rfl
  | un k u h1 h2 => exact h1
  | row n lo hi u r => exact r.1
  | pt n i off u r => exact r.1
  | mp n u r => exact r.1
  | cl => rfl
theorem RepA.one {h : Array Obj} {H : Hp} {φ : Phi} {X : Place} {x : A} {u : Value} (r : RepA h H φ X x u) : u.oneCell' = true := by
  cases r with
  | e X x u r => exact r.one
  | nilo => rfl
  | ow => rfl
section
variable {h h' h'' : Array Obj} {H H' H'' : Hp} {φ φ' φ'' : Phi}
theorem RefRow.turn (t : Turn h H φ h' H' φ') {n lo hi : Nat} {u : Value} (r : RefRow H φ n lo hi u) : RefRow H' φ' n lo hi u := by
  refine ⟨r.1, ?_⟩
  have r2 := r.2
  split at r2
  · rename_i hn; rw [t.dead n hn]; trivial
  · rename_i ob hn
    rcases t.live n _ hn with hd | ⟨ob', hn', hφ, hw, hle⟩
    · rw [hd]; trivial
    · rw [hn']
      obtain ⟨h1, h2, h3⟩ := r2
      refine ⟨h1, Nat.le_trans h2 hle, ?_⟩
      rw [hφ, hw]; exact h3
  · exact r2.elim
theorem RefPt.turn (t : Turn h H φ h' H' φ') {n i off : Nat} {u : Value} (r : RefPt H φ n i off u) : RefPt H' φ' n i off u := by
  refine ⟨r.1, ?_⟩
  have r2 := r.2
  split at r2
  · rename_i hn; rw [t.dead n hn]; trivial
  · rename_i ob hn
    rcases t.live n _ hn with hd | ⟨ob', hn', hφ, hw, hle⟩
    · rw [hd]; trivial
    · rw [hn']
      simp only [hφ, hw]; exact r2
  · exact r2.elim
theorem RefMp.turn (t : Turn h H φ h' H' φ') {n : Nat} {u : Value} (r : RefMp H φ n u) : RefMp H' φ' n u := by
  refine ⟨r.1, ?_⟩
  have r2 := r.2
  split at r2
  · rename_i hn; rw [t.dead n hn]; trivial
  · rename_i ob hn
    rcases t.live n _ hn with hd | ⟨ob', hn', hφ, hw, hle⟩
    · rw [hd]; trivial
    · rw [hn']
      simp only [hφ]; exact r2
  · exact r2.elim
theorem RepE.turn (t : Turn h H φ h' H' φ') {x : A} {u : Value} (r : RepE h H φ x u) : RepE h' H' φ' x u := by
  induction r with
  | f x u r => exact .f x u (r.turn t.blk)
  | nl a => exact .nl a
  | un k u h1 h2 => exact .un k u h1 h2
  | row n lo hi u r => exact .row n lo hi u (r.turn t)
  | pt n i off u r => exact .pt n i off u (r.turn t)
  | mp n u r => exact .mp n u (r.turn t)
  | cl f caps cap hs hw hr ih => exact .cl f caps cap hs hw ih
theorem Turn.refl (h : Array Obj) (H : Hp) (φ : Phi) : Turn h H φ h H φ :=
  ⟨rfl, fun b _ hO => ⟨hO, rfl⟩, fun _ h => h, fun n ob hn => .inr ⟨ob, hn, rfl, rfl, Nat.le_refl _⟩⟩
theorem Turn.trans (s : Turn h H φ h' H' φ') (t : Turn h' H' φ' h'' H'' φ'') : Turn h H φ h'' H'' φ'' := by
  refine ⟨t.out.trans s.out, fun b hb hO => ?_, fun n hn => t.dead n (s.dead n hn), fun n ob hn => ?_⟩
  · obtain ⟨h1, h2⟩ := s.blk0 b hb hO
    obtain ⟨h3, h4⟩ := t.blk0 b (lt_of_same hb h2) h1
    exact ⟨h3, h4.trans h2⟩
  · rcases s.live n ob hn with hd | ⟨ob', hn', hφ, hw, hle⟩
    · exact .inl (t.dead n hd)
    · rcases t.live n _ hn' with hd | ⟨ob'', hn'', hφ', hw', hle'⟩
      · exact .inl hd
      · exact .inr ⟨ob'', hn'', hφ'.trans hφ, hw'.trans hw, Nat.le_trans hle hle'⟩
theorem RepA.keep (hE : ∀ x u, RepE h H φ x u → RepE h' H' φ' x u) {X : Place} {x : A} {u : Value} (r : RepA h H φ X x u) :
    ∀ X' : Place, (∀ q, φ' (X'.1, q ++ X'.2) = φ (X.1, q ++ X.2)) → (∀ q hd, φ (X.1, q ++ X.2) = some hd → h'[hd.b]? = h[hd.b]?) → RepA h' H' φ' X' x u := by
  induction r with
  | e X x u r => exact fun X' _ _ => .e X' x u (hE x u r)
  | nilo X wd a hw hX => exact fun X' hp hb => .nilo X' wd a hw ((hp []).trans hX)
  | ow X wd es hd c ty hX hb ok hr ih =>
    intro X' hp hk
    refine .ow X' wd es hd c ty ((hp []).trans hX) ((hk [] hd hX).trans hb) ok fun i e j x hi hj => ih i e j x hi hj _ (fun q => ?_) fun q hd hq => ?_
    · have := hp (q ++ [(i, j)])
      simpa using this
    · have := hk (q ++ [(i, j)]) hd
      exact this (by simpa using hq)
theorem ObOK.keep (hE : ∀ x u, RepE h H φ x u → RepE h' H' φ' x u) {n n' : Nat} {ob : Ob} (r : ObOK h H φ n ob) (hp : ∀ q, φ' (n', q) = φ (n, q)) (hb : ∀ q hd, φ (n, q) = some hd → h'[hd.b]? = h[hd.b]?) : ObOK h' H' φ' n' ob := by
  refine ⟨r.1, fun h4 => (r.row h4).imp (fun h => ⟨h.1, (hp []).trans h.2⟩) ?_, fun h4 => ?_⟩
  · rintro ⟨hd, c, ty, h1, h2, h3, h4, h5⟩
    exact ⟨hd, c, ty, (hp []).trans h1, (hb [] hd h1).trans h2, h3, h4, fun i e j x hi hj => (h5 i e j x hi hj).keep hE _ (fun q => hp _) fun q hd hq => hb _ hd hq⟩
  · obtain ⟨hd, es, ck, l, h1, h2, h3⟩ := r.2.2 h4
    exact ⟨hd, es, ck, l, (hp []).trans h1, (hb [] hd h1).trans h2, h3⟩
end
section
variable {h : Array Obj} {H : Hp} {φ : Phi}
def RepC (h : Array Obj) (H : Hp) (φ : Phi) : List A → List Value → Prop
  | [], [] => True
  | x :: xs, u :: us => RepE h H φ x u ∧ RepC h H φ xs us
  | _, _ => False
def RepV (h : Array Obj) (H : Hp) (φ : Phi) (ag : Bool) (cs : List A) (u : Value) : Prop :=
  match ag with
  | true => ∃ c, u = .agg c ∧ RepC h H φ cs c.toList
  | false => ∃ x, cs = [x] ∧ RepE h H φ x u
def RepVs (h : Array Obj) (H : Hp) (φ : Phi) : List (Bool × List A) → List Value → Prop
  | [], [] => True
  | x :: xs, u :: us => RepV h H φ x.1 x.2 u ∧ RepVs h H φ xs us
  | _, _ => False
def RepT (h : Array Obj) (H : Hp) (φ : Phi) : T → Value → Prop
  | .val ag cs, u => RepV h H φ ag cs u
  | .tu vs, u => ∃ us, u = .tuple us ∧ RepVs h H φ vs us.toList
  | .bot, _ => True
end
section
variable {h h' : Array Obj} {H H' : Hp} {φ φ' : Phi}
theorem RepC.mono (t : ∀ x u, RepE h H φ x u → RepE h' H' φ' x u) : ∀ {xs : List A} {us : List Value}, RepC h H φ xs us → RepC h' H' φ' xs us
  | [], [], _ => trivial
  | x :: xs, u :: us, r => ⟨t x u r.1, RepC.mono t r.2⟩
  | [], _ :: _, r => r.elim
  | _ :: _, [], r => r.elim
theorem RepV.mono (t : ∀ x u, RepE h H φ x u → RepE h' H' φ' x u) {ag : Bool} {cs : List A} {u : Value} (r : RepV h H φ ag cs u) : RepV h' H' φ' ag cs u := by
  cases ag with
  | true => obtain ⟨c, rfl, hc⟩ := r; exact ⟨c, rfl, hc.mono t⟩
  | false => obtain ⟨x, rfl, hx⟩ := r; exact ⟨x, rfl, t _ _ hx⟩
theorem RepVs.mono (t : ∀ x u, RepE h H φ x u → RepE h' H' φ' x u) : ∀ {xs : List (Bool × List A)} {us : List Value}, RepVs h H φ xs us → RepVs h' H' φ' xs us
  | [], [], _ => trivial
  | x :: xs, u :: us, r => ⟨RepV.mono t r.1, RepVs.mono t r.2⟩
  | [], _ :: _, r => r.elim
  | _ :: _, [], r => r.elim
theorem RepT.mono (t : ∀ x u, RepE h H φ x u → RepE h' H' φ' x u) {x : T} {u : Value} (r : RepT h H φ x u) : RepT h' H' φ' x u := by
  cases x with
  | val ag cs => exact RepV.mono t r
  | tu vs => obtain ⟨us, rfl, hu⟩ := r; exact ⟨us, rfl, hu.mono t⟩
  | bot => trivial
theorem RepC.length : ∀ {xs : List A} {us : List Value}, RepC h H φ xs us → us.length = xs.length
  | [], [], _ => rfl
  | _ :: _, _ :: _, r => congrArg (· + 1) (RepC.length r.2)
  | [], _ :: _, r => r.elim
  | _ :: _, [], r => r.elim
theorem RepC.at : ∀ {xs : List A} {us : List Value}, RepC h H φ xs us → ∀ {j : Nat} {x : A}, xs[j]? = some x → ∃ u, us[j]? = some u ∧ RepE h H φ x u
  | x :: xs, u :: us, r, 0, y, hy => by cases hy; exact ⟨u, rfl, r.1⟩
  | x :: xs, u :: us, r, j + 1, y, hy => RepC.at r.2 (j := j) hy
  | [], [], _, _, _, hy => by cases hy
  | [], _ :: _, r, _, _, _ => r.elim
  | _ :: _, [], r, _, _, _ => r.elim
theorem RepC.drop : ∀ {xs : List A} {us : List Value} (n : Nat), RepC h H φ xs us → RepC h H φ (xs.drop n) (us.drop n)
  | _, _, 0, r => r
  | [], [], _ + 1, _ => trivial
  | _ :: _, _ :: _, n + 1, r => RepC.drop n r.2
  | [], _ :: _, _ + 1, r => r.elim
  | _ :: _, [], _ + 1, r => r.elim
theorem RepC.take : ∀ {xs : List A} {us : List Value} (n : Nat), RepC h H φ xs us → RepC h H φ (xs.take n) (us.take n)
  | _, _, 0, _ => trivial
  | [], [], _ + 1, _ => trivial
  | _ :: _, _ :: _, n + 1, r => ⟨r.1, RepC.take n r.2⟩
  | [], _ :: _, _ + 1, r => r.elim
  | _ :: _, [], _ + 1, r => r.elim
theorem RepC.append : ∀ {xs : List A} {us : List Value} {ys : List A} {vs : List Value}, RepC h H φ xs us → RepC h H φ ys vs → RepC h H φ (xs ++ ys) (us ++ vs)
  | [], [], _, _, _, r => r
  | _ :: _, _ :: _, _, _, q, r => ⟨q.1, RepC.append q.2 r⟩
  | [], _ :: _, _, _, q, _ => q.elim
  | _ :: _, [], _, _, q, _ => q.elim
theorem RepC.one : ∀ {cs : List A} {us : List Value}, RepC h H φ cs us → ∀ u ∈ us, u.oneCell' = true
  | [], [], _, _, hu => by cases hu
  | x :: xs, u :: us, r, v, hv => by
    rcases List.mem_cons.1 hv with rfl | hv
    · exact r.1.one
    · exact RepC.one r.2 v hv
  | [], _ :: _, r, _, _ => r.elim
  | _ :: _, [], r, _, _ => r.elim
theorem RepC_of : ∀ {xs : List A} (f : Nat → Value), (∀ j x, xs[j]? = some x → RepE h H φ x (f j)) → RepC h H φ xs ((List.range xs.length).map f)
  | [], _, _ => trivial
  | x :: xs, f, hf => by
    rw [List.length_cons, List.range_succ_eq_map, List.map_cons, List.map_map]
    exact ⟨hf 0 x rfl, RepC_of (f ∘ Nat.succ) fun j y hy => hf (j + 1) y hy⟩
theorem rep_one {x : A} {u : Value} (r : RepT h H φ (.val false [x]) u) : RepE h H φ x u := by
  obtain ⟨y, hy, r⟩ := r
  cases hy; exact r
theorem cells_one {u : Value} (hu : u.oneCell' = true) : u.cells = #[u] := by cases u <;> first | rfl | cases hu
theorem rep_cells {ag : Bool} {cs : List A} {u : Value} (r : RepV h H φ ag cs u) : RepC h H φ cs u.cells.toList := by
  cases ag with
  | true => obtain ⟨c, rfl, hc⟩ := r; exact hc
  | false => obtain ⟨x, rfl, hx⟩ := r; rw [cells_one hx.one]; exact ⟨hx, trivial⟩
end
end Go.Proofs.YtecnmodeggnjoaaGreat.Ac
