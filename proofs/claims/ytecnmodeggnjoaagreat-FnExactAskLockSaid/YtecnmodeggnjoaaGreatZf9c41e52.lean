/- Several of our texts, one behind the other, without what this claim does not need: AcV. -/
import Derived.Test.YtecnmodeggnjoaaGreatZ28794576
set_option linter.unusedVariables false
set_option linter.unusedSimpArgs false
namespace Go.Proofs.YtecnmodeggnjoaaGreat.Ac
open Go.RowKit
def rdAll : List Nat → Hs → (Hs → Out) → Out
  | [], acc, κ => κ acc
  | n :: l, acc, κ => .rd n fun o => match o with
    | some o => rdAll l ((n, o) :: acc) κ
    | none => rdAll l acc κ
theorem rdAll_elim {sq : Bool} {g : Hp} {q : Eff → Prop} {κ : Hs → Out} : ∀ (l : List Nat) (acc : Hs) (rs : List Nat), (∀ n, get acc n = none ∨ get acc n = g n) → (rdAll l acc κ).K sq g rs q →
    ∃ loc rs', (κ loc).K sq g rs' q ∧ (∀ n, get loc n = none ∨ get loc n = g n) ∧ (∀ n, get acc n ≠ none → get loc n ≠ none) ∧ ∀ n ∈ l, get loc n = g n
  | [], acc, rs, ha, h => ⟨acc, rs, h, ha, fun _ h => h, fun n hn => by cases hn⟩
  | n :: l, acc, rs, ha, h => by
    simp only [rdAll, Out.K] at h
    split at h
    · rename_i o ho
      have ha' : ∀ m, get ((n, o) :: acc) m = none ∨ get ((n, o) :: acc) m = g m := fun m => by
        simp only [get]
        cases hb : Nat.beq n m
        · exact ha m
        · rw [← Nat.eq_of_beq_eq_true hb, ho]; exact .inr rfl
      obtain ⟨loc, rs', h1, h2, h3, h4⟩ := rdAll_elim l _ _ ha' h
      refine ⟨loc, rs', h1, h2, fun m hm => h3 m ?_, fun m hm => ?_⟩
      · simp only [get]
        cases hb : Nat.beq n m
        · exact hm
        · simp
      · rcases List.mem_cons.1 hm with rfl | hm
        · have : get loc m ≠ none := h3 m (by simp [get])
          exact (h2 m).resolve_left this
        · exact h4 m hm
    · rename_i ho
      obtain ⟨loc, rs', h1, h2, h3, h4⟩ := rdAll_elim l _ _ ha h
      refine ⟨loc, rs', h1, h2, h3, fun m hm => ?_⟩
      rcases List.mem_cons.1 hm with rfl | hm
      · rcases h2 m with h | h
        · rw [h, ho]
        · exact h
      · exact h4 m hm
section
variable {fz : Bool} {r : List (Nat × Nat)} {g1 g : Hp} {hs' : Hs} (hg : ∀ n, g1 n = none ∨ g1 n = g n) (hr : ∀ n, hasN hs' n = true → g1 (rn r n) = g (rn r n))
include hg
theorem up_some {n : Nat} {o : Option Ob} (h : g1 n = some o) : g n = some o := by
  rcases hg n with h' | h'
  · rw [h'] at h; cases h
  · rw [← h']; exact h
theorem gone_up {m : Nat} {ob : Ob} (h : gone r g1 hs' m ob) : gone r g hs' m ob := ⟨up_some hg h.1, h.2⟩
omit hg in
theorem Frz.imp {K K' : Nat → Ob → Prop} (hK : ∀ m ob, K m ob → K' m ob) {x : A} {y : L} (h : Frz K x y) : Frz K' x y := by
  induction h with
  | f x => exact .f x
  | nl wd => exact .nl wd
  | ow wd es ls hlen hl hh ih => exact .ow wd es ls hlen hl ih
  | row m lo hi ob ls hm hlen hl hh ih => exact .row m lo hi ob ls (hK _ _ hm) hlen hl ih
  | pt n i off ob e ls hn hne he hlen hh ih => exact .pt n i off ob e ls (hK _ _ hn) hne he hlen ih
omit hg in
theorem frzC.imp {K K' : Nat → Ob → Prop} (hK : ∀ m ob, K m ob → K' m ob) : ∀ {xs : List A} {ys : List L}, frzC K xs ys → frzC K' xs ys
  | _, [], _ => by unfold frzC; trivial
  | x :: xs, y :: ys, h => ⟨h.1.imp hK, frzC.imp hK h.2⟩
  | [], _ :: _, h => h.elim
theorem FrzN_up {m lo hi wd : Nat} {ls : List (List L)} (h : FrzN r g1 hs' m lo hi wd ls) : FrzN r g hs' m lo hi wd ls := by
  unfold FrzN at h ⊢
  split at h
  · rename_i ob hn
    rw [up_some hg hn]
    obtain ⟨h1, h2, h3, h4⟩ := h
    exact ⟨h1, h2, ⟨h3.1, h3.2.1, fun i e l j x y a b c d => (h3.2.2 i e l j x y a b c d).imp fun m ob => gone_up hg⟩, h4⟩
  · exact h.elim
theorem FrzP_up {n i off : Nat} {ls : List L} (h : FrzP r g1 hs' n i off ls) : FrzP r g hs' n i off ls := by
  unfold FrzP at h ⊢
  split at h
  · rename_i ob hn
    rw [up_some hg hn]
    obtain ⟨h1, h2, ⟨e, h3, h4⟩, h5⟩ := h
    exact ⟨h1, h2, ⟨e, h3, h4.imp fun m ob => gone_up hg⟩, h5⟩
  · exact h.elim
theorem bzA_up {x : A} {l : L} (h : bzA r g1 hs' x l) : bzA r g hs' x l := by
  unfold bzA at h ⊢
  split at h
  · exact h
  · exact h
  · exact FrzN_up hg h
  · exact FrzP_up hg h
  · exact h.elim
theorem bzC_up : ∀ {xs : List A} {ls : List L}, bzC r g1 hs' xs ls → bzC r g hs' xs ls
  | [], [], _ => trivial
  | _ :: _, _ :: _, h => ⟨bzA_up hg h.1, bzC_up h.2⟩
  | [], _ :: _, h => h.elim
  | _ :: _, [], h => h.elim
theorem bzP_up : ∀ {xs : List (Bool × List A)} {ls : List (Bool × List L)}, bzP r g1 hs' xs ls → bzP r g hs' xs ls
  | [], [], _ => trivial
  | _ :: _, _ :: _, h => ⟨h.1, bzC_up hg h.2.1, bzP_up h.2.2⟩
  | [], _ :: _, h => h.elim
  | _ :: _, [], h => h.elim
include hr
theorem tlA_up {x y : A} (hi : inA hs' y = true) (h : tlA fz r g1 hs' x y) : tlA fz r g hs' x y := by
  have cz : ∀ {p q : Prop}, (p → q) → cond fz p False → cond fz q False := fun {p q} hpq hp => by
    cases fz
    · exact hp
    · exact hpq hp
  unfold tlA at h ⊢
  split at h
  · trivial
  · exact h
  · exact cz (fun h => ⟨h.1, bzP_up hg h.2⟩) h
  · exact cz (bzA_up hg) h
  · obtain ⟨h1, h2, h3⟩ := h
    exact ⟨h1, h2, (hr _ (by simpa [inA] using hi)).symm.trans h3⟩
  · obtain ⟨h1, h2⟩ := h
    refine ⟨h1, ?_⟩
    split at h2
    · rename_i ob hn; rw [up_some hg hn]; trivial
    · exact h2.elim
  · exact h
theorem tlC_up : ∀ {xs ys : List A}, inC hs' ys = true → tlC fz r g1 hs' xs ys → tlC fz r g hs' xs ys
  | [], [], _, _ => trivial
  | x :: xs, y :: ys, hi, h => by
    simp only [inC, Bool.and_eq_true] at hi
    exact ⟨tlA_up hg hr hi.1 h.1, tlC_up hi.2 h.2⟩
  | [], _ :: _, _, h => h.elim
  | _ :: _, [], _, h => h.elim
theorem tlR_up : ∀ {xs ys : List (List A)}, inR hs' ys = true → tlR fz r g1 hs' xs ys → tlR fz r g hs' xs ys
  | [], [], _, _ => trivial
  | x :: xs, y :: ys, hi, h => by
    simp only [inR, Bool.and_eq_true] at hi
    exact ⟨tlC_up hg hr hi.1 h.1, tlR_up hi.2 h.2⟩
  | [], _ :: _, _, h => h.elim
  | _ :: _, [], _, h => h.elim
theorem tlO_up {n : Nat} {o : Option Ob} (hn : hasN hs' n = true) (hi : inO hs' o = true) (h : tlO fz r g1 hs' n o) : tlO fz r g hs' n o := by
  unfold tlO at h ⊢
  cases o with
  | none => trivial
  | some ob' =>
    dsimp only at h ⊢
    rw [← hr n hn]
    split at h
    · rename_i ob hg'
      refine ⟨h.1, h.2.1, ?_⟩
      have h2 := h.2.2
      dsimp only [inO] at hi
      cases hb : Nat.beq ob'.fl 3
      · rw [hb] at h2; exact h2
      · rw [hb] at h2 hi; exact tlR_up hg hr hi h2
    · exact h.elim
    · exact h
theorem subH_up (hO : hs'.all (fun x => inO hs' x.2) = true) : ∀ (l : Hs), (∀ x ∈ l, x ∈ hs') → subH fz r g1 hs' l → subH fz r g hs' l
  | [], _, _ => trivial
  | (n, o) :: l, hl, h => by
    refine ⟨?_, subH_up hO l (fun x hx => hl x (List.mem_cons_of_mem _ hx)) h.2⟩
    have hm := hl _ List.mem_cons_self
    refine tlO_up hg hr ?_ (List.all_eq_true.1 hO _ hm) h.1
    unfold hasN
    cases hgt : get hs' n with
    | some _ => rfl
    | none =>
      exfalso
      have : ∀ (l : Hs), (n, o) ∈ l → get l n ≠ none := by
        intro l
        induction l with
        | nil => intro h; cases h
        | cons y l ih =>
          intro h
          simp only [get]
          cases hb : Nat.beq y.1 n
          · rcases List.mem_cons.1 h with rfl | h
            · simp at hb
            · exact ih h
          · simp
      exact this hs' hm hgt
end
def tlTs (fz : Bool) (r : List (Nat × Nat)) (g : Hp) (hs' : Hs) : List T → List (Bool × List A) → Prop
  | [], [] => True
  | .val ag cs :: xs, y :: ys => ag = y.1 ∧ tlC fz r g hs' cs y.2 ∧ tlTs fz r g hs' xs ys
  | _, _ => False
structure CallD where
  fz : Bool
  r : List (Nat × Nat)
  H0 : Hs
  args : List (Bool × List A)
  H1 : Hs
  res : List (Bool × List A)
def nmL (d : Nat) (H0 : Hs) (r : List (Nat × Nat)) (H1 : Hs) : List (Nat × Nat) := H1.map fun x => (x.1, cond (hasN H0 x.1) (rn r x.1) (16 * (d + 1) + (x.1 - 1000)))
def frK : List Nat → Out → Out
  | [], o => o
  | n :: l, o => .rd n fun x => match x with
    | none => frK l o
    | some _ => .no
def natK (n : Nat) (κ : Nat → Out) : Out := match n with
  | 0 => κ 0
  | m + 1 => κ (m + 1)
theorem natK_eq {n : Nat} {κ : Nat → Out} : natK n κ = κ n := by cases n <;> rfl
def nmK : List (Nat × Nat) → (List (Nat × Nat) → Out) → Out
  | [], κ => κ []
  | (a, b) :: l, κ => natK a fun a => natK b fun b => nmK l fun l => κ ((a, b) :: l)
theorem nmK_eq : ∀ {l : List (Nat × Nat)} {κ : List (Nat × Nat) → Out}, nmK l κ = κ l
  | [], κ => rfl
  | (a, b) :: l, κ => by rw [nmK, natK_eq, natK_eq, nmK_eq]
mutual
def rnAK {β : Type} (r : List (Nat × Nat)) : A → (A → Out) → Out
  | .f x, κ => κ (.f x)
  | .nl, κ => κ .nl
  | .un k, κ => κ (.un k)
  | .row n lo hi, κ => natK (rn r n) fun n => κ (.row n lo hi)
  | .pt n i off, κ => natK (rn r n) fun n => κ (.pt n i off)
  | .mp n, κ => natK (rn r n) fun n => κ (.mp n)
  | .ow wd es, κ => κ (.ow wd (rnR r es))
  | .cl f caps, κ => κ (.cl f (rnP r caps))
end
def rnCK (r : List (Nat × Nat)) : List A → (List A → Out) → Out
  | [], κ => κ []
  | x :: l, κ => rnAK (β := Unit) r x fun y => rnCK r l fun ys => κ (y :: ys)
def rnVK (r : List (Nat × Nat)) : List (Bool × List A) → (List (Bool × List A) → Out) → Out
  | [], κ => κ []
  | (ag, cs) :: l, κ => rnCK r cs fun cs => rnVK r l fun l => κ ((ag, cs) :: l)
def rnHK (r : List (Nat × Nat)) : Hs → (Hs → Out) → Out
  | [], κ => κ []
  | (n, none) :: l, κ => natK (rn r n) fun n => rnHK r l fun l => κ ((n, none) :: l)
  | (n, some ⟨fl, wd, es⟩) :: l, κ => natK (rn r n) fun n => cond (Nat.beq fl 3) (match es with
    | [e] => rnCK r e fun e => rnHK r l fun l => κ ((n, some ⟨fl, wd, [e]⟩) :: l)
    | _ => .no) (rnHK r l fun l => κ ((n, some ⟨fl, wd, es⟩) :: l))
def resO (d : Nat) (H0 : Hs) (r : List (Nat × Nat)) (H1 : Hs) (res : List (Bool × List A)) : Out := cond (nodupB ((nmL d H0 r H1).map (·.2))) (frK ((H1.filter fun x => !hasN H0 x.1).map fun x => 16 * (d + 1) + (x.1 - 1000)) (nmK (nmL d H0 r H1) fun ns => rnVK ns res fun res => rnHK ns H1 fun u => .ok (resT res) u)) .no
def nmA : A → List Nat
  | .row n _ _ => [n]
  | .pt n _ _ => [n]
  | .mp n => [n]
  | .cl _ caps => go caps
  | _ => []
where
  go : List (Bool × List A) → List Nat
    | [] => []
    | (_, cs) :: l => goC cs ++ go l
  goC : List A → List Nat
    | [] => []
    | .row n _ _ :: l => n :: goC l
    | .pt n _ _ :: l => n :: goC l
    | .mp n :: l => n :: goC l
    | _ :: l => goC l
def nmTs : List T → List Nat
  | [] => []
  | .val _ cs :: l => cs.flatMap nmA ++ nmTs l
  | _ :: l => nmTs l
def fzCO : List A → Option (List L)
  | [] => some []
  | .f x :: l => match fzCO l with
    | some r => some (x :: r)
    | none => none
  | _ :: _ => none
def fzTs : List T → Option (List (Bool × List L))
  | [] => some []
  | .val ag cs :: l => match fzCO cs, fzTs l with
    | some c, some r => some ((ag, c) :: r)
    | _, _ => none
  | _ :: _ => none
def nestN : Hs → List Nat
  | [] => []
  | (_, some ⟨fl, _, es⟩) :: l => cond (Nat.beq fl 3) (match es with
    | [e] => e.flatMap nmA ++ nestN l
    | _ => nestN l) (nestN l)
  | (_, none) :: l => nestN l
def callO (P : Program) (f : FuncId) (d : Nat) (vals : List T) : Out := match fzTs vals with
  | some args => .ex (α := Hs × List (Bool × List A)) (fun x => FC P f args x.1 x.2) fun x => resO d [] [] x.1 x.2
  | none => .ex (α := CallD) (fun c => GCalls P f c.H0 c.args c.H1 c.res) fun c => match c with
    | ⟨fz, r, H0, args, H1, res⟩ => cond (inP H0 args && H0.all (fun x => inO H0 x.2) && nodupB (H0.map fun x => rn r x.1)) (rdAll (nmTs vals ++ H0.map fun x => rn r x.1) [] fun loc1 => rdAll (nestN loc1) loc1 fun loc =>
      .con (tlTs fz r (get loc) H0 vals args ∧ subH fz r (get loc) H0 H0 ∧ cond fz (plVs res ∧ plH H1) True) (resO d H0 r H1 res)) .no
end Go.Proofs.YtecnmodeggnjoaaGreat.Ac
