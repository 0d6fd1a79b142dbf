/- Several of our texts, one behind the other, without what this claim does not need: AcLem, AcId, Rc. -/
import Derived.Test.YtecnmodeggnjoaaGreatZ6449aa40
set_option linter.unusedVariables false
set_option linter.unusedSimpArgs false
namespace Go.Proofs.YtecnmodeggnjoaaGreat.Ac
open Go.RowKit
def I64 (z : Int) : Prop := -2 ^ 63 ≤ z ∧ z < 2 ^ 63
structure Nd where
  id : Int
  kind : Int
  attr : Int
  text : ByteArray
  kids : List Int
structure Dc where
  root : Int
  next : Int
  nodes : List Nd
def ListIn {α : Type} (p : α → Prop) (l : List α) : Prop := l.length < 2 ^ 63 ∧ ∀ x ∈ l, p x
def NdIn (n : Nd) : Prop := I64 n.id ∧ I64 n.kind ∧ I64 n.attr ∧ n.text.size < 2 ^ 63 ∧ ListIn I64 n.kids
def DcIn (d : Dc) : Prop := I64 d.root ∧ I64 d.next ∧ ListIn NdIn d.nodes
theorem DcIn.len {d : Dc} (h : DcIn d) : d.nodes.length < 2 ^ 63 := h.2.2.1
theorem DcIn.txt {d : Dc} (h : DcIn d) : ∀ n ∈ d.nodes, n.text.size < 2 ^ 63 := fun n hn => (h.2.2.2 n hn).2.2.2.1
theorem DcIn.kid {d : Dc} (h : DcIn d) : ∀ n ∈ d.nodes, n.kids.length < 2 ^ 63 := fun n hn => (h.2.2.2 n hn).2.2.2.2.1
@[reducible] def iL (z : Int) : L := .v (.int .i64 z)
@[reducible] def bL (b : Bool) : L := .v (.bool b)
@[reducible] def sL (s : ByteArray) : L := .v (.string s)
@[reducible] def intE (z : Int) : List L := [iL z]
@[reducible] def txtE (s : ByteArray) : List L := [sL s]
@[reducible] def intW (z : Int) : List A := [.f (iL z)]
@[reducible] def txtW (s : ByteArray) : List A := [.f (sL s)]
def ints (l : List Int) : L := .sl 1 (l.map intE)
def txts (l : List ByteArray) : L := .sl 1 (l.map txtE)
def ndL (n : Nd) : List L := [iL n.id, iL n.kind, iL n.attr, sL n.text, ints n.kids]
def nds (l : List Nd) : L := .sl 5 (l.map ndL)
def dcL (d : Dc) : List L := [iL d.root, iL d.next, nds d.nodes]
def szL (s : Nat) (left : Int) : Int := if (s : Int) ≤ left then left - s else -1
def szN (n : Nd) : Nat := n.text.size + n.kids.length
def szNs (l : List Nd) : Nat := (l.map szN).sum
theorem szNs_cons (n : Nd) (l : List Nd) : szNs (n :: l) = szN n + szNs l := by simp [szNs]
def szD (d : Dc) : Nat := d.nodes.length + szNs d.nodes
theorem szN_le : ∀ {l : List Nd} {n : Nd}, n ∈ l → szN n ≤ szNs l
  | m :: l, n, h => by
    rw [szNs_cons]
    rcases List.mem_cons.1 h with rfl | h
    · omega
    · have := szN_le h; omega
def ndW (n : Nd) : List A := [.f (iL n.id), .f (iL n.kind), .f (iL n.attr), .f (sL n.text), .ow 1 (n.kids.map intW)]
theorem wrap_suc {i : Nat} (h : i < 2 ^ 62) : IntKind.i64.wrap ((i : Int) + 1) = ((i + 1 : Nat) : Int) := by
  rw [IntKind.wrap_i64]; omega
theorem wrap_nat {i : Nat} (h : i < 2 ^ 62) : IntKind.i64.wrap (i : Int) = i := by
  rw [IntKind.wrap_i64]; omega
theorem wrap_id {z : Int} (h : -2 ^ 63 ≤ z ∧ z < 2 ^ 63) : IntKind.i64.wrap z = z := by
  rw [IntKind.wrap_i64]; omega
theorem cl_map {α : Type} {f : α → List A} (hf : ∀ x, clC (f x)) : ∀ l : List α, clR (l.map f)
  | [] => trivial
  | x :: l => ⟨hf x, cl_map hf l⟩
theorem cl_app : ∀ {l l' : List (List A)}, clR l → clR l' → clR (l ++ l')
  | [], _, _, h => h
  | _ :: _, _, h, h' => ⟨h.1, cl_app h.2 h'⟩
theorem cl_ints (l : List Int) : clR (l.map intW) := cl_map (f := intW) (fun _ => ⟨trivial, trivial⟩) l
theorem cl_txts (l : List ByteArray) : clR (l.map txtW) := cl_map (f := txtW) (fun _ => ⟨trivial, trivial⟩) l
theorem cl_nds (l : List Nd) : clR (l.map ndW) := cl_map (f := ndW) (fun n => ⟨trivial, trivial, trivial, trivial, cl_ints n.kids, trivial⟩) l
theorem pl_map {α : Type} {f : α → List A} (hf : ∀ x, plC (f x)) : ∀ l : List α, plR (l.map f)
  | [] => trivial
  | x :: l => ⟨hf x, pl_map hf l⟩
theorem pl_ints (l : List Int) : plR (l.map intW) := pl_map (f := intW) (fun _ => ⟨trivial, trivial⟩) l
theorem pl_txts (l : List ByteArray) : plR (l.map txtW) := pl_map (f := txtW) (fun _ => ⟨trivial, trivial⟩) l
theorem pl_nds (l : List Nd) : plR (l.map ndW) := pl_map (f := ndW) (fun n => ⟨trivial, trivial, trivial, trivial, pl_ints n.kids, trivial⟩) l
theorem frz_map {K : Nat → Ob → Prop} {α : Type} {f : α → List A} {f' : α → List L} (hl : ∀ x, (f x).length = (f' x).length) (hf : ∀ x (j : Nat) a b, (f x)[j]? = some a → (f' x)[j]? = some b → Frz K a b) (l : List α) : FrzR K (l.map f) (l.map f') := by
  refine ⟨by simp, fun i e l' he hl' => ?_, fun i e l' j a b he hl' => ?_⟩ <;> rw [List.getElem?_map] at he hl' <;> cases hq : l[i]? with
  | none => rw [hq] at he; cases he
  | some x =>
    rw [hq] at he hl'
    cases he; cases hl'
    first | exact hl x | exact hf x j a b
theorem frz_ints {K : Nat → Ob → Prop} (l : List Int) : FrzR K (l.map intW) (l.map intE) := frz_map (f := intW) (f' := intE) (fun _ => rfl) (fun x j a b h1 h2 => by
  cases j with
  | zero => cases h1; cases h2; exact .f _
  | succ j => simp at h1) l
theorem frz_txts {K : Nat → Ob → Prop} (l : List ByteArray) : FrzR K (l.map txtW) (l.map txtE) := frz_map (f := txtW) (f' := txtE) (fun _ => rfl) (fun x j a b h1 h2 => by
  cases j with
  | zero => cases h1; cases h2; exact .f _
  | succ j => simp at h1) l
theorem frz_ow {K : Nat → Ob → Prop} {wd : Nat} {es : List (List A)} {ls : List (List L)} (h : FrzR K es ls) : Frz K (.ow wd es) (.sl wd ls) := .ow wd es ls h.1 h.2.1 h.2.2
theorem frz_nds {K : Nat → Ob → Prop} (l : List Nd) : FrzR K (l.map ndW) (l.map ndL) := frz_map (f := ndW) (f' := ndL) (fun _ => rfl) (fun x j a b h1 h2 => by
  match j with
  | 0 => cases h1; cases h2; exact .f _
  | 1 => cases h1; cases h2; exact .f _
  | 2 => cases h1; cases h2; exact .f _
  | 3 => cases h1; cases h2; exact .f _
  | 4 => cases h1; cases h2; exact frz_ow (frz_ints _)
  | j + 5 => simp [ndW] at h1) l
theorem tl_int {fz : Bool} {r : List (Nat × Nat)} {g : Hp} {hs' : Hs} {k : IntKind} {a b : Int} (h : a = b) : tlA fz r g hs' (.f (.v (.int k a))) (.f (.v (.int k b))) := congrArg (fun z => L.v (.int k z)) h
theorem tl_bool {fz : Bool} {r : List (Nat × Nat)} {g : Hp} {hs' : Hs} {a b : Bool} (h : a = b) : tlA fz r g hs' (.f (.v (.bool a))) (.f (.v (.bool b))) := congrArg (fun z => L.v (.bool z)) h
theorem tl_str {fz : Bool} {r : List (Nat × Nat)} {g : Hp} {hs' : Hs} {a b : ByteArray} (h : a = b) : tlA fz r g hs' (.f (.v (.string a))) (.f (.v (.string b))) := congrArg (fun z => L.v (.string z)) h
theorem tl_f {fz : Bool} {r : List (Nat × Nat)} {g : Hp} {hs' : Hs} {a b : L} (h : a = b) : tlA fz r g hs' (.f a) (.f b) := h
theorem tl_row {fz : Bool} {r : List (Nat × Nat)} {g : Hp} {hs' : Hs} {n m lo hi hi' : Nat} (hn : rn r m = n) (h : hi = hi') : tlA fz r g hs' (.row n lo hi) (.row m lo hi') := by
  subst hn; subst h; rfl
theorem app_row {α : Type} (f : α → List A) (l m : List α) : (l.map f).take l.length ++ m.map f = (l ++ m).map f := by
  rw [List.take_of_length_le (by simp), List.map_append]
theorem app_one {α : Type} (f : α → List A) (l : List α) (x : α) : (l.map f).take l.length ++ [f x] = (l ++ [x]).map f := app_row f l [x]
theorem b_true {p : Prop} [Decidable p] (h : p) : true = decide p := (decide_eq_true h).symm
theorem b_false {p : Prop} [Decidable p] (h : ¬ p) : false = decide p := (decide_eq_false h).symm
theorem frzC_map {K : Nat → Ob → Prop} : ∀ x : List L, frzC K (x.map .f) x
  | [] => trivial
  | y :: x => ⟨.f y, frzC_map x⟩
section
variable {r : List (Nat × Nat)} {g : Hp} {hs' : Hs}
theorem tl_pt {n fl wd off : Nat} {e : List A} {x : List L} (hn : g n = some (some ⟨fl, wd, [e]⟩)) (h4 : Nat.beq fl 4 = false) (hk : kept r hs' n = false) (hx : x ≠ []) (hf : frzC (gone r g hs') (e.drop off) x) : tlA true r g hs' (.pt n 0 off) (.f (.pv x)) := by
  show FrzP r g hs' n 0 off x
  unfold FrzP
  rw [hn]
  exact ⟨hx, h4, ⟨e, rfl, hf⟩, hk⟩
theorem tl_pv {n fl wd : Nat} {x : List L} (hn : g n = some (some ⟨fl, wd, [x.map .f]⟩)) (h4 : Nat.beq fl 4 = false) (hk : kept r hs' n = false) (hx : x ≠ []) : tlA true r g hs' (.pt n 0 0) (.f (.pv x)) := tl_pt hn h4 hk hx (frzC_map x)
theorem tl_fz {n fl wd lo hi : Nat} {es : List (List A)} {ls : List (List L)} (hn : g n = some (some ⟨fl, wd, es⟩)) (h4 : Nat.beq fl 4 = false) (hk : kept r hs' n = false) (hf : FrzR (gone r g hs') ((es.take hi).drop lo) ls) : tlA true r g hs' (.row n lo hi) (.f (.sl wd ls)) := by
  show FrzN r g hs' n lo hi wd ls
  unfold FrzN
  rw [hn]
  exact ⟨rfl, h4, hf, hk⟩
theorem take_all {α : Type} {l : List α} {n : Nat} (h : n = l.length) : (l.take n).drop 0 = l := by rw [h, List.take_length, List.drop_zero]
theorem tl_ints {n fl hi : Nat} {l : List Int} (hn : g n = some (some ⟨fl, 1, l.map intW⟩)) (h4 : Nat.beq fl 4 = false) (hk : kept r hs' n = false) (hi' : hi = l.length) : tlA true r g hs' (.row n 0 hi) (.f (ints l)) :=
  tl_fz hn h4 hk (by rw [take_all (by simpa using hi')]; exact frz_ints l)
theorem tl_txts {n fl hi : Nat} {l : List ByteArray} (hn : g n = some (some ⟨fl, 1, l.map txtW⟩)) (h4 : Nat.beq fl 4 = false) (hk : kept r hs' n = false) (hi' : hi = l.length) : tlA true r g hs' (.row n 0 hi) (.f (txts l)) :=
  tl_fz hn h4 hk (by rw [take_all (by simpa using hi')]; exact frz_txts l)
theorem tl_nds {n fl hi : Nat} {l : List Nd} (hn : g n = some (some ⟨fl, 5, l.map ndW⟩)) (h4 : Nat.beq fl 4 = false) (hk : kept r hs' n = false) (hi' : hi = l.length) : tlA true r g hs' (.row n 0 hi) (.f (nds l)) :=
  tl_fz hn h4 hk (by rw [take_all (by simpa using hi')]; exact frz_nds l)
end
end Go.Proofs.YtecnmodeggnjoaaGreat.Ac
set_option linter.unusedVariables false
namespace Go.Proofs.YtecnmodeggnjoaaGreat.Ac
theorem tl_id {fz : Bool} {r : List (Nat × Nat)} {g : Hp} {hs' : Hs} {x y : A} (h : tlA fz r g hs' x y) : tlA fz r g hs' x y := h
end Go.Proofs.YtecnmodeggnjoaaGreat.Ac
set_option linter.unusedVariables false
set_option linter.unusedSimpArgs false
set_option maxRecDepth 20000
set_option maxHeartbeats 20000000
namespace Go.Proofs.YtecnmodeggnjoaaGreat.Ac
open Go.RowKit
structure Tm where
  kinds : List Int
  many : Int
def tmL (x : Tm) : List L := [ints x.kinds, iL x.many]
def tmW (x : Tm) : List A := [.ow 1 (x.kinds.map intW), .f (iL x.many)]
@[reducible] def zTm : List A := [.nl, .f (iL 0)]
def tms (l : List Tm) : L := .sl 2 (l.map tmL)
theorem cl_tms (l : List Tm) : clR (l.map tmW) := cl_map (f := tmW) (fun x => ⟨cl_ints _, trivial, trivial⟩) l
theorem pl_tms (l : List Tm) : plR (l.map tmW) := pl_map (f := tmW) (fun x => ⟨pl_ints _, trivial, trivial⟩) l
theorem frz_tms {K : Nat → Ob → Prop} (l : List Tm) : FrzR K (l.map tmW) (l.map tmL) := frz_map (f := tmW) (f' := tmL) (fun _ => rfl) (fun x j a b h1 h2 => by
  match j with
  | 0 => cases h1; cases h2; exact frz_ow (frz_ints _)
  | 1 => cases h1; cases h2; exact .f _
  | j + 2 => simp [tmW] at h1) l
theorem tl_tms {r : List (Nat × Nat)} {g : Hp} {hs' : Hs} {n fl hi : Nat} {l : List Tm} (hn : g n = some (some ⟨fl, 2, l.map tmW⟩)) (h4 : Nat.beq fl 4 = false) (hk : kept r hs' n = false) (hi' : hi = l.length) : tlA true r g hs' (.row n 0 hi) (.f (tms l)) :=
  tl_fz hn h4 hk (by rw [take_all (by simpa using hi')]; exact frz_tms l)
structure Ru where
  name : ByteArray
  leaf : Bool
  terms : List Tm
def ruL (x : Ru) : List L := [sL x.name, bL x.leaf, tms x.terms]
def ruW (x : Ru) : List A := [.f (sL x.name), .f (bL x.leaf), .ow 2 (x.terms.map tmW)]
@[reducible] def zRu : List A := [.f (sL ⟨#[]⟩), .f (bL false), .nl]
def rus (l : List Ru) : L := .sl 3 (l.map ruL)
theorem cl_rus (l : List Ru) : clR (l.map ruW) := cl_map (f := ruW) (fun x => ⟨trivial, trivial, cl_tms _, trivial⟩) l
theorem pl_rus (l : List Ru) : plR (l.map ruW) := pl_map (f := ruW) (fun x => ⟨trivial, trivial, pl_tms _, trivial⟩) l
theorem frz_rus {K : Nat → Ob → Prop} (l : List Ru) : FrzR K (l.map ruW) (l.map ruL) := frz_map (f := ruW) (f' := ruL) (fun _ => rfl) (fun x j a b h1 h2 => by
  match j with
  | 0 => cases h1; cases h2; exact .f _
  | 1 => cases h1; cases h2; exact .f _
  | 2 => cases h1; cases h2; exact frz_ow (frz_tms _)
  | j + 3 => simp [ruW] at h1) l
theorem tl_rus {r : List (Nat × Nat)} {g : Hp} {hs' : Hs} {n fl hi : Nat} {l : List Ru} (hn : g n = some (some ⟨fl, 3, l.map ruW⟩)) (h4 : Nat.beq fl 4 = false) (hk : kept r hs' n = false) (hi' : hi = l.length) : tlA true r g hs' (.row n 0 hi) (.f (rus l)) :=
  tl_fz hn h4 hk (by rw [take_all (by simpa using hi')]; exact frz_rus l)
structure Ed where
  kind : Int
  node : Int
  a : Int
  b : Int
  text : ByteArray
def edL (x : Ed) : List L := [iL x.kind, iL x.node, iL x.a, iL x.b, sL x.text]
def edW (x : Ed) : List A := [.f (iL x.kind), .f (iL x.node), .f (iL x.a), .f (iL x.b), .f (sL x.text)]
@[reducible] def zEd : List A := [.f (iL 0), .f (iL 0), .f (iL 0), .f (iL 0), .f (sL ⟨#[]⟩)]
def eds (l : List Ed) : L := .sl 5 (l.map edL)
theorem cl_eds (l : List Ed) : clR (l.map edW) := cl_map (f := edW) (fun x => ⟨trivial, trivial, trivial, trivial, trivial, trivial⟩) l
theorem pl_eds (l : List Ed) : plR (l.map edW) := pl_map (f := edW) (fun x => ⟨trivial, trivial, trivial, trivial, trivial, trivial⟩) l
theorem frz_eds {K : Nat → Ob → Prop} (l : List Ed) : FrzR K (l.map edW) (l.map edL) := frz_map (f := edW) (f' := edL) (fun _ => rfl) (fun x j a b h1 h2 => by
  match j with
  | 0 => cases h1; cases h2; exact .f _
  | 1 => cases h1; cases h2; exact .f _
  | 2 => cases h1; cases h2; exact .f _
  | 3 => cases h1; cases h2; exact .f _
  | 4 => cases h1; cases h2; exact .f _
  | j + 5 => simp [edW] at h1) l
theorem tl_eds {r : List (Nat × Nat)} {g : Hp} {hs' : Hs} {n fl hi : Nat} {l : List Ed} (hn : g n = some (some ⟨fl, 5, l.map edW⟩)) (h4 : Nat.beq fl 4 = false) (hk : kept r hs' n = false) (hi' : hi = l.length) : tlA true r g hs' (.row n 0 hi) (.f (eds l)) :=
  tl_fz hn h4 hk (by rw [take_all (by simpa using hi')]; exact frz_eds l)
structure Ho where
  session : Int
  node : Int
  mode : Int
def hoL (x : Ho) : List L := [iL x.session, iL x.node, iL x.mode]
def hoW (x : Ho) : List A := [.f (iL x.session), .f (iL x.node), .f (iL x.mode)]
@[reducible] def zHo : List A := [.f (iL 0), .f (iL 0), .f (iL 0)]
def hos (l : List Ho) : L := .sl 3 (l.map hoL)
theorem cl_hos (l : List Ho) : clR (l.map hoW) := cl_map (f := hoW) (fun x => ⟨trivial, trivial, trivial, trivial⟩) l
theorem pl_hos (l : List Ho) : plR (l.map hoW) := pl_map (f := hoW) (fun x => ⟨trivial, trivial, trivial, trivial⟩) l
theorem frz_hos {K : Nat → Ob → Prop} (l : List Ho) : FrzR K (l.map hoW) (l.map hoL) := frz_map (f := hoW) (f' := hoL) (fun _ => rfl) (fun x j a b h1 h2 => by
  match j with
  | 0 => cases h1; cases h2; exact .f _
  | 1 => cases h1; cases h2; exact .f _
  | 2 => cases h1; cases h2; exact .f _
  | j + 3 => simp [hoW] at h1) l
theorem tl_hos {r : List (Nat × Nat)} {g : Hp} {hs' : Hs} {n fl hi : Nat} {l : List Ho} (hn : g n = some (some ⟨fl, 3, l.map hoW⟩)) (h4 : Nat.beq fl 4 = false) (hk : kept r hs' n = false) (hi' : hi = l.length) : tlA true r g hs' (.row n 0 hi) (.f (hos l)) :=
  tl_fz hn h4 hk (by rw [take_all (by simpa using hi')]; exact frz_hos l)
def HoIn (x : Ho) : Prop := (I64 x.session) ∧ (I64 x.node) ∧ (I64 x.mode)
structure Tb where
  holds : List Ho
  waits : List Ho
def tbL (x : Tb) : List L := [hos x.holds, hos x.waits]
def tbW (x : Tb) : List A := [.ow 3 (x.holds.map hoW), .ow 3 (x.waits.map hoW)]
@[reducible] def zTb : List A := [.nl, .nl]
def tbs (l : List Tb) : L := .sl 2 (l.map tbL)
theorem cl_tbs (l : List Tb) : clR (l.map tbW) := cl_map (f := tbW) (fun x => ⟨cl_hos _, cl_hos _, trivial⟩) l
theorem pl_tbs (l : List Tb) : plR (l.map tbW) := pl_map (f := tbW) (fun x => ⟨pl_hos _, pl_hos _, trivial⟩) l
theorem frz_tbs {K : Nat → Ob → Prop} (l : List Tb) : FrzR K (l.map tbW) (l.map tbL) := frz_map (f := tbW) (f' := tbL) (fun _ => rfl) (fun x j a b h1 h2 => by
  match j with
  | 0 => cases h1; cases h2; exact frz_ow (frz_hos _)
  | 1 => cases h1; cases h2; exact frz_ow (frz_hos _)
  | j + 2 => simp [tbW] at h1) l
theorem tl_tbs {r : List (Nat × Nat)} {g : Hp} {hs' : Hs} {n fl hi : Nat} {l : List Tb} (hn : g n = some (some ⟨fl, 2, l.map tbW⟩)) (h4 : Nat.beq fl 4 = false) (hk : kept r hs' n = false) (hi' : hi = l.length) : tlA true r g hs' (.row n 0 hi) (.f (tbs l)) :=
  tl_fz hn h4 hk (by rw [take_all (by simpa using hi')]; exact frz_tbs l)
def TbIn (x : Tb) : Prop := (ListIn HoIn x.holds) ∧ (ListIn HoIn x.waits)
def szTb (x : Tb) : Nat := x.holds.length + x.waits.length
structure Se where
  id : Int
  til : Int
  sub : Int
  copy : Dc
def seL (x : Se) : List L := [iL x.id, iL x.til, iL x.sub, iL x.copy.root, iL x.copy.next, nds x.copy.nodes]
def seW (x : Se) : List A := [.f (iL x.id), .f (iL x.til), .f (iL x.sub), .f (iL x.copy.root), .f (iL x.copy.next), .ow 5 (x.copy.nodes.map ndW)]
@[reducible] def zSe : List A := [.f (iL 0), .f (iL 0), .f (iL 0), .f (iL 0), .f (iL 0), .nl]
def ses (l : List Se) : L := .sl 6 (l.map seL)
theorem cl_ses (l : List Se) : clR (l.map seW) := cl_map (f := seW) (fun x => ⟨trivial, trivial, trivial, trivial, trivial, cl_nds _, trivial⟩) l
theorem pl_ses (l : List Se) : plR (l.map seW) := pl_map (f := seW) (fun x => ⟨trivial, trivial, trivial, trivial, trivial, pl_nds _, trivial⟩) l
theorem frz_ses {K : Nat → Ob → Prop} (l : List Se) : FrzR K (l.map seW) (l.map seL) := frz_map (f := seW) (f' := seL) (fun _ => rfl) (fun x j a b h1 h2 => by
  match j with
  | 0 => cases h1; cases h2; exact .f _
  | 1 => cases h1; cases h2; exact .f _
  | 2 => cases h1; cases h2; exact .f _
  | 3 => cases h1; cases h2; exact .f _
  | 4 => cases h1; cases h2; exact .f _
  | 5 => cases h1; cases h2; exact frz_ow (frz_nds _)
  | j + 6 => simp [seW] at h1) l
theorem tl_ses {r : List (Nat × Nat)} {g : Hp} {hs' : Hs} {n fl hi : Nat} {l : List Se} (hn : g n = some (some ⟨fl, 6, l.map seW⟩)) (h4 : Nat.beq fl 4 = false) (hk : kept r hs' n = false) (hi' : hi = l.length) : tlA true r g hs' (.row n 0 hi) (.f (ses l)) :=
  tl_fz hn h4 hk (by rw [take_all (by simpa using hi')]; exact frz_ses l)
structure Ev where
  session : Int
  code : Int
  node : Int
def evL (x : Ev) : List L := [iL x.session, iL x.code, iL x.node]
def evW (x : Ev) : List A := [.f (iL x.session), .f (iL x.code), .f (iL x.node)]
@[reducible] def zEv : List A := [.f (iL 0), .f (iL 0), .f (iL 0)]
def evs (l : List Ev) : L := .sl 3 (l.map evL)
theorem cl_evs (l : List Ev) : clR (l.map evW) := cl_map (f := evW) (fun x => ⟨trivial, trivial, trivial, trivial⟩) l
theorem pl_evs (l : List Ev) : plR (l.map evW) := pl_map (f := evW) (fun x => ⟨trivial, trivial, trivial, trivial⟩) l
theorem frz_evs {K : Nat → Ob → Prop} (l : List Ev) : FrzR K (l.map evW) (l.map evL) := frz_map (f := evW) (f' := evL) (fun _ => rfl) (fun x j a b h1 h2 => by
  match j with
  | 0 => cases h1; cases h2; exact .f _
  | 1 => cases h1; cases h2; exact .f _
  | 2 => cases h1; cases h2; exact .f _
  | j + 3 => simp [evW] at h1) l
theorem tl_evs {r : List (Nat × Nat)} {g : Hp} {hs' : Hs} {n fl hi : Nat} {l : List Ev} (hn : g n = some (some ⟨fl, 3, l.map evW⟩)) (h4 : Nat.beq fl 4 = false) (hk : kept r hs' n = false) (hi' : hi = l.length) : tlA true r g hs' (.row n 0 hi) (.f (evs l)) :=
  tl_fz hn h4 hk (by rw [take_all (by simpa using hi')]; exact frz_evs l)
structure Ht where
  schema : List Ru
  doc : Dc
  clock : Int
  lease : Int
  next : Int
  sessions : List Se
  table : Tb
  events : List Ev
def htL (x : Ht) : List L := [rus x.schema, iL x.doc.root, iL x.doc.next, nds x.doc.nodes, iL x.clock, iL x.lease, iL x.next, ses x.sessions, hos x.table.holds, hos x.table.waits, evs x.events]
def htW (x : Ht) : List A := [.ow 3 (x.schema.map ruW), .f (iL x.doc.root), .f (iL x.doc.next), .ow 5 (x.doc.nodes.map ndW), .f (iL x.clock), .f (iL x.lease), .f (iL x.next), .ow 6 (x.sessions.map seW), .ow 3 (x.table.holds.map hoW), .ow 3 (x.table.waits.map hoW), .ow 3 (x.events.map evW)]
@[reducible] def zHt : List A := [.nl, .f (iL 0), .f (iL 0), .nl, .f (iL 0), .f (iL 0), .f (iL 0), .nl, .nl, .nl, .nl]
def hts (l : List Ht) : L := .sl 11 (l.map htL)
theorem cl_hts (l : List Ht) : clR (l.map htW) := cl_map (f := htW) (fun x => ⟨cl_rus _, trivial, trivial, cl_nds _, trivial, trivial, trivial, cl_ses _, cl_hos _, cl_hos _, cl_evs _, trivial⟩) l
theorem pl_hts (l : List Ht) : plR (l.map htW) := pl_map (f := htW) (fun x => ⟨pl_rus _, trivial, trivial, pl_nds _, trivial, trivial, trivial, pl_ses _, pl_hos _, pl_hos _, pl_evs _, trivial⟩) l
theorem frz_hts {K : Nat → Ob → Prop} (l : List Ht) : FrzR K (l.map htW) (l.map htL) := frz_map (f := htW) (f' := htL) (fun _ => rfl) (fun x j a b h1 h2 => by
  match j with
  | 0 => cases h1; cases h2; exact frz_ow (frz_rus _)
  | 1 => cases h1; cases h2; exact .f _
  | 2 => cases h1; cases h2; exact .f _
  | 3 => cases h1; cases h2; exact frz_ow (frz_nds _)
  | 4 => cases h1; cases h2; exact .f _
  | 5 => cases h1; cases h2; exact .f _
  | 6 => cases h1; cases h2; exact .f _
  | 7 => cases h1; cases h2; exact frz_ow (frz_ses _)
  | 8 => cases h1; cases h2; exact frz_ow (frz_hos _)
  | 9 => cases h1; cases h2; exact frz_ow (frz_hos _)
  | 10 => cases h1; cases h2; exact frz_ow (frz_evs _)
  | j + 11 => simp [htW] at h1) l
theorem tl_hts {r : List (Nat × Nat)} {g : Hp} {hs' : Hs} {n fl hi : Nat} {l : List Ht} (hn : g n = some (some ⟨fl, 11, l.map htW⟩)) (h4 : Nat.beq fl 4 = false) (hk : kept r hs' n = false) (hi' : hi = l.length) : tlA true r g hs' (.row n 0 hi) (.f (hts l)) :=
  tl_fz hn h4 hk (by rw [take_all (by simpa using hi')]; exact frz_hts l)
structure Rq where
  kind : Int
  session : Int
  node : Int
  a : Int
  edit : Ed
def rqL (x : Rq) : List L := [iL x.kind, iL x.session, iL x.node, iL x.a, iL x.edit.kind, iL x.edit.node, iL x.edit.a, iL x.edit.b, sL x.edit.text]
def rqW (x : Rq) : List A := [.f (iL x.kind), .f (iL x.session), .f (iL x.node), .f (iL x.a), .f (iL x.edit.kind), .f (iL x.edit.node), .f (iL x.edit.a), .f (iL x.edit.b), .f (sL x.edit.text)]
@[reducible] def zRq : List A := [.f (iL 0), .f (iL 0), .f (iL 0), .f (iL 0), .f (iL 0), .f (iL 0), .f (iL 0), .f (iL 0), .f (sL ⟨#[]⟩)]
def rqs (l : List Rq) : L := .sl 9 (l.map rqL)
theorem cl_rqs (l : List Rq) : clR (l.map rqW) := cl_map (f := rqW) (fun x => ⟨trivial, trivial, trivial, trivial, trivial, trivial, trivial, trivial, trivial, trivial⟩) l
theorem pl_rqs (l : List Rq) : plR (l.map rqW) := pl_map (f := rqW) (fun x => ⟨trivial, trivial, trivial, trivial, trivial, trivial, trivial, trivial, trivial, trivial⟩) l
theorem frz_rqs {K : Nat → Ob → Prop} (l : List Rq) : FrzR K (l.map rqW) (l.map rqL) := frz_map (f := rqW) (f' := rqL) (fun _ => rfl) (fun x j a b h1 h2 => by
  match j with
  | 0 => cases h1; cases h2; exact .f _
  | 1 => cases h1; cases h2; exact .f _
  | 2 => cases h1; cases h2; exact .f _
  | 3 => cases h1; cases h2; exact .f _
  | 4 => cases h1; cases h2; exact .f _
  | 5 => cases h1; cases h2; exact .f _
  | 6 => cases h1; cases h2; exact .f _
  | 7 => cases h1; cases h2; exact .f _
  | 8 => cases h1; cases h2; exact .f _
  | j + 9 => simp [rqW] at h1) l
theorem tl_rqs {r : List (Nat × Nat)} {g : Hp} {hs' : Hs} {n fl hi : Nat} {l : List Rq} (hn : g n = some (some ⟨fl, 9, l.map rqW⟩)) (h4 : Nat.beq fl 4 = false) (hk : kept r hs' n = false) (hi' : hi = l.length) : tlA true r g hs' (.row n 0 hi) (.f (rqs l)) :=
  tl_fz hn h4 hk (by rw [take_all (by simpa using hi')]; exact frz_rqs l)
end Go.Proofs.YtecnmodeggnjoaaGreat.Ac
