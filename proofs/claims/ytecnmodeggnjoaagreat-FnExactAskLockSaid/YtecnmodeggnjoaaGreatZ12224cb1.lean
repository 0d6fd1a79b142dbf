/- Several of our texts, one behind the other, without what this claim does not need: AcF. -/
import Derived.Test.YtecnmodeggnjoaaGreatZf7c364ad
set_option linter.unusedVariables false
set_option linter.unusedSimpArgs false
namespace Go.Proofs.YtecnmodeggnjoaaGreat.Ac
open Go.RowKit
def one (v : T) : Out := .ok v []
def tB (b : Bool) : T := .val false [.f (.v (.bool b))]
def tI (i : IntKind) (z : Int) : T := .val false [.f (.v (.int i z))]
def tS (s : ByteArray) : T := .val false [.f (.v (.string s))]
def split2 (c : Prop) : Out := .spl c (one (tB true)) (one (tB false))
def aliveO (n : Nat) (κ : Nat → Nat → List (List A) → Out) : Out := .rd n fun x => match x with
  | some (some ⟨fl, wd, es⟩) => cond (Nat.beq fl 4) .no (κ fl wd es)
  | _ => .no
def elO (fl : Nat) (es : List (List A)) (i : Nat) (κ : List A → Out) : Out := cond (Nat.beq fl 3) (match es with
  | [e] => cond (Nat.beq i 0) (κ e) .no
  | _ => .no) (.ex (fun e => es[i]? = some e) κ)
def setO (fl wd : Nat) (es : List (List A)) (i : Nat) (e : List A) (κ : Ob → Out) : Out := cond (Nat.beq fl 3) (κ ⟨3, wd, [e]⟩) (κ ⟨fl, wd, es.set i e⟩)
def takK {α : Type} : List α → Nat → (List α → Out) → Out
  | _, 0, κ => κ []
  | x :: xs, n + 1, κ => takK xs n fun r => κ (x :: r)
  | [], _ + 1, _ => .no
def segK {α : Type} : List α → Nat → Nat → (List α → Out) → Out
  | xs, 0, s, κ => takK xs s κ
  | _ :: xs, o + 1, s, κ => segK xs o s κ
  | [], _ + 1, _, _ => .no
def ovK {α : Type} : List α → List α → (List α → Out) → Out
  | xs, [], κ => κ xs
  | _ :: xs, y :: ys, κ => ovK xs ys fun r => κ (y :: r)
  | [], _ :: _, _ => .no
def spliceK {α : Type} : List α → Nat → List α → (List α → Out) → Out
  | xs, 0, ys, κ => ovK xs ys κ
  | x :: xs, n + 1, ys, κ => spliceK xs n ys fun r => κ (x :: r)
  | [], _ + 1, _, _ => .no
def xsK (d : Nat) : Nat → List A → (List A → List (Nat × Option Ob) → Out) → Out
  | _, [], κ => κ [] []
  | k, .ow wd ys :: l, κ => .rd (16 * (d + 1) + k) fun o => match o with
    | none => xsK d (k + 1) l fun xs ns => κ (.row (16 * (d + 1) + k) 0 ys.length :: xs) ((16 * (d + 1) + k, some ⟨0, wd, ys⟩) :: ns)
    | some _ => .no
  | k, x :: l, κ => xsK d k l fun xs ns => κ (x :: xs) ns
def mkT (l : Lay) (xs : List A) : T := match l with
  | .w _ _ _ => .val false xs
  | .st _ _ _ _ => .val true xs
def allF {α : Type} (xs : List L) (κ : List A → Out) : Out := match xs with
  | [] => κ []
  | x :: l => allF (α := α) l fun r => κ (.f x :: r)
def newO (d : Nat) (ob : Ob) (v : Nat → T) : Out := .rd (16 * (d + 1)) fun o => match o with
  | none => .ok (v (16 * (d + 1))) [(16 * (d + 1), some ob)]
  | some _ => .no
def moveO (x : T) : Out := match x with
  | .val ag cs => one (.val ag cs)
  | .tu vs => one (.tu vs)
  | .bot => one .bot
def pickO (c a b : T) : Out := match c with
  | .val false [.f (.v (.bool true))] => moveO a
  | .val false [.f (.v (.bool false))] => moveO b
  | _ => .no
def boxO (d : Nat) (l : Lay) (x : T) : Out := match x with
  | .val _ cs => cond (Nat.beq cs.length l.size && Nat.blt 0 l.size) (newO d ⟨3, l.size, [cs]⟩ fun m => .val false [.pt m 0 0]) .no
  | _ => .no
def allocO (d : Nat) (l : Lay) : Out := cond (Nat.blt 0 l.size) (newO d ⟨3, l.size, [l.zero]⟩ fun m => .val false [.pt m 0 0]) .no
def loadO (d : Nat) (l : Lay) (x : T) : Out := match x with
  | .val false [.pt n i off] => aliveO n fun fl wd es => elO fl es i fun e => segK e off l.size fun seg => xsK d 0 seg fun xs ns => match ns with
    | [] => .ok (mkT l xs) []
    | x :: ns => spliceK e off xs fun e' => setO fl wd es i e' fun ob => .ok (mkT l xs) ((n, some ob) :: x :: ns)
  | .val false [.f (.pv y)] => takK y l.size fun seg => allF (α := Nat) seg fun xs => one (mkT l xs)
  | _ => .no
def storeO (l : Lay) (x y : T) : Out := match x, y with
  | .val false [.pt n i off], .val _ cs => cond (Nat.beq cs.length l.size) (aliveO n fun fl wd es => elO fl es i fun e => spliceK e off cs fun e' => setO fl wd es i e' fun ob => .ok .bot [(n, some ob)]) .no
  | _, _ => .no
def nilO (x : T) : Out := match x with
  | .val false [.f (.pv y)] => one (.val false [.f (.pv y)])
  | .val false [.pt n i off] => aliveO n fun _ _ _ => one (.val false [.pt n i off])
  | .val false [.f (.cl f cs)] => one (.val false [.f (.cl f cs)])
  | .val false [.cl f cs] => one (.val false [.cl f cs])
  | _ => .no
def dropK {α : Type} : List α → Nat → (List α → Out) → Out
  | xs, 0, κ => κ xs
  | _ :: xs, n + 1, κ => dropK xs n κ
  | [], _ + 1, _ => .no
def addrO (o : Nat) (x : T) : Out := match x with
  | .val false [.f (.pv y)] => dropK y o fun zs => match zs with
    | z :: zs => one (.val false [.f (.pv (z :: zs))])
    | [] => .no
  | .val false [.pt n i off] => aliveO n fun _ _ _ => one (.val false [.pt n i (off + o)])
  | _ => .no
def fieldO (o s : Nat) (ag : Bool) (x : T) : Out := match x with
  | .val true cs => segK cs o s fun seg => match ag with
    | true => one (.val true seg)
    | false => cond (Nat.beq s 1) (one (.val false seg)) .no
  | _ => .no
def idxO (l : Lay) (x i : T) : Out := match i with
  | .val false [.f (.v (.int _ z))] => match x with
    | .val false [.f (.sl wd es)] => cond (Nat.beq l.size wd) (.ex (α := Nat × List L) (fun y => z = (y.1 : Int) ∧ es[y.1]? = some y.2) fun y => one (.val false [.f (.pv y.2)])) .no
    | .val false [.row n lo hi] => aliveO n fun fl wd es => cond (Nat.beq l.size wd) (cond (Nat.beq lo 0) (.ex (fun j : Nat => z = (j : Int) ∧ j < hi) fun j => one (.val false [.pt n j 0]))
      (.ex (fun j : Nat => z = (j : Int) ∧ lo + j < hi) fun j => one (.val false [.pt n (lo + j) 0]))) .no
    | _ => .no
  | _ => .no
def chrO (x i : T) : Out := match x, i with
  | .val false [.f (.v (.string s))], .val false [.f (.v (.int _ z))] => .ex (α := Nat × UInt8) (fun y => z = (y.1 : Int) ∧ s[y.1]? = some y.2) fun y => one (tI .u8 y.2.toNat)
  | _, _ => .no
def beqK : IntKind → IntKind → Bool
  | .i64, .i64 | .u8, .u8 | .u64, .u64 | .i32, .i32 | .u32, .u32 => true
  | _, _ => false
def binO (op : BinOp) (i : IntKind) (x y : Int) : Out := match op with
  | .add => one (tI i (i.wrap (x + y)))
  | .sub => one (tI i (i.wrap (x - y)))
  | .mul => one (tI i (i.wrap (x * y)))
  | .quo => .con (y ≠ 0) (one (tI i (i.wrap (x.tdiv y))))
  | .rem => .con (y ≠ 0) (one (tI i (x.tmod y)))
  | .and => one (tI i (i.wrap (BitVec.ofInt i.bits x &&& BitVec.ofInt i.bits y).toNat))
  | .or => one (tI i (i.wrap (BitVec.ofInt i.bits x ||| BitVec.ofInt i.bits y).toNat))
  | .xor => one (tI i (i.wrap (BitVec.ofInt i.bits x ^^^ BitVec.ofInt i.bits y).toNat))
  | .eql => split2 (x = y)
  | .neq => split2 (x ≠ y)
  | .lss => split2 (x < y)
  | .leq => split2 (x ≤ y)
  | .gtr => split2 (x > y)
  | .geq => split2 (x ≥ y)
  | _ => .no
def shiftO (op : BinOp) (i : IntKind) (x y : Int) : Out := match op with
  | .shl => .con (0 ≤ y) (one (tI i (i.wrap (x * 2 ^ (min y.toNat i.bits)))))
  | .shr => .con (0 ≤ y) (one (tI i (x.fdiv (2 ^ (min y.toNat i.bits)))))
  | _ => .no
def isShift : BinOp → Bool
  | .shl | .shr => true
  | _ => false
def eqC : List A → List A → Option Prop
  | [], [] => some True
  | .f (.v (.int i x)) :: xs, .f (.v (.int j y)) :: ys => match beqK i j, eqC xs ys with
    | true, some p => some (x = y ∧ p)
    | _, _ => none
  | .f (.v (.string x)) :: xs, .f (.v (.string y)) :: ys => match eqC xs ys with
    | some p => some (x = y ∧ p)
    | none => none
  | _, _ => none
def isNilO (op : BinOp) (b : Bool) : Out := match op with
  | .eql => one (tB b)
  | .neq => one (tB (!b))
  | _ => .no
def biO (op : BinOp) (x y : T) : Out := match x, y with
  | .val false [.f (.v (.int i a))], .val false [.f (.v (.int j b))] => cond (isShift op) (shiftO op i a b) (cond (beqK i j) (binO op i a b) .no)
  | .val false [.f (.v (.string a))], .val false [.f (.v (.string b))] => match op with
    | .add => .con (a.size + b.size ≤ maxLen) (one (tS (a ++ b)))
    | .eql => split2 (a = b)
    | .neq => split2 (a ≠ b)
    | _ => .no
  | .val false [.f (.v (.pointer none))], .val false [.f (.v (.pointer none))] => isNilO op true
  | .val false [.f (.pv _)], .val false [.f (.v (.pointer none))] => isNilO op false
  | .val false [.pt n _ _], .val false [.f (.v (.pointer none))] => aliveO n fun _ _ _ => isNilO op false
  | _, _ => .no
def biN (op : BinOp) (x y : T) : Out := match x, y with
  | .val false [.f (.v (.int i a))], .val false [.f (.v (.int j b))] => cond (isShift op) (shiftO op i a b) (cond (beqK i j) (binO op i a b) .no)
  | .val false [.f (.v (.string a))], .val false [.f (.v (.string b))] => biO op (.val false [.f (.v (.string a))]) (.val false [.f (.v (.string b))])
  | _, _ => .no
def eqO (op : BinOp) (l : Lay) (x y : T) : Out := match l, x, y with
  | .w .bool _ _, .val false [.f (.v (.bool a))], .val false [.f (.v (.bool b))] => match op with
    | .eql => split2 (a = b)
    | .neq => split2 (a ≠ b)
    | _ => .no
  | _, _, _ => .no
def nilB (op : BinOp) (b : Bool) : Out := match op with
  | .eql => one (tB b)
  | .neq => one (tB (!b))
  | _ => .no
def nilSO (op : BinOp) (x : T) : Out := match x with
  | .val false [.f (.sl _ es)] => .all (fun b : Bool => b = true → es = []) fun b => nilB op b
  | .val false [.nl] => .all (fun _ : Bool => True) fun b => nilB op b
  | .val false [.row n lo hi] => aliveO n fun _ _ _ => .all (fun b : Bool => b = true → hi ≤ lo) fun b => nilB op b
  | _ => .no
def unO (u : UnOp) (x : T) : Out := match u, x with
  | .not, .val false [.f (.v (.bool b))] => match b with
    | true => one (tB false)
    | false => one (tB true)
  | .neg, .val false [.f (.v (.int i z))] => one (tI i (i.wrap (0 - z)))
  | _, _ => .no
def extrO (x : T) (i : Nat) : Out := match x with
  | .tu vs => match vs[i]? with
    | some (ag, cs) => one (.val ag cs)
    | none => .no
  | _ => .no
def mapK (n : Nat) (κ : Nat → List (List A) → Out) : Out := .rd n fun x => match x with
  | some (some ⟨fl, wd, es⟩) => cond (Nat.beq fl 4) (κ wd es) .no
  | _ => .no
def mget : List (Int × Value) → Int → Option Value
  | [], _ => none
  | x :: l, k => if x.1 = k then some x.2 else mget l k
def mput : List (Int × Value) → Int → Value → List (Int × Value)
  | [], k, v => [(k, v)]
  | x :: l, k, v => if x.1 = k then (k, v) :: l else x :: mput l k v
def lookO (lk le : Lay) (x i : T) : Out := match lk, le, x, i with
  | .w (.int .i64) _ _, .w _ (.f (.v z)) _, .val false [.mp n], .val false [.f (.v (.int .i64 k))] => mapK n fun _ es => .ex (fun p : List (Int × Value) × Value => es = mpR p.1 ∧ (mget p.1 k).getD z = p.2) fun p => one (.val false [.f (.v p.2)])
  | _, _, _, _ => .no
def mupdO (lk : Lay) (x i y : T) : Out := match lk, x, i, y with
  | .w (.int .i64) _ _, .val false [.mp n], .val false [.f (.v (.int .i64 k))], .val false [.f (.v v)] => mapK n fun wd es => .ex (fun l : List (Int × Value) => es = mpR l) fun l => .ok .bot [(n, some ⟨4, wd, mpR (mput l k v)⟩)]
  | _, _, _, _ => .no
def lenO (l : Lay) (x : T) : Out := match l, x with
  | .w (.slice _) _ _, .val false [.f (.sl _ es)] => one (tI .i64 es.length)
  | .w (.slice _) _ _, .val false [.nl] => one (tI .i64 0)
  | .w (.slice _) _ _, .val false [.un (some k)] => one (tI .i64 k)
  | .w (.slice _) _ _, .val false [.row n lo hi] => aliveO n fun _ _ _ => cond (Nat.beq lo 0) (one (tI .i64 hi)) (one (tI .i64 ((hi - lo : Nat) : Int)))
  | .w .string _ _, .val false [.f (.v (.string s))] => one (tI .i64 s.size)
  | .w (.map _ _) _ _, .val false [.mp n] => mapK n fun _ es => one (tI .i64 es.length)
  | _, _ => .no
def junk (wd k : Nat) : List (List A) := List.replicate k (List.replicate wd (.un none))
def capO (l : Lay) (x : T) : Out := match l, x with
  | .w (.slice _) _ _, .val false [.f (.sl _ es)] => .all (fun z : Nat => es.length ≤ z ∨ es = []) fun z => one (tI .i64 z)
  | .w (.slice _) _ _, .val false [.nl] => one (tI .i64 0)
  | .w (.slice _) _ _, .val false [.row n lo hi] => aliveO n fun fl wd es => match fl with
    | 1 => one (tI .i64 ((es.length - lo : Nat) : Int))
    | 0 => .all (fun k : Nat => es.length + k ≤ maxLen) fun k => .ok (tI .i64 ((es.length + k - lo : Nat) : Int)) [(n, some ⟨1, wd, es ++ junk wd k⟩)]
    | _ => .no
  | _, _ => .no
def mmO (mx : Bool) (x y : T) : Out := match x, y with
  | .val false [.f (.v (.int i a))], .val false [.f (.v (.int _ b))] => match mx with
    | true => one (tI i (if b > a then b else a))
    | false => one (tI i (if b < a then b else a))
  | _, _ => .no
def cpA : A → A
  | .ow _ ys => .un (some ys.length)
  | x => x
def cpE (es : List (List A)) : List (List A) := es.map (·.map cpA)
def noOw : List (List A) → Bool
  | [] => true
  | e :: es => go e && noOw es
where
  go : List A → Bool
    | [] => true
    | .ow _ _ :: _ => false
    | _ :: l => go l
def srcO (wd : Nat) (y : T) (κ : List (List A) → Out) : Out := match y with
  | .val false [.nl] => κ []
  | .val false [.f (.sl wd' es)] => cond (Nat.beq wd wd') (.ex (fun es' : List (List A) => es.map (·.map A.f) = es') κ) .no
  | .val false [.row m lo hi] => aliveO m fun fl wd' es => cond (Nat.beq wd wd') (cond (Nat.beq fl 2 && noOw es && Nat.beq lo 0 && Nat.beq hi es.length) (κ es) (.ex (fun es' : List (List A) => cpE ((es.take hi).drop lo) = es') κ)) .no
  | _ => .no
def appN (d : Nat) (l : Lay) (x : T) (new : List (List A)) : Out := match x with
  | .val false [.nl] => .con (new.length < 2 ^ 30) (newO d ⟨0, l.size, new⟩ fun m => .val false [.row m 0 new.length])
  | .val false [.row n lo hi] => aliveO n fun fl wd es => cond (Nat.beq l.size wd && Nat.beq lo 0) (match fl with
    | 1 => .con (hi + new.length < 2 ^ 30) (.spl (hi + new.length ≤ es.length)
        (.ex (fun es' : List (List A) => es.take hi ++ new ++ es.drop (hi + new.length) = es') fun es' => .ok (.val false [.row n 0 (hi + new.length)]) [(n, some ⟨1, wd, es'⟩)])
        (.ex (fun es' : List (List A) => cpE (es.take hi) ++ new = es') fun es' => newO d ⟨0, l.size, es'⟩ fun m => .val false [.row m 0 es'.length]))
    | _ => .ex (fun es' : List (List A) => es.take hi ++ new = es' ∧ es'.length < 2 ^ 30) fun es' => .rd (16 * (d + 1)) fun o => match o with
      | none => .ok (.val false [.row (16 * (d + 1)) 0 es'.length]) [(16 * (d + 1), some ⟨0, wd, es'⟩), (n, none)]
      | some _ => .no)
    (cond (Nat.beq l.size wd && !Nat.beq lo 0) (.ex (fun es' : List (List A) => cpE ((es.take hi).drop lo) ++ new = es' ∧ es'.length < 2 ^ 30) fun es' => .rd (16 * (d + 1)) fun o => match o with
      | none => .ok (.val false [.row (16 * (d + 1)) 0 es'.length]) [(16 * (d + 1), some ⟨0, wd, es'⟩), (n, none)]
      | some _ => .no) .no)
  | _ => .no
def sameRow (x y : T) : Bool := match x, y with
  | .val false [.row n lo _], .val false [.row m _ _] => Nat.beq lo 0 && Nat.beq n m
  | _, _ => false
def selfO (l : Lay) (x y : T) : Out := match x, y with
  | .val false [.row n _ hi], .val false [.row _ lo' hi'] => aliveO n fun fl wd es => cond (Nat.beq l.size wd) (.ex (fun es' : List (List A) => hi ≤ lo' ∧ lo' ≤ hi' ∧ es.take hi ++ cpE ((es.take hi').drop lo') ++ es.drop (hi + (hi' - lo')) = es') fun es' =>
      .ok (.val false [.row n 0 (hi + (hi' - lo'))]) [(n, some ⟨fl, wd, es'⟩)]) .no
  | _, _ => .no
def appendO (d : Nat) (l : Lay) (x y : T) : Out := cond (Nat.blt 0 l.size && Nat.ble l.bt 65536) (cond (sameRow x y) (selfO l x y) (srcO l.size y fun new => appN d l x new)) .no
def appendZO (d : Nat) (l : Lay) (x y : T) : Out := cond (Nat.blt 0 l.size && Nat.ble l.bt 65536) (match y with
  | .val false [.f (.v (.int .i64 z))] => .ex (α := Nat × List (List A)) (fun k => z = (k.1 : Int) ∧ k.1 < 2 ^ 30 ∧ List.replicate k.1 l.zero = k.2) fun k => appN d l x k.2
  | _ => .no) .no
def copyO (l : Lay) (x y : T) : Out := srcO l.size y fun new => match x with
  | .val false [.row n lo hi] => aliveO n fun fl wd es => cond (Nat.beq l.size wd) (.ex (fun es' : List (List A) => es.take lo ++ new.take (hi - lo) ++ es.drop (lo + min new.length (hi - lo)) = es') fun es' =>
      .ok (tI .i64 ((min new.length (hi - lo) : Nat) : Int)) [(n, some ⟨fl, wd, es'⟩)]) .no
  | .val false [.nl] => one (tI .i64 0)
  | _ => .no
def clearO (l : Lay) (x : T) : Out := match x with
  | .val false [.row n lo hi] => aliveO n fun fl wd es => cond (Nat.beq l.size wd) (.ex (fun es' : List (List A) => es.take lo ++ List.replicate (hi - lo) l.zero ++ es.drop hi = es') fun es' => .ok .bot [(n, some ⟨fl, wd, es'⟩)]) .no
  | .val false [.nl] => one .bot
  | _ => .no
def biltO (tb : Tab) (b : Builtin) (ts : List TypeId) (xs : List T) (d : Nat) : Out := match b, ts, xs with
  | .len, [t], [x] => match tb t with
    | some l => lenO l x
    | none => .no
  | .cap, [t], [x] => match tb t with
    | some l => capO l x
    | none => .no
  | .append, [t, u], [x, y] => match tb t, tb u with
    | some (.w (.slice el) _ _), some (.w (.slice _) _ _) => match tb el with
      | some l => appendO d l x y
      | none => .no
    | some (.w (.slice el) _ _), some (.w (.int _) _ _) => match tb el with
      | some l => appendZO d l x y
      | none => .no
    | _, _ => .no
  | .copy, t :: _, [x, y] => match tb t with
    | some (.w (.slice el) _ _) => match tb el with
      | some l => cond (Nat.blt 0 l.size) (copyO l x y) .no
      | none => .no
    | _ => .no
  | .clear, [t], [x] => match tb t with
    | some (.w (.slice el) _ _) => match tb el with
      | some l => clearO l x
      | none => .no
    | _ => .no
  | .max, _, [x, y] => mmO true x y
  | .min, _, [x, y] => mmO false x y
  | _, _, _ => .no
def bndP (x : Option T) (dflt : Nat) (a : Nat) : Prop := match x with
  | none => a = dflt
  | some (.val false [.f (.v (.int _ z))]) => z = (a : Int)
  | some _ => False
def elc (le : Option Lay) (wd : Nat) (o : Out) : Out := match le with
  | some le => cond (Nat.beq le.size wd) o .no
  | none => .no
def elk (le : Option Lay) (o : Out) : Out := match le with
  | some _ => o
  | none => .no
def moveSl (d n wd : Nat) (es : List (List A)) (z : Int) : Out := .ex (α := Nat × List (List A)) (fun y => z = (y.1 : Int) ∧ y.1 ≤ es.length ∧ es.take y.1 = y.2) fun y => .rd (16 * (d + 1)) fun o => match o with
  | none => .ok (.val false [.row (16 * (d + 1)) 0 y.1]) [(16 * (d + 1), some ⟨0, wd, y.2⟩), (n, none)]
  | some _ => .no
def slRow (n q : Nat) (es : List (List A)) (lo hi : Option T) : Out := .ex (α := Nat × Nat) (fun y => bndP lo 0 y.1 ∧ bndP hi q y.2 ∧ y.1 ≤ y.2 ∧ (y.2 ≤ q ∨ y.2 ≤ es.length)) fun y => one (.val false [.row n y.1 y.2])
def openHi (fl : Nat) (lo hi : Option T) : Option Int := match fl, lo, hi with
  | 1, none, some (.val false [.f (.v (.int _ z))]) => some z
  | _, _, _ => none
def sliceO (d : Nat) (l : Lay) (le : Option Lay) (x : T) (lo hi mx : Option T) : Out := match mx with
  | none => match l, x with
    | .w .string _ _, .val false [.f (.v (.string s))] => .ex (α := Nat × Nat) (fun y => bndP lo 0 y.1 ∧ bndP hi s.size y.2 ∧ y.1 ≤ y.2 ∧ y.2 ≤ s.size) fun y => one (tS (s.extract y.1 y.2))
    | .w (.slice _) _ _, .val false [.f (.sl wd es)] => elc le wd (.ex (α := Nat × Nat × List (List L)) (fun y => bndP lo 0 y.1 ∧ bndP hi es.length y.2.1 ∧ y.1 ≤ y.2.1 ∧ y.2.1 ≤ es.length ∧ (es.take y.2.1).drop y.1 = y.2.2) fun y => one (.val false [.f (.sl wd y.2.2)]))
    | .w (.slice _) _ _, .val false [.nl] => elk le (.con (bndP lo 0 0 ∧ bndP hi 0 0) (one (.val false [.nl])))
    | .w (.slice _) _ _, .val false [.row n p q] => aliveO n fun fl wd es => elc le wd (cond (Nat.beq p 0) (match openHi fl lo hi with
        | some z => .spl (z ≤ (q : Int)) (slRow n q es lo hi) (moveSl d n wd es z)
        | none => slRow n q es lo hi)
        (.ex (α := Nat × Nat) (fun y => bndP lo 0 y.1 ∧ bndP hi (q - p) y.2 ∧ y.1 ≤ y.2 ∧ (p + y.2 ≤ q ∨ p < q ∧ p + y.2 ≤ es.length)) fun y => one (.val false [.row n (p + y.1) (p + y.2)])))
    | _, _ => .no
  | some m => match lo with
    | some _ => match l, x, hi with
      | .w (.slice _) _ _, .val false [.row n p q], some _ => aliveO n fun _ _ _ => elk le (.ex (α := Nat × Nat × Nat) (fun y => bndP lo 0 y.1 ∧ bndP hi 0 y.2.1 ∧ bndP mx 0 y.2.2 ∧ y.1 ≤ y.2.1 ∧ y.2.1 ≤ y.2.2 ∧ p + y.2.2 ≤ q) fun y => one (.val false [.un (some (y.2.1 - y.1))]))
      | _, _, _ => .no
    | none => match m with
      | .val false [.f (.v (.int _ 0))] => match l, x, hi with
        | .w (.slice _) _ _, .val false [.row n _ _], some (.val false [.f (.v (.int _ 0))]) => elk le (aliveO n fun _ _ _ => one (.val false [.nl]))
        | .w (.slice _) _ _, .val false [.f (.sl _ _)], some (.val false [.f (.v (.int _ 0))]) => elk le (one (.val false [.nl]))
        | .w (.slice _) _ _, .val false [.nl], some (.val false [.f (.v (.int _ 0))]) => elk le (one (.val false [.nl]))
        | _, _, _ => .no
      | _ => .no
def makeSliceO (d : Nat) (l : Lay) (len cap : T) : Out := match len, cap with
  | .val false [.f (.v (.int _ z))], .val false [.f (.v (.int _ y))] => cond (Nat.blt 0 l.size && Nat.ble l.bt 65536) (.ex (α := Nat × Nat) (fun k => z = (k.1 : Int) ∧ y = (k.2 : Int) ∧ k.1 ≤ k.2 ∧ k.2 < 2 ^ 30) fun k =>
      newO d ⟨0, l.size, List.replicate k.1 l.zero⟩ fun m => .val false [.row m 0 k.1]) .no
  | _, _ => .no
def litK (l : Lay) (ps : List (Nat × T)) : Nat → Nat → (List (List A) → Out) → Out
  | _, 0, κ => κ []
  | i, n + 1, κ => match get ps i with
    | some (.val _ cs) => cond (Nat.beq cs.length l.size) (litK l ps (i + 1) n fun r => κ (cs :: r)) .no
    | some _ => .no
    | none => litK l ps (i + 1) n fun r => κ (l.zero :: r)
def nodupB : List Nat → Bool
  | [] => true
  | n :: l => cond (memN n l) false (nodupB l)
def buildSliceO (d : Nat) (l : Lay) (n : Nat) (ps : List (Nat × T)) : Out := cond (Nat.blt 0 l.size && nodupB (ps.map (·.1)) && ps.all (fun p => Nat.blt p.1 n) && Nat.ble (n * l.size) 65536) (litK l ps 0 n fun es => newO d ⟨2, l.size, es⟩ fun m => .val false [.row m 0 n]) .no
def buildK (fs : List (Nat × Nat × Bool)) : List (Nat × T) → List A → (List A → Out) → Out
  | [], zs, κ => κ zs
  | (f, .val _ cs) :: ps, zs, κ => match fs[f]? with
    | some (o, s, _) => cond (Nat.beq cs.length s) (spliceK zs o cs fun zs => buildK fs ps zs κ) .no
    | none => .no
  | _ :: _, _, _ => .no
def buildO (l : Lay) (ps : List (Nat × T)) : Out := match l with
  | .st _ z fs _ => buildK fs ps z fun cs => one (.val true cs)
  | _ => .no
def convO (l l' : Lay) (x : T) : Out := match l, l', x with
  | .w (.int _) _ _, .w (.int k) _ _, .val false [.f (.v (.int _ z))] => one (tI k (k.wrap z))
  | .w .string _ _, .w .string _ _, .val false [.f (.v (.string s))] => one (tS s)
  | _, _, _ => .no
def byteL (b : UInt8) : List A := [.f (.v (.int .u8 b.toNat))]
def bytesO (el : Option Lay) (x : T) : Out := match el with
  | some (.w (.int .u8) _ _) => match x with
    | .val false [.row n lo hi] => aliveO n fun _ wd es => cond (Nat.beq wd 1) (.ex (fun s : ByteArray => (es.take hi).drop lo = s.data.toList.map byteL) fun s => one (tS s)) .no
    | .val false [.nl] => one (tS .empty)
    | _ => .no
  | _ => .no
def capsK : List T → (List (Bool × List A) → Out) → Out
  | [], κ => κ []
  | .val ag cs :: xs, κ => capsK xs fun r => κ ((ag, cs) :: r)
  | _ :: _, _ => .no
def opO (tb : Tab) (o : Op) (d : Nat) (ρ : Operand → T) : Out := match o with
  | .move x | .assign x => moveO (ρ x)
  | .pick c a b => pickO (ρ c) (ρ a) (ρ b)
  | .box t x => match tb t with
    | some l => boxO d l (ρ x)
    | none => .no
  | .alloc t => match tb t with
    | some l => allocO d l
    | none => .no
  | .build t ps => match tb t with
    | some l => buildO l (ps.toList.map fun p => (p.1, ρ p.2))
    | none => .no
  | .buildSlice t n ps => match tb t with
    | some (.w (.slice el) _ _) => match tb el with
      | some l => buildSliceO d l n (ps.toList.map fun p => (p.1, ρ p.2))
      | none => .no
    | _ => .no
  | .load t x => match tb t with
    | some l => loadO d l (ρ x)
    | none => .no
  | .store t x y => match tb t with
    | some l => storeO l (ρ x) (ρ y)
    | none => .no
  | .nilCheck x => nilO (ρ x)
  | .fieldAddr t x f => match tb t with
    | some (.st _ _ fs _) => match fs[f]? with
      | some (o, _, _) => addrO o (ρ x)
      | none => .no
    | _ => .no
  | .field t x f => match tb t with
    | some (.st _ _ fs _) => match fs[f]? with
      | some (o, s, ag) => fieldO o s ag (ρ x)
      | none => .no
    | _ => .no
  | .indexAddr t x i => match tb t with
    | some (.w (.slice el) _ _) => match tb el with
      | some l => idxO l (ρ x) (ρ i)
      | none => .no
    | _ => .no
  | .index t x i => match tb t with
    | some (.w .string _ _) => chrO (ρ x) (ρ i)
    | _ => .no
  | .binOp op t x y _ => match tb t with
    | some (.w .bool z b) => eqO op (.w .bool z b) (ρ x) (ρ y)
    | some (.st sz z fs b) => .no
    | some (.w (.pointer _) _ _) => biO op (ρ x) (ρ y)
    | some (.w (.slice _) _ _) => match y with
      | .const (.slice none 0 0) => nilSO op (ρ x)
      | _ => .no
    | _ => biN op (ρ x) (ρ y)
  | .unOp u _ x => unO u (ρ x)
  | .extract x i => extrO (ρ x) i
  | .convert s t x => match tb s, tb t with
    | some (.w (.slice el) _ _), some (.w .string _ _) => bytesO (tb el) (ρ x)
    | some l, some l' => convO l l' (ρ x)
    | _, _ => .no
  | .makeFunc (.func f) fst cs => cond (Nat.beq fst.size 0) (capsK (cs.toList.map ρ) fun caps => one (.val false [.cl f caps])) .no
  | .makeMap t r => match r with
    | none => newO d ⟨4, 2, []⟩ fun m => .val false [.mp m]
    | some _ => .no
  | .lookup t x i ok => match tb t, ok with
    | some (.w (.map kt et) _ _), false => match tb kt, tb et with
      | some lk, some le => lookO lk le (ρ x) (ρ i)
      | _, _ => .no
    | _, _ => .no
  | .mapUpdate t x i y => match tb t with
    | some (.w (.map kt _) _ _) => match tb kt with
      | some lk => mupdO lk (ρ x) (ρ i) (ρ y)
      | _ => .no
    | _ => .no
  | .makeSlice t x y => match tb t with
    | some (.w (.slice el) _ _) => match tb el with
      | some l => makeSliceO d l (ρ x) (ρ y)
      | none => .no
    | _ => .no
  | .slice t x lo hi mx => match tb t with
    | some l => sliceO d l (match l with
      | .w (.slice el) _ _ => tb el
      | _ => none) (ρ x) (lo.map ρ) (hi.map ρ) (mx.map ρ)
    | none => .no
  | .call c => match c.callee with
    | .builtin b => biltO tb b c.argTypes.toList (c.args.toList.map ρ) d
    | _ => .no
  | _ => .no
theorem opO_congr {tb : Tab} {o : Op} {d : Nat} {ρ ρ' : Operand → T} (h : ∀ x ∈ o.operands, ρ' x = ρ x) : opO tb o d ρ' = opO tb o d ρ := by
  have hl : ∀ {xs : Array Operand}, (∀ x ∈ xs, x ∈ o.operands) → xs.toList.map ρ' = xs.toList.map ρ := fun hx => List.map_congr_left fun x hm => h x (hx x (by simpa using hm))
  have hp : ∀ {ps : Array (Nat × Operand)}, (∀ p ∈ ps, p.2 ∈ o.operands) → (ps.toList.map fun p => (p.1, ρ' p.2)) = ps.toList.map fun p => (p.1, ρ p.2) := fun hx => List.map_congr_left fun p hm => by rw [h p.2 (hx p (by simpa using hm))]
  have ho : ∀ {x : Option Operand}, (∀ y, x = some y → y ∈ o.operands) → x.map ρ' = x.map ρ := fun {x} hx => by
    cases x with
    | none => rfl
    | some y => rw [Option.map_some, Option.map_some, h y (hx y rfl)]
  cases o with
  | build t ps => simp only [opO]; rw [hp (ps := ps) fun p hm => by simp only [Op.operands]; simp; exact ⟨_, hm⟩]
  | buildSlice t n ps => simp only [opO]; rw [hp (ps := ps) fun p hm => by simp only [Op.operands]; simp; exact ⟨_, hm⟩]
  | makeFunc f fst cs => cases f <;> simp only [opO]; rw [hl (xs := cs) fun x hm => by simp [Op.operands, hm]]
  | slice t x lo hi mx =>
    simp only [opO]
    rw [h x (by simp [Op.operands]), ho (x := lo) fun y hy => by simp [Op.operands, hy], ho (x := hi) fun y hy => by simp [Op.operands, hy], ho (x := mx) fun y hy => by simp [Op.operands, hy]]
  | call c =>
    obtain ⟨cal, args, ts⟩ := c
    simp only [opO]
    cases cal with
    | builtin b => dsimp only; rw [hl (xs := args) fun x hm => by simp [Op.operands, Call.operands, hm]]
    | _ => rfl
  | _ => first | rfl | (simp only [opO]; simp only [Op.operands] at h; simp only [h _ (by simp)]) | (simp only [opO]; simp [Op.operands] at h; simp only [h])
end Go.Proofs.YtecnmodeggnjoaaGreat.Ac
