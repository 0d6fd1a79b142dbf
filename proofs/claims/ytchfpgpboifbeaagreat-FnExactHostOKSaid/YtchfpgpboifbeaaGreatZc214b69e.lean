/- Several of our texts, one behind the other, without what this claim does not need: AcZ, Sa, AcId. -/
import Derived.Test.YtchfpgpboifbeaaGreatZcd7e5835
import Derived.Test.YtchfpgpboifbeaaGreatZ6cd73018
import Derived.Test.YtchfpgpboifbeaaGreatZ61b840e4
import Derived.Test.YtchfpgpboifbeaaGreatZ2372bb6a
import Derived.Test.YtchfpgpboifbeaaGreatZ06dedf39
set_option linter.unusedVariables false
set_option linter.unusedSimpArgs false
namespace Go.Proofs.YtchfpgpboifbeaaGreat.Ac
open Go.RowKit
inductive Fr where
  | sq (y : Code)
  | bl (id : Nat)
  | lp (n : Nat) (I : Nat → Es → Hs → Prop)
inductive St : Type 1 where
  | cd (c : Code)
  | ex (e : Exit)
  | os (sq : Bool) (a : Array Oper) (l : List Oper) (acc : List Eff)
  | op (sq : Bool) (a : Array Oper) (l : List Oper) (acc : List Eff) (d : Option Tmp) (o : Out) (rs : List Nat)
section
variable (P : Program) (tb : Tab) (N : Nat) (fp : List Nat) (Q : Post)
def natP (n : Nat) (κ : Nat → Prop) : Prop := match n with
  | 0 => κ 0
  | m + 1 => κ (m + 1)
theorem natP_eq {n : Nat} {κ : Nat → Prop} (h : natP n κ) : κ n := by cases n <;> exact h
def stp (ih : St → List Fr → Es → Hs → Prop) (st : St) (F : List Fr) (es : Es) (hs : Hs) : Prop := match st with
  | .cd c => match c with
    | .skip => ih (.ex .normal) F es hs
    | .region _ ops draw => match draw with
      | false => ih (.os true ops ops.toList []) F es hs
      | true => okB (Region.before ops) 0 ops.toList = true ∧ ih (.os false ops ops.toList []) F es hs
    | .seq x y => ih (.cd x) (.sq y :: F) es hs
    | .cond c x y => match evT (get es) c with
      | .val false [.f (.v (.bool true))] => ih (.cd x) F es hs
      | .val false [.f (.v (.bool false))] => ih (.cd y) F es hs
      | _ => False
    | .block id x => ih (.cd x) (.bl id :: F) es hs
    | .loop x => ∃ (I : Nat → Es → Hs → Prop), (∃ n gl r es' hs', Tell fp gl r es' hs' es hs ∧ I n es' hs') ∧ ∀ n es hs, I n es hs → ih (.cd x) (.lp n I :: F) es hs
    | .exit id => ih (.ex (.exit id)) F es hs
    | .ret => ih (.ex .ret) F es hs
    | _ => False
  | .ex e => match F with
    | [] => Q e es hs
    | .sq y :: F => match e with
      | .normal => ih (.cd y) F es hs
      | e => ih (.ex e) F es hs
    | .bl id :: F => match e with
      | .exit i => cond (Nat.beq i id) (ih (.ex .normal) F es hs) (ih (.ex (.exit i)) F es hs)
      | e => ih (.ex e) F es hs
    | .lp n I :: F => match e with
      | .normal => ∃ m gl r es' hs', m < n ∧ Tell fp gl r es' hs' es hs ∧ I m es' hs'
      | e => ih (.ex e) F es hs
  | .os sq a l acc => match l with
    | [] => match sq with
      | true => ih (.ex .normal) F es hs
      | false => pairsOK a (Region.before a) (nums 0 acc.reverse) = true ∧ ih (.ex .normal) F es hs
    | o :: l => cond (operOK' N o) (match gate a o (get es) with
      | some true => natP (o.dst.getD 0) fun d => ih (.op sq a l acc o.dst (actO P tb o.op d (evT (get es))) []) F es hs
      | some false => ih (.op sq a l acc o.dst (.ok (.tu []) []) []) F es hs
      | none => False) False
  | .op sq a l acc d o rs => match o with
    | .no => False
    | .ok v u => match d, u with
      | some d, [] => ih (.os sq a l (⟨v, rs, []⟩ :: acc)) F ((d, v) :: es) hs
      | some d, x :: u => ih (.os sq a l (⟨v, rs, x :: u⟩ :: acc)) F ((d, v) :: es) (x :: u ++ hs)
      | none, u => ih (.os sq a l (⟨v, rs, u⟩ :: acc)) F es (u ++ hs)
    | .rd n f => ih (.op sq a l acc d (f (get hs n)) (n :: rs)) F es hs
    | .spl c x y => (c → ih (.op sq a l acc d x rs) F es hs) ∧ (¬ c → ih (.op sq a l acc d y rs) F es hs)
    | .con c x => c ∧ ih (.op sq a l acc d x rs) F es hs
    | .ex p f => ∃ x, p x ∧ ih (.op sq a l acc d (f x) rs) F es hs
    | .all p f => match sq with
      | true => ∀ x, p x → ih (.op sq a l acc d (f x) rs) F es hs
      | false => False
noncomputable def run (fuel : Nat) : St → List Fr → Es → Hs → Prop := Nat.rec (motive := fun _ => St → List Fr → Es → Hs → Prop) (fun _ _ _ _ => False) (fun _ ih => stp P tb N fp Q ih) fuel
noncomputable def den : List Fr → Post
  | [] => Q
  | .sq y :: F => fun e es hs => match e with
    | .normal => awp P tb N fp y (den F) es hs
    | e => den F e es hs
  | .bl id :: F => fun e es hs => match e with
    | .exit i => cond (Nat.beq i id) (den F .normal es hs) (den F (.exit i) es hs)
    | e => den F e es hs
  | .lp n I :: F => fun e es hs => match e with
    | .normal => ∃ m gl r es' hs', m < n ∧ Tell fp gl r es' hs' es hs ∧ I m es' hs'
    | e => den F e es hs
noncomputable def endK (sq : Bool) (a : Array Oper) (F : List Fr) : Es → Hs → List Eff → Prop := fun es hs acc => match sq with
  | true => den P tb N fp Q F .normal es hs
  | false => pairsOK a (Region.before a) (nums 0 acc.reverse) = true ∧ den P tb N fp Q F .normal es hs
noncomputable def opK (sq : Bool) (a : Array Oper) (l : List Oper) (acc : List Eff) (d : Option Tmp) (F : List Fr) (es : Es) (hs : Hs) : Eff → Prop := fun ε => match ε with
  | ⟨v, rd, u⟩ => match d, u with
    | some d, [] => regK P tb N a sq l ((d, v) :: es) hs (⟨v, rd, []⟩ :: acc) (endK P tb N fp Q sq a F)
    | some d, x :: u => regK P tb N a sq l ((d, v) :: es) (x :: u ++ hs) (⟨v, rd, x :: u⟩ :: acc) (endK P tb N fp Q sq a F)
    | none, u => regK P tb N a sq l es (u ++ hs) (⟨v, rd, u⟩ :: acc) (endK P tb N fp Q sq a F)
def stOK (F : List Fr) (es : Es) (hs : Hs) : St → Prop
  | .cd c => awp P tb N fp c (den P tb N fp Q F) es hs
  | .ex e => den P tb N fp Q F e es hs
  | .os sq a l acc => regK P tb N a sq l es hs acc (endK P tb N fp Q sq a F)
  | .op sq a l acc d o rs => o.K sq (get hs) rs (opK P tb N fp Q sq a l acc d F es hs)
end
section
variable {P : Program} {tb : Tab} {N : Nat} {fp : List Nat} {Q : Post}
theorem run_awp : ∀ (fuel : Nat) (st : St) (F : List Fr) (es : Es) (hs : Hs), run P tb N fp Q fuel st F es hs → stOK P tb N fp Q F es hs st
  | 0, _, _, _, _, h => h.elim
  | n + 1, .cd c, F, es, hs, h => by
    cases c with
    | skip => exact run_awp n (.ex .normal) F es hs h
    | region id ops draw =>
      cases draw with
      | false => exact run_awp n (.os true ops ops.toList []) F es hs h
      | true => exact ⟨h.1, run_awp n (.os false ops ops.toList []) F es hs h.2⟩
    | seq x y => exact run_awp n (.cd x) (.sq y :: F) es hs h
    | cond c x y =>
      change (match evT (get es) c with
        | .val false [.f (.v (.bool true))] => run P tb N fp Q n (.cd x) F es hs
        | .val false [.f (.v (.bool false))] => run P tb N fp Q n (.cd y) F es hs
        | _ => False) at h
      show (match evT (get es) c with
        | .val false [.f (.v (.bool true))] => awp P tb N fp x (den P tb N fp Q F) es hs
        | .val false [.f (.v (.bool false))] => awp P tb N fp y (den P tb N fp Q F) es hs
        | _ => False)
      split at h
      · exact run_awp n (.cd x) F es hs h
      · exact run_awp n (.cd y) F es hs h
      · exact h.elim
    | block id x => exact run_awp n (.cd x) (.bl id :: F) es hs h
    | loop x =>
      obtain ⟨I, h1, h2⟩ := h
      exact ⟨I, h1, fun m es hs hI => run_awp n (.cd x) (.lp m I :: F) es hs (h2 m es hs hI)⟩
    | exit id => exact run_awp n (.ex (.exit id)) F es hs h
    | ret => exact run_awp n (.ex .ret) F es hs h
    | _ => exact h.elim
  | n + 1, .ex e, F, es, hs, h => by
    cases F with
    | nil => exact h
    | cons f F =>
      cases f with
      | sq y => cases e with
        | normal => exact run_awp n (.cd y) F es hs h
        | _ => exact run_awp n (.ex _) F es hs h
      | bl id => cases e with
        | exit i =>
          change cond (Nat.beq i id) (run P tb N fp Q n (.ex .normal) F es hs) (run P tb N fp Q n (.ex (.exit i)) F es hs) at h
          show cond (Nat.beq i id) (den P tb N fp Q F .normal es hs) (den P tb N fp Q F (.exit i) es hs)
          cases hb : Nat.beq i id <;> rw [hb] at h
          · exact run_awp n (.ex (.exit i)) F es hs h
          · exact run_awp n (.ex .normal) F es hs h
        | _ => exact run_awp n (.ex _) F es hs h
      | lp m I => cases e with
        | normal => exact h
        | _ => exact run_awp n (.ex _) F es hs h
  | n + 1, .os sq a l acc, F, es, hs, h => by
    cases l with
    | nil => cases sq with
      | true => exact run_awp n (.ex .normal) F es hs h
      | false => exact ⟨h.1, run_awp n (.ex .normal) F es hs h.2⟩
    | cons o l =>
      obtain ⟨h0, h⟩ := cond_elim' h
      show cond (operOK' N o) (match gate a o (get es) with
        | some true => (actO P tb o.op (o.dst.getD 0) (evT (get es))).K sq (get hs) [] (opK P tb N fp Q sq a l acc o.dst F es hs)
        | some false => opK P tb N fp Q sq a l acc o.dst F es hs ⟨.tu [], [], []⟩
        | none => False) False
      rw [h0]
      show (match gate a o (get es) with
        | some true => (actO P tb o.op (o.dst.getD 0) (evT (get es))).K sq (get hs) [] (opK P tb N fp Q sq a l acc o.dst F es hs)
        | some false => opK P tb N fp Q sq a l acc o.dst F es hs ⟨.tu [], [], []⟩
        | none => False)
      split at h
      · rename_i hg; exact run_awp n (.op sq a l acc o.dst _ []) F es hs (natP_eq h)
      · rename_i hg; exact run_awp n (.op sq a l acc o.dst (.ok (.tu []) []) []) F es hs h
      · exact h.elim
  | n + 1, .op sq a l acc d o rs, F, es, hs, h => by
    cases o with
    | no => exact h.elim
    | ok v u =>
      cases d with
      | none => exact run_awp n (.os sq a l _) F es _ h
      | some d => cases u with
        | nil => exact run_awp n (.os sq a l _) F _ hs h
        | cons x u => exact run_awp n (.os sq a l _) F _ _ h
    | rd m f => exact run_awp n (.op sq a l acc d (f (get hs m)) (m :: rs)) F es hs h
    | spl c x y => exact ⟨fun hc => run_awp n (.op sq a l acc d x rs) F es hs (h.1 hc), fun hc => run_awp n (.op sq a l acc d y rs) F es hs (h.2 hc)⟩
    | con c x => exact ⟨h.1, run_awp n (.op sq a l acc d x rs) F es hs h.2⟩
    | ex p f =>
      obtain ⟨x, hx, h⟩ := h
      exact ⟨x, hx, run_awp n (.op sq a l acc d (f x) rs) F es hs h⟩
    | all p f => cases sq with
      | true => exact fun x hx => run_awp n (.op true a l acc d (f x) rs) F es hs (h x hx)
      | false => exact h.elim
theorem gcalls_run (hT : TabOK P tb) (hm : P.follows .mixedOrders = true) {f : FuncId} {fn : Func} {c : Code} {H0 H1 : Hs} {args res : List (Bool × List A)} (hf : P.funcs[f]? = some fn) (hb : fn.body = some c) (hN : fn.ntmps = N) (hname : (fn.name == "runtime.NumGoroutine") = false)
    (hlen : args.length ≤ N) {vs : List ResultVar} (hres : fn.results.toList = vs) (hB : (inP H1 res && H1.all (fun x => inO H1 x.2) && H0.all (fun x => hasN H1 x.1)) = true) (hcl : clHs H1)
    (h : run P tb N (H0.map (·.1)) (finK tb (H0.map (·.1)) vs H1 res) 1000000 (.cd c) [] (entry 0 args) H0) : GCalls P f H0 args H1 res :=
  gcalls_of hT hm hf hb hN hname hlen hres hB hcl (run_awp _ _ _ _ _ h)
end
end Go.Proofs.YtchfpgpboifbeaaGreat.Ac
set_option linter.unusedVariables false
set_option linter.unusedSimpArgs false
set_option maxRecDepth 20000
set_option maxHeartbeats 20000000
namespace Go.Proofs.YtchfpgpboifbeaaGreat.Ac
open Go.RowKit
theorem FC.t {P : Program} {f : FuncId} {a : List (Bool × List L)} {H1 : Hs} {p : Prop} [Decidable p] (h : FC P f a H1 [(false, [.f (bL (decide p))])]) (hp : p) : FC P f a H1 [(false, [.f (bL true)])] := by rwa [decide_eq_true hp] at h
theorem FC.n {P : Program} {f : FuncId} {a : List (Bool × List L)} {H1 : Hs} {p : Prop} [Decidable p] (h : FC P f a H1 [(false, [.f (bL (decide p))])]) (hp : ¬ p) : FC P f a H1 [(false, [.f (bL false)])] := by rwa [decide_eq_false hp] at h
@[reducible] def uL (c : Int) : L := .v (.int .u8 c)
def LetP (c : Int) : Prop := 97 ≤ c ∧ c ≤ 122 ∨ 65 ≤ c ∧ c ≤ 90 ∨ c = 95
def DigP (c : Int) : Prop := 48 ≤ c ∧ c ≤ 57
instance (c : Int) : Decidable (LetP c) := by unfold LetP; infer_instance
instance (c : Int) : Decidable (DigP c) := by unfold DigP; infer_instance
theorem isLetter_ok (c : Int) : FC Tryz.prog 276 [(false, [uL c])] [] [(false, [.f (bL (decide (LetP c)))])] := by
  refine gcalls_run tbl_ok mixed Tryz.func276 rfl Tryz.ntmps276 (by kernel_rfl) (Nat.le_of_ble_eq_true rfl) rfl rfl trivial ?_; (conv => whnf); (repeat (refine ⟨by kernel_rfl, ?_⟩; (conv => whnf)))
  (repeat' (apply And.intro <;> intro h <;> ((conv => whnf); (repeat (refine ⟨by kernel_rfl, ?_⟩; (conv => whnf)))))); (all_goals refine ⟨[], [], ?_⟩)
  all_goals (try (repeat' first | exact trivial | exact rfl | exact tl_pv rfl rfl rfl (List.cons_ne_nil _ _) | exact ⟨_, rfl, frzC_map _⟩ | exact tl_ints rfl rfl rfl (by simp) | exact tl_txts rfl rfl rfl (by simp) | exact tl_nds rfl rfl rfl (by simp) | ((conv => whnf); first | exact trivial | exact rfl | exact .inr rfl | exact .inl ⟨rfl, rfl⟩ | apply And.intro) | refine tl_int ?_ | refine tl_bool ?_ | refine tl_str ?_ | refine tl_row rfl ?_ | exact cl_ints _ | exact cl_txts _ | exact cl_nds _ | exact cl_mp _ | exact Nat.succ_pos _ | exact pl_ints _ | exact pl_txts _ | exact pl_nds _ | with_reducible refine tl_f ?_)); all_goals (try first | rfl | assumption | exact q.symm | omega | (rw [IntKind.wrap_i64]; omega) | (simp; done) | (simp; omega))
  all_goals first | exact b_true (by unfold LetP; omega) | exact b_false (by unfold LetP; omega)
theorem l00Letter_ok (c : Int) : FC Tryz.prog 271 [(false, [uL c])] [] [(false, [.f (bL (decide (LetP c)))])] := by
  refine gcalls_run tbl_ok mixed Tryz.func271 rfl Tryz.ntmps271 (by kernel_rfl) (Nat.le_of_ble_eq_true rfl) rfl rfl trivial ?_; (conv => whnf); (repeat (refine ⟨by kernel_rfl, ?_⟩; (conv => whnf)))
  (repeat' (apply And.intro <;> intro h <;> ((conv => whnf); (repeat (refine ⟨by kernel_rfl, ?_⟩; (conv => whnf)))))); (all_goals refine ⟨[], [], ?_⟩)
  all_goals (try (repeat' first | exact trivial | exact rfl | exact tl_pv rfl rfl rfl (List.cons_ne_nil _ _) | exact ⟨_, rfl, frzC_map _⟩ | exact tl_ints rfl rfl rfl (by simp) | exact tl_txts rfl rfl rfl (by simp) | exact tl_nds rfl rfl rfl (by simp) | ((conv => whnf); first | exact trivial | exact rfl | exact .inr rfl | exact .inl ⟨rfl, rfl⟩ | apply And.intro) | refine tl_int ?_ | refine tl_bool ?_ | refine tl_str ?_ | refine tl_row rfl ?_ | exact cl_ints _ | exact cl_txts _ | exact cl_nds _ | exact cl_mp _ | exact Nat.succ_pos _ | exact pl_ints _ | exact pl_txts _ | exact pl_nds _ | with_reducible refine tl_f ?_)); all_goals (try first | rfl | assumption | exact q.symm | omega | (rw [IntKind.wrap_i64]; omega) | (simp; done) | (simp; omega))
  all_goals first | exact b_true (by unfold LetP; omega) | exact b_false (by unfold LetP; omega)
theorem l00Digit_ok (c : Int) : FC Tryz.prog 272 [(false, [uL c])] [] [(false, [.f (bL (decide (DigP c)))])] := by
  refine gcalls_run tbl_ok mixed Tryz.func272 rfl Tryz.ntmps272 (by kernel_rfl) (Nat.le_of_ble_eq_true rfl) rfl rfl trivial ?_; (conv => whnf); (repeat (refine ⟨by kernel_rfl, ?_⟩; (conv => whnf)))
  (repeat' (apply And.intro <;> intro h <;> ((conv => whnf); (repeat (refine ⟨by kernel_rfl, ?_⟩; (conv => whnf)))))); (all_goals refine ⟨[], [], ?_⟩)
  all_goals (try (repeat' first | exact trivial | exact rfl | exact tl_pv rfl rfl rfl (List.cons_ne_nil _ _) | exact ⟨_, rfl, frzC_map _⟩ | exact tl_ints rfl rfl rfl (by simp) | exact tl_txts rfl rfl rfl (by simp) | exact tl_nds rfl rfl rfl (by simp) | ((conv => whnf); first | exact trivial | exact rfl | exact .inr rfl | exact .inl ⟨rfl, rfl⟩ | apply And.intro) | refine tl_int ?_ | refine tl_bool ?_ | refine tl_str ?_ | refine tl_row rfl ?_ | exact cl_ints _ | exact cl_txts _ | exact cl_nds _ | exact cl_mp _ | exact Nat.succ_pos _ | exact pl_ints _ | exact pl_txts _ | exact pl_nds _ | with_reducible refine tl_f ?_)); all_goals (try first | rfl | assumption | exact q.symm | omega | (rw [IntKind.wrap_i64]; omega) | (simp; done) | (simp; omega))
  all_goals first | exact b_true (by unfold DigP; omega) | exact b_false (by unfold DigP; omega)
def WordP (s : ByteArray) : Prop := (1 ≤ s.size ∧ s.size ≤ 12) ∧ ∀ i (h : i < s.size), LetP s[i].toNat ∨ 0 < i ∧ DigP s[i].toNat
noncomputable def dB (p : Prop) : Bool := @decide p (Classical.propDecidable _)
theorem dB_iff {p : Prop} : dB p = true ↔ p := by unfold dB; exact @decide_eq_true_iff _ (Classical.propDecidable _)
theorem dB_yes {p : Prop} (h : p) : dB p = true := dB_iff.2 h
theorem dB_no {p : Prop} (h : ¬ p) : dB p = false := by
  cases e : dB p with
  | false => rfl
  | true => exact absurd (dB_iff.1 e) h
theorem FC.y {P : Program} {f : FuncId} {a : List (Bool × List L)} {H1 : Hs} {p : Prop} (h : FC P f a H1 [(false, [.f (bL (dB p))])]) (hp : p) : FC P f a H1 [(false, [.f (bL true)])] := by rwa [dB_yes hp] at h
theorem FC.x {P : Program} {f : FuncId} {a : List (Bool × List L)} {H1 : Hs} {p : Prop} (h : FC P f a H1 [(false, [.f (bL (dB p))])]) (hp : ¬ p) : FC P f a H1 [(false, [.f (bL false)])] := by rwa [dB_no hp] at h
theorem nameOK_ok (s : ByteArray) (hs : s.size < 2 ^ 62) : FC Tryz.prog 228 [(false, [sL s])] [] [(false, [.f (bL (dB (WordP s)))])] := by
  refine gcalls_run tbl_ok mixed Tryz.func228 rfl Tryz.ntmps228 (by kernel_rfl) (Nat.le_of_ble_eq_true rfl) rfl rfl trivial ?_; (conv => whnf); (repeat (refine ⟨by kernel_rfl, ?_⟩; (conv => whnf)))
  (refine ⟨fun h => ?_, fun h => ?_⟩ <;> ((conv => whnf); (repeat (refine ⟨by kernel_rfl, ?_⟩; (conv => whnf)))))
  (refine ⟨[], [], ?_⟩; rotate_left)
  (refine ⟨fun h => ?_, fun h => ?_⟩ <;> ((conv => whnf); (repeat (refine ⟨by kernel_rfl, ?_⟩; (conv => whnf)))))
  (refine ⟨[], [], ?_⟩; rotate_left)
  have h0 : 0 < s.size := by omega
  (refine ⟨(0, s[0]), ⟨rfl, by simp [h0]⟩, ?_⟩; (conv => whnf); (repeat (refine ⟨by kernel_rfl, ?_⟩; (conv => whnf))))
  by_cases k0 : LetP s[0].toNat
  (refine ⟨([], _), (isLetter_ok _).t k0, ?_⟩; (conv => whnf); (repeat (refine ⟨by kernel_rfl, ?_⟩; (conv => whnf))))
  (refine ⟨fun (m : Nat) (es : Es) (hs : Hs) => ∃ (i : Nat), (m + i = s.size) ∧ (∀ j (h : j < s.size), j < i → LetP s[j].toNat ∨ 0 < j ∧ DigP s[j].toNat) ∧ es = [(20, .val false [.f (iL i)]), (19, .val false [.f (iL s.size)]), (0, .val false [.f (sL s)])] ∧ hs = [], ⟨s.size, [], [], _, _, ⟨rfl, ?_, ?_⟩, 0, ?_, ?_, rfl, rfl⟩, ?_⟩; rotate_left 4; rintro m es hs ⟨i, hNA0, hNA1, rfl, rfl⟩; (conv => whnf); (repeat (refine ⟨by kernel_rfl, ?_⟩; (conv => whnf))))
  (refine ⟨fun h => ?_, fun h => ?_⟩ <;> ((conv => whnf); (repeat (refine ⟨by kernel_rfl, ?_⟩; (conv => whnf)))))
  have hi : i < s.size := by omega
  (refine ⟨(i, s[i]), ⟨rfl, by simp [hi]⟩, ?_⟩; (conv => whnf); (repeat (refine ⟨by kernel_rfl, ?_⟩; (conv => whnf))))
  by_cases k : LetP s[i].toNat
  (refine ⟨([], _), (isLetter_ok _).t k, ?_⟩; (conv => whnf); (repeat (refine ⟨by kernel_rfl, ?_⟩; (conv => whnf))))
  (refine ⟨m - 1, [], [], [(20, .val false [.f (iL (i + 1))]), (19, .val false [.f (iL s.size)]), (0, .val false [.f (sL s)])], [], by omega, ⟨rfl, ?_, ?_⟩, (i + 1), ?_, ?_, rfl, rfl⟩; rotate_left 4)
  (refine ⟨([], _), (isLetter_ok _).n k, ?_⟩; (conv => whnf); (repeat (refine ⟨by kernel_rfl, ?_⟩; (conv => whnf))))
  (refine ⟨(i, s[i]), ⟨rfl, by simp [hi]⟩, ?_⟩; (conv => whnf); (repeat (refine ⟨by kernel_rfl, ?_⟩; (conv => whnf))))
  (refine ⟨fun h => ?_, fun h => ?_⟩ <;> ((conv => whnf); (repeat (refine ⟨by kernel_rfl, ?_⟩; (conv => whnf)))))
  (refine ⟨[], [], ?_⟩; rotate_left)
  (refine ⟨(i, s[i]), ⟨rfl, by simp [hi]⟩, ?_⟩; (conv => whnf); (repeat (refine ⟨by kernel_rfl, ?_⟩; (conv => whnf))))
  (refine ⟨fun h => ?_, fun h => ?_⟩ <;> ((conv => whnf); (repeat (refine ⟨by kernel_rfl, ?_⟩; (conv => whnf)))))
  (refine ⟨[], [], ?_⟩; rotate_left)
  (refine ⟨m - 1, [], [], [(20, .val false [.f (iL (i + 1))]), (19, .val false [.f (iL s.size)]), (0, .val false [.f (sL s)])], [], by omega, ⟨rfl, ?_, ?_⟩, (i + 1), ?_, ?_, rfl, rfl⟩; rotate_left 4)
  have hi : s.size ≤ i := by omega
  (refine ⟨[], [], ?_⟩; rotate_left)
  (refine ⟨([], _), (isLetter_ok _).n k0, ?_⟩; (conv => whnf); (repeat (refine ⟨by kernel_rfl, ?_⟩; (conv => whnf))))
  (refine ⟨[], [], ?_⟩; rotate_left)
  all_goals (try (repeat' first | exact trivial | exact rfl | exact tl_pv rfl rfl rfl (List.cons_ne_nil _ _) | exact ⟨_, rfl, frzC_map _⟩ | exact tl_ints rfl rfl rfl (by simp) | exact tl_txts rfl rfl rfl (by simp) | exact tl_nds rfl rfl rfl (by simp) | ((conv => whnf); first | exact trivial | exact rfl | exact .inr rfl | exact .inl ⟨rfl, rfl⟩ | apply And.intro) | refine tl_int ?_ | refine tl_bool ?_ | refine tl_str ?_ | refine tl_row rfl ?_ | exact cl_ints _ | exact cl_txts _ | exact cl_nds _ | exact cl_mp _ | exact Nat.succ_pos _ | exact pl_ints _ | exact pl_txts _ | exact pl_nds _ | with_reducible refine tl_f ?_)); all_goals (try first | rfl | assumption | exact q.symm | omega | (rw [IntKind.wrap_i64]; omega) | (simp; done) | (simp; omega))
  all_goals (try dsimp only at *)
  all_goals first
    | exact (dB_no fun w => by have := w.1; omega).symm
    | exact (dB_no fun w => k0 ((w.2 0 (by omega)).elim id fun q => absurd q.1 (by omega))).symm
    | exact (dB_no fun w => by rcases w.2 i hi with q | ⟨_, q⟩; exact k q; unfold DigP at q; omega).symm
    | exact (dB_yes ⟨by omega, fun j hj => hNA1 j hj (by omega)⟩).symm
    | (intro j hj hji; rcases Nat.lt_succ_iff_lt_or_eq.1 hji with q | rfl; exact hNA1 j hj q; exact .inl k)
    | (intro j hj hji; rcases Nat.lt_succ_iff_lt_or_eq.1 hji with q | rfl; exact hNA1 j hj q; refine .inr ⟨?_, by unfold DigP; omega⟩; rcases Nat.eq_zero_or_pos j with rfl | q; exact absurd k0 k; exact q)
theorem l00Word_ok (s : ByteArray) (hs : s.size < 2 ^ 62) : FC Tryz.prog 221 [(false, [sL s])] [] [(false, [.f (bL (dB (WordP s)))])] := by
  refine gcalls_run tbl_ok mixed Tryz.func221 rfl Tryz.ntmps221 (by kernel_rfl) (Nat.le_of_ble_eq_true rfl) rfl rfl trivial ?_; (conv => whnf); (repeat (refine ⟨by kernel_rfl, ?_⟩; (conv => whnf)))
  (refine ⟨fun h => ?_, fun h => ?_⟩ <;> ((conv => whnf); (repeat (refine ⟨by kernel_rfl, ?_⟩; (conv => whnf)))))
  (refine ⟨[], [], ?_⟩; rotate_left)
  (refine ⟨fun h => ?_, fun h => ?_⟩ <;> ((conv => whnf); (repeat (refine ⟨by kernel_rfl, ?_⟩; (conv => whnf)))))
  (refine ⟨[], [], ?_⟩; rotate_left)
  have h0 : 0 < s.size := by omega
  (refine ⟨(0, s[0]), ⟨rfl, by simp [h0]⟩, ?_⟩; (conv => whnf); (repeat (refine ⟨by kernel_rfl, ?_⟩; (conv => whnf))))
  by_cases k0 : LetP s[0].toNat
  (refine ⟨([], _), (l00Letter_ok _).t k0, ?_⟩; (conv => whnf); (repeat (refine ⟨by kernel_rfl, ?_⟩; (conv => whnf))))
  (refine ⟨fun (m : Nat) (es : Es) (hs : Hs) => ∃ (i : Nat), (m + i = s.size) ∧ (1 ≤ i) ∧ (∀ j (h : j < s.size), j < i → LetP s[j].toNat ∨ 0 < j ∧ DigP s[j].toNat) ∧ es = [(3, .val false [.f (iL i)]), (0, .val false [.f (sL s)])] ∧ hs = [], ⟨s.size - 1, [], [], _, _, ⟨rfl, ?_, ?_⟩, 1, ?_, ?_, ?_, rfl, rfl⟩, ?_⟩; rotate_left 5; rintro m es hs ⟨i, hNB0, hNB1, hNB2, rfl, rfl⟩; (conv => whnf); (repeat (refine ⟨by kernel_rfl, ?_⟩; (conv => whnf))))
  (refine ⟨fun h => ?_, fun h => ?_⟩ <;> ((conv => whnf); (repeat (refine ⟨by kernel_rfl, ?_⟩; (conv => whnf)))))
  have hi : i < s.size := by omega
  (refine ⟨(i, s[i]), ⟨rfl, by simp [hi]⟩, ?_⟩; (conv => whnf); (repeat (refine ⟨by kernel_rfl, ?_⟩; (conv => whnf))))
  by_cases k : LetP s[i].toNat
  (refine ⟨([], _), (l00Letter_ok _).t k, ?_⟩; (conv => whnf); (repeat (refine ⟨by kernel_rfl, ?_⟩; (conv => whnf))))
  (refine ⟨m - 1, [], [], [(3, .val false [.f (iL (i + 1))]), (0, .val false [.f (sL s)])], [], by omega, ⟨rfl, ?_, ?_⟩, (i + 1), ?_, ?_, ?_, rfl, rfl⟩; rotate_left 5)
  (refine ⟨([], _), (l00Letter_ok _).n k, ?_⟩; (conv => whnf); (repeat (refine ⟨by kernel_rfl, ?_⟩; (conv => whnf))))
  (refine ⟨(i, s[i]), ⟨rfl, by simp [hi]⟩, ?_⟩; (conv => whnf); (repeat (refine ⟨by kernel_rfl, ?_⟩; (conv => whnf))))
  by_cases k1 : DigP s[i].toNat
  (refine ⟨([], _), (l00Digit_ok _).t k1, ?_⟩; (conv => whnf); (repeat (refine ⟨by kernel_rfl, ?_⟩; (conv => whnf))))
  (refine ⟨m - 1, [], [], [(3, .val false [.f (iL (i + 1))]), (0, .val false [.f (sL s)])], [], by omega, ⟨rfl, ?_, ?_⟩, (i + 1), ?_, ?_, ?_, rfl, rfl⟩; rotate_left 5)
  (refine ⟨([], _), (l00Digit_ok _).n k1, ?_⟩; (conv => whnf); (repeat (refine ⟨by kernel_rfl, ?_⟩; (conv => whnf))))
  (refine ⟨[], [], ?_⟩; rotate_left)
  have hi : s.size ≤ i := by omega
  (refine ⟨[], [], ?_⟩; rotate_left)
  (refine ⟨([], _), (l00Letter_ok _).n k0, ?_⟩; (conv => whnf); (repeat (refine ⟨by kernel_rfl, ?_⟩; (conv => whnf))))
  (refine ⟨[], [], ?_⟩; rotate_left)
  all_goals (try (repeat' first | exact trivial | exact rfl | exact tl_pv rfl rfl rfl (List.cons_ne_nil _ _) | exact ⟨_, rfl, frzC_map _⟩ | exact tl_ints rfl rfl rfl (by simp) | exact tl_txts rfl rfl rfl (by simp) | exact tl_nds rfl rfl rfl (by simp) | ((conv => whnf); first | exact trivial | exact rfl | exact .inr rfl | exact .inl ⟨rfl, rfl⟩ | apply And.intro) | refine tl_int ?_ | refine tl_bool ?_ | refine tl_str ?_ | refine tl_row rfl ?_ | exact cl_ints _ | exact cl_txts _ | exact cl_nds _ | exact cl_mp _ | exact Nat.succ_pos _ | exact pl_ints _ | exact pl_txts _ | exact pl_nds _ | with_reducible refine tl_f ?_)); all_goals (try first | rfl | assumption | exact q.symm | omega | (rw [IntKind.wrap_i64]; omega) | (simp; done) | (simp; omega))
  all_goals (try dsimp only at *)
  all_goals first
    | exact (dB_no fun w => by have := w.1; omega).symm
    | exact (dB_no fun w => k0 ((w.2 0 (by omega)).elim id fun q => absurd q.1 (by omega))).symm
    | exact (dB_no fun w => by rcases w.2 i hi with q | ⟨_, q⟩; exact k q; exact k1 q).symm
    | exact (dB_yes ⟨by omega, fun j hj => hNB2 j hj (by omega)⟩).symm
    | (intro j hj hji; rcases Nat.lt_succ_iff_lt_or_eq.1 hji with q | rfl; exact hNB2 j hj q; exact .inl k)
    | (intro j hj hji; rcases Nat.lt_succ_iff_lt_or_eq.1 hji with q | rfl; exact hNB2 j hj q; exact .inr ⟨by omega, k1⟩)
    | (intro j hj hji; obtain rfl : j = 0 := by omega
       exact .inl k0)
end Go.Proofs.YtchfpgpboifbeaaGreat.Ac
set_option linter.unusedVariables false
namespace Go.Proofs.YtchfpgpboifbeaaGreat.Ac
theorem tl_id {fz : Bool} {r : List (Nat × Nat)} {g : Hp} {hs' : Hs} {x y : A} (h : tlA fz r g hs' x y) : tlA fz r g hs' x y := h
end Go.Proofs.YtchfpgpboifbeaaGreat.Ac
