/- Several of our texts, one behind the other, without what this claim does not need: AcDn, AcZ, AcGo, Rx. -/
import Derived.Test.YtecnmodeggnjoaaGreatZ855f7bb1
import Derived.Test.YtecnmodeggnjoaaGreatZ7c5578de
set_option linter.unusedVariables false
namespace Go.Proofs.YtecnmodeggnjoaaGreat.Ac
open Go.RowKit
section
variable {r : List (Nat × Nat)} {g : Hp} {hs' : Hs}
theorem fz_row {α : Type} {W : α → List A} {E : α → List L} {n fl wd lo hi : Nat} {es : List (List A)} {a : List α} (hn : g n = some (some ⟨fl, wd, es⟩)) (h4 : Nat.beq fl 4 = false) (hk : kept r hs' n = false) (he : (es.take hi).drop lo = a.map W) (hf : FrzR (gone r g hs') (a.map W) (a.map E)) : Frz (gone r g hs') (.row n lo hi) (.sl wd (a.map E)) := by
  rw [← he] at hf
  exact .row n lo hi ⟨fl, wd, es⟩ (a.map E) ⟨hn, hk, h4⟩ hf.1 hf.2.1 hf.2.2
theorem take_pre {α : Type} {W : α → List A} {a b : List α} {hi : Nat} (h : hi = a.length) : (((a ++ b).map W).take hi).drop 0 = a.map W := by
  subst h; rw [List.drop_zero, List.map_append, List.take_append_of_le_length (by simp), List.take_of_length_le (by simp)]
theorem fz_ints {n fl hi : Nat} {l : List Int} (hn : g n = some (some ⟨fl, 1, l.map intW⟩)) (h4 : Nat.beq fl 4 = false) (hk : kept r hs' n = false) (hi' : hi = l.length) : Frz (gone r g hs') (.row n 0 hi) (ints l) := fz_row hn h4 hk (take_all (by simpa using hi')) (frz_ints l)
theorem fz_txts {n fl hi : Nat} {l : List ByteArray} (hn : g n = some (some ⟨fl, 1, l.map txtW⟩)) (h4 : Nat.beq fl 4 = false) (hk : kept r hs' n = false) (hi' : hi = l.length) : Frz (gone r g hs') (.row n 0 hi) (txts l) := fz_row hn h4 hk (take_all (by simpa using hi')) (frz_txts l)
theorem fz_nds {n fl hi : Nat} {l : List Nd} (hn : g n = some (some ⟨fl, 5, l.map ndW⟩)) (h4 : Nat.beq fl 4 = false) (hk : kept r hs' n = false) (hi' : hi = l.length) : Frz (gone r g hs') (.row n 0 hi) (nds l) := fz_row hn h4 hk (take_all (by simpa using hi')) (frz_nds l)
theorem fz_tms {n fl hi : Nat} {l : List Tm} (hn : g n = some (some ⟨fl, 2, l.map tmW⟩)) (h4 : Nat.beq fl 4 = false) (hk : kept r hs' n = false) (hi' : hi = l.length) : Frz (gone r g hs') (.row n 0 hi) (tms l) := fz_row hn h4 hk (take_all (by simpa using hi')) (frz_tms l)
theorem fz_rus {n fl hi : Nat} {l : List Ru} (hn : g n = some (some ⟨fl, 3, l.map ruW⟩)) (h4 : Nat.beq fl 4 = false) (hk : kept r hs' n = false) (hi' : hi = l.length) : Frz (gone r g hs') (.row n 0 hi) (rus l) := fz_row hn h4 hk (take_all (by simpa using hi')) (frz_rus l)
theorem fz_eds {n fl hi : Nat} {l : List Ed} (hn : g n = some (some ⟨fl, 5, l.map edW⟩)) (h4 : Nat.beq fl 4 = false) (hk : kept r hs' n = false) (hi' : hi = l.length) : Frz (gone r g hs') (.row n 0 hi) (eds l) := fz_row hn h4 hk (take_all (by simpa using hi')) (frz_eds l)
theorem fz_hos {n fl hi : Nat} {l : List Ho} (hn : g n = some (some ⟨fl, 3, l.map hoW⟩)) (h4 : Nat.beq fl 4 = false) (hk : kept r hs' n = false) (hi' : hi = l.length) : Frz (gone r g hs') (.row n 0 hi) (hos l) := fz_row hn h4 hk (take_all (by simpa using hi')) (frz_hos l)
theorem fz_tbs {n fl hi : Nat} {l : List Tb} (hn : g n = some (some ⟨fl, 2, l.map tbW⟩)) (h4 : Nat.beq fl 4 = false) (hk : kept r hs' n = false) (hi' : hi = l.length) : Frz (gone r g hs') (.row n 0 hi) (tbs l) := fz_row hn h4 hk (take_all (by simpa using hi')) (frz_tbs l)
theorem fz_ses {n fl hi : Nat} {l : List Se} (hn : g n = some (some ⟨fl, 6, l.map seW⟩)) (h4 : Nat.beq fl 4 = false) (hk : kept r hs' n = false) (hi' : hi = l.length) : Frz (gone r g hs') (.row n 0 hi) (ses l) := fz_row hn h4 hk (take_all (by simpa using hi')) (frz_ses l)
theorem fz_evs {n fl hi : Nat} {l : List Ev} (hn : g n = some (some ⟨fl, 3, l.map evW⟩)) (h4 : Nat.beq fl 4 = false) (hk : kept r hs' n = false) (hi' : hi = l.length) : Frz (gone r g hs') (.row n 0 hi) (evs l) := fz_row hn h4 hk (take_all (by simpa using hi')) (frz_evs l)
theorem fz_intsP {n fl hi : Nat} {a b : List Int} (hn : g n = some (some ⟨fl, 1, (a ++ b).map intW⟩)) (h4 : Nat.beq fl 4 = false) (hk : kept r hs' n = false) (hi' : hi = a.length) : Frz (gone r g hs') (.row n 0 hi) (ints a) := fz_row hn h4 hk (take_pre hi') (frz_ints a)
theorem tl_intsP {n fl hi : Nat} {a b : List Int} (hn : g n = some (some ⟨fl, 1, (a ++ b).map intW⟩)) (h4 : Nat.beq fl 4 = false) (hk : kept r hs' n = false) (hi' : hi = a.length) : tlA true r g hs' (.row n 0 hi) (.f (ints a)) := tl_fz hn h4 hk (by rw [take_pre hi']; exact frz_ints a)
theorem cl_intsP (a : List Int) : clR (a.map intW) := cl_ints _
theorem pl_intsP (a : List Int) : plR (a.map intW) := pl_ints _
theorem fz_hosP {n fl hi : Nat} {a b : List Ho} (hn : g n = some (some ⟨fl, 3, (a ++ b).map hoW⟩)) (h4 : Nat.beq fl 4 = false) (hk : kept r hs' n = false) (hi' : hi = a.length) : Frz (gone r g hs') (.row n 0 hi) (hos a) := fz_row hn h4 hk (take_pre hi') (frz_hos a)
theorem tl_hosP {n fl hi : Nat} {a b : List Ho} (hn : g n = some (some ⟨fl, 3, (a ++ b).map hoW⟩)) (h4 : Nat.beq fl 4 = false) (hk : kept r hs' n = false) (hi' : hi = a.length) : tlA true r g hs' (.row n 0 hi) (.f (hos a)) := tl_fz hn h4 hk (by rw [take_pre hi']; exact frz_hos a)
theorem cl_hosP (a : List Ho) : clR (a.map hoW) := cl_hos _
theorem pl_hosP (a : List Ho) : plR (a.map hoW) := pl_hos _
end
theorem fzl {P : Prop} (h : P := by (repeat' first | with_reducible exact trivial | exact .f _ | exact .nl _ | exact fz_ints rfl rfl rfl (by simp) | exact fz_txts rfl rfl rfl (by simp) | exact fz_nds rfl rfl rfl (by simp) | exact fz_tms rfl rfl rfl (by simp) | exact fz_rus rfl rfl rfl (by simp) | exact fz_eds rfl rfl rfl (by simp) | exact fz_hos rfl rfl rfl (by simp) | exact fz_tbs rfl rfl rfl (by simp) | exact fz_ses rfl rfl rfl (by simp) | exact fz_evs rfl rfl rfl (by simp) | exact fz_intsP rfl rfl rfl (by simp) | exact fz_hosP rfl rfl rfl (by simp) | ((conv => whnf); first | exact trivial | apply And.intro))) : P := h
theorem don {P : Prop} (h : P := by ((repeat' first | with_reducible exact trivial | with_reducible exact rfl | ((with_reducible refine tl_id ?_); first | exact tl_pv rfl rfl rfl (List.cons_ne_nil _ _) | exact tl_pt rfl rfl rfl (List.cons_ne_nil _ _) fzl | exact tl_ints rfl rfl rfl (by simp) | exact tl_intsP rfl rfl rfl (by simp) | exact tl_txts rfl rfl rfl (by simp) | exact tl_nds rfl rfl rfl (by simp) | exact tl_tms rfl rfl rfl (by simp) | exact tl_rus rfl rfl rfl (by simp) | exact tl_eds rfl rfl rfl (by simp) | exact tl_hos rfl rfl rfl (by simp) | exact tl_hosP rfl rfl rfl (by simp) | exact tl_tbs rfl rfl rfl (by simp) | exact tl_ses rfl rfl rfl (by simp) | exact tl_evs rfl rfl rfl (by simp) | exact tl_hts rfl rfl rfl (by simp) | exact tl_rqs rfl rfl rfl (by simp) | refine tl_int ?_ | refine tl_bool ?_ | refine tl_str ?_ | refine tl_row rfl ?_ | ((conv => whnf); first | exact trivial | exact rfl | exact .inr rfl | exact .inl ⟨rfl, rfl⟩ | apply And.intro) | with_reducible refine tl_f ?_) | with_reducible exact cl_ints _ | with_reducible exact pl_ints _ | with_reducible exact cl_intsP _ | with_reducible exact pl_intsP _ | with_reducible exact cl_txts _ | with_reducible exact pl_txts _ | with_reducible exact cl_nds _ | with_reducible exact pl_nds _ | with_reducible exact cl_tms _ | with_reducible exact pl_tms _ | with_reducible exact cl_rus _ | with_reducible exact pl_rus _ | with_reducible exact cl_eds _ | with_reducible exact pl_eds _ | with_reducible exact cl_hos _ | with_reducible exact pl_hos _ | with_reducible exact cl_hosP _ | with_reducible exact pl_hosP _ | with_reducible exact cl_tbs _ | with_reducible exact pl_tbs _ | with_reducible exact cl_ses _ | with_reducible exact pl_ses _ | with_reducible exact cl_evs _ | with_reducible exact pl_evs _ | with_reducible exact cl_hts _ | with_reducible exact pl_hts _ | with_reducible exact cl_rqs _ | with_reducible exact pl_rqs _ | with_reducible exact cl_mp _ | (with_reducible refine Exists.intro _ (And.intro ?_ ?_); exact rfl; exact frzC_map _) | (refine ⟨_, rfl, ?_⟩; first | exact frzC_map _ | exact fzl) | ((conv => whnf); first | with_reducible exact trivial | exact rfl | apply And.intro | exact .inr rfl | exact .inl ⟨rfl, rfl⟩) | exact Nat.succ_pos _); all_goals (first | rfl | assumption | exact List.cons_ne_nil _ _ | exact q.symm | omega | (rw [IntKind.wrap_i64]; omega) | (simp; done) | (simp; omega)))) : P := h
end Go.Proofs.YtecnmodeggnjoaaGreat.Ac
set_option linter.unusedVariables false
set_option linter.unusedSimpArgs false
namespace Go.Proofs.YtecnmodeggnjoaaGreat.Ac
open Go.RowKit
inductive Fr where
  | sq (y : Code)
  | bl (id : Nat)
  | lp (n : Nat) (I : Nat → Es → Hs → Prop)
inductive St : Type 1 where
  | cd (c : Code)
  | ex (e : Exit)
  | os (sq : Bool) (a : Array Oper) (l : List Oper) (acc : List Eff)
  | op (sq : Bool) (a : Array Oper) (l : List Oper) (acc : List Eff) (d : Option Tmp) (o : Out) (rs : List Nat)
section
variable (P : Program) (tb : Tab) (N : Nat) (fp : List Nat) (Q : Post)
def natP (n : Nat) (κ : Nat → Prop) : Prop := match n with
  | 0 => κ 0
  | m + 1 => κ (m + 1)
theorem natP_eq {n : Nat} {κ : Nat → Prop} (h : natP n κ) : κ n := by cases n <;> exact h
def stp (ih : St → List Fr → Es → Hs → Prop) (st : St) (F : List Fr) (es : Es) (hs : Hs) : Prop := match st with
  | .cd c => match c with
    | .skip => ih (.ex .normal) F es hs
    | .region _ ops draw => match draw with
      | false => ih (.os true ops ops.toList []) F es hs
      | true => okB (Region.before ops) 0 ops.toList = true ∧ ih (.os false ops ops.toList []) F es hs
    | .seq x y => ih (.cd x) (.sq y :: F) es hs
    | .cond c x y => match evT (get es) c with
      | .val false [.f (.v (.bool true))] => ih (.cd x) F es hs
      | .val false [.f (.v (.bool false))] => ih (.cd y) F es hs
      | _ => False
    | .block id x => ih (.cd x) (.bl id :: F) es hs
    | .loop x => ∃ (I : Nat → Es → Hs → Prop), (∃ n gl r es' hs', Tell fp gl r es' hs' es hs ∧ I n es' hs') ∧ ∀ n es hs, I n es hs → ih (.cd x) (.lp n I :: F) es hs
    | .exit id => ih (.ex (.exit id)) F es hs
    | .ret => ih (.ex .ret) F es hs
    | _ => False
  | .ex e => match F with
    | [] => Q e es hs
    | .sq y :: F => match e with
      | .normal => ih (.cd y) F es hs
      | e => ih (.ex e) F es hs
    | .bl id :: F => match e with
      | .exit i => cond (Nat.beq i id) (ih (.ex .normal) F es hs) (ih (.ex (.exit i)) F es hs)
      | e => ih (.ex e) F es hs
    | .lp n I :: F => match e with
      | .normal => ∃ m gl r es' hs', m < n ∧ Tell fp gl r es' hs' es hs ∧ I m es' hs'
      | e => ih (.ex e) F es hs
  | .os sq a l acc => match l with
    | [] => match sq with
      | true => ih (.ex .normal) F es hs
      | false => pairsOK a (Region.before a) (nums 0 acc.reverse) = true ∧ ih (.ex .normal) F es hs
    | o :: l => cond (operOK' N o) (match gate a o (get es) with
      | some true => natP (o.dst.getD 0) fun d => ih (.op sq a l acc o.dst (actO P tb o.op d (evT (get es))) []) F es hs
      | some false => ih (.op sq a l acc o.dst (.ok (.tu []) []) []) F es hs
      | none => False) False
  | .op sq a l acc d o rs => match o with
    | .no => False
    | .ok v u => match d, u with
      | some d, [] => ih (.os sq a l (⟨v, rs, []⟩ :: acc)) F ((d, v) :: es) hs
      | some d, x :: u => ih (.os sq a l (⟨v, rs, x :: u⟩ :: acc)) F ((d, v) :: es) (x :: u ++ hs)
      | none, u => ih (.os sq a l (⟨v, rs, u⟩ :: acc)) F es (u ++ hs)
    | .rd n f => ih (.op sq a l acc d (f (get hs n)) (n :: rs)) F es hs
    | .spl c x y => (c → ih (.op sq a l acc d x rs) F es hs) ∧ (¬ c → ih (.op sq a l acc d y rs) F es hs)
    | .con c x => c ∧ ih (.op sq a l acc d x rs) F es hs
    | .ex p f => ∃ x, p x ∧ ih (.op sq a l acc d (f x) rs) F es hs
    | .all p f => match sq with
      | true => ∀ x, p x → ih (.op sq a l acc d (f x) rs) F es hs
      | false => False
noncomputable def run (fuel : Nat) : St → List Fr → Es → Hs → Prop := Nat.rec (motive := fun _ => St → List Fr → Es → Hs → Prop) (fun _ _ _ _ => False) (fun _ ih => stp P tb N fp Q ih) fuel
noncomputable def den : List Fr → Post
  | [] => Q
  | .sq y :: F => fun e es hs => match e with
    | .normal => awp P tb N fp y (den F) es hs
    | e => den F e es hs
  | .bl id :: F => fun e es hs => match e with
    | .exit i => cond (Nat.beq i id) (den F .normal es hs) (den F (.exit i) es hs)
    | e => den F e es hs
  | .lp n I :: F => fun e es hs => match e with
    | .normal => ∃ m gl r es' hs', m < n ∧ Tell fp gl r es' hs' es hs ∧ I m es' hs'
    | e => den F e es hs
noncomputable def endK (sq : Bool) (a : Array Oper) (F : List Fr) : Es → Hs → List Eff → Prop := fun es hs acc => match sq with
  | true => den P tb N fp Q F .normal es hs
  | false => pairsOK a (Region.before a) (nums 0 acc.reverse) = true ∧ den P tb N fp Q F .normal es hs
noncomputable def opK (sq : Bool) (a : Array Oper) (l : List Oper) (acc : List Eff) (d : Option Tmp) (F : List Fr) (es : Es) (hs : Hs) : Eff → Prop := fun ε => match ε with
  | ⟨v, rd, u⟩ => match d, u with
    | some d, [] => regK P tb N a sq l ((d, v) :: es) hs (⟨v, rd, []⟩ :: acc) (endK P tb N fp Q sq a F)
    | some d, x :: u => regK P tb N a sq l ((d, v) :: es) (x :: u ++ hs) (⟨v, rd, x :: u⟩ :: acc) (endK P tb N fp Q sq a F)
    | none, u => regK P tb N a sq l es (u ++ hs) (⟨v, rd, u⟩ :: acc) (endK P tb N fp Q sq a F)
def stOK (F : List Fr) (es : Es) (hs : Hs) : St → Prop
  | .cd c => awp P tb N fp c (den P tb N fp Q F) es hs
  | .ex e => den P tb N fp Q F e es hs
  | .os sq a l acc => regK P tb N a sq l es hs acc (endK P tb N fp Q sq a F)
  | .op sq a l acc d o rs => o.K sq (get hs) rs (opK P tb N fp Q sq a l acc d F es hs)
end
section
variable {P : Program} {tb : Tab} {N : Nat} {fp : List Nat} {Q : Post}
theorem run_awp : ∀ (fuel : Nat) (st : St) (F : List Fr) (es : Es) (hs : Hs), run P tb N fp Q fuel st F es hs → stOK P tb N fp Q F es hs st
  | 0, _, _, _, _, h => h.elim
  | n + 1, .cd c, F, es, hs, h => by
    cases c with
    | skip => exact run_awp n (.ex .normal) F es hs h
    | region id ops draw =>
      cases draw with
      | false => exact run_awp n (.os true ops ops.toList []) F es hs h
      | true => exact ⟨h.1, run_awp n (.os false ops ops.toList []) F es hs h.2⟩
    | seq x y => exact run_awp n (.cd x) (.sq y :: F) es hs h
    | cond c x y =>
      change (match evT (get es) c with
        | .val false [.f (.v (.bool true))] => run P tb N fp Q n (.cd x) F es hs
        | .val false [.f (.v (.bool false))] => run P tb N fp Q n (.cd y) F es hs
        | _ => False) at h
      show (match evT (get es) c with
        | .val false [.f (.v (.bool true))] => awp P tb N fp x (den P tb N fp Q F) es hs
        | .val false [.f (.v (.bool false))] => awp P tb N fp y (den P tb N fp Q F) es hs
        | _ => False)
      split at h
      · exact run_awp n (.cd x) F es hs h
      · exact run_awp n (.cd y) F es hs h
      · exact h.elim
    | block id x => exact run_awp n (.cd x) (.bl id :: F) es hs h
    | loop x =>
      obtain ⟨I, h1, h2⟩ := h
      exact ⟨I, h1, fun m es hs hI => run_awp n (.cd x) (.lp m I :: F) es hs (h2 m es hs hI)⟩
    | exit id => exact run_awp n (.ex (.exit id)) F es hs h
    | ret => exact run_awp n (.ex .ret) F es hs h
    | _ => exact h.elim
  | n + 1, .ex e, F, es, hs, h => by
    cases F with
    | nil => exact h
    | cons f F =>
      cases f with
      | sq y => cases e with
        | normal => exact run_awp n (.cd y) F es hs h
        | _ => exact run_awp n (.ex _) F es hs h
      | bl id => cases e with
        | exit i =>
          change cond (Nat.beq i id) (run P tb N fp Q n (.ex .normal) F es hs) (run P tb N fp Q n (.ex (.exit i)) F es hs) at h
          show cond (Nat.beq i id) (den P tb N fp Q F .normal es hs) (den P tb N fp Q F (.exit i) es hs)
          cases hb : Nat.beq i id <;> rw [hb] at h
          · exact run_awp n (.ex (.exit i)) F es hs h
          · exact run_awp n (.ex .normal) F es hs h
        | _ => exact run_awp n (.ex _) F es hs h
      | lp m I => cases e with
        | normal => exact h
        | _ => exact run_awp n (.ex _) F es hs h
  | n + 1, .os sq a l acc, F, es, hs, h => by
    cases l with
    | nil => cases sq with
      | true => exact run_awp n (.ex .normal) F es hs h
      | false => exact ⟨h.1, run_awp n (.ex .normal) F es hs h.2⟩
    | cons o l =>
      obtain ⟨h0, h⟩ := cond_elim' h
      show cond (operOK' N o) (match gate a o (get es) with
        | some true => (actO P tb o.op (o.dst.getD 0) (evT (get es))).K sq (get hs) [] (opK P tb N fp Q sq a l acc o.dst F es hs)
        | some false => opK P tb N fp Q sq a l acc o.dst F es hs ⟨.tu [], [], []⟩
        | none => False) False
      rw [h0]
      show (match gate a o (get es) with
        | some true => (actO P tb o.op (o.dst.getD 0) (evT (get es))).K sq (get hs) [] (opK P tb N fp Q sq a l acc o.dst F es hs)
        | some false => opK P tb N fp Q sq a l acc o.dst F es hs ⟨.tu [], [], []⟩
        | none => False)
      split at h
      · rename_i hg; exact run_awp n (.op sq a l acc o.dst _ []) F es hs (natP_eq h)
      · rename_i hg; exact run_awp n (.op sq a l acc o.dst (.ok (.tu []) []) []) F es hs h
      · exact h.elim
  | n + 1, .op sq a l acc d o rs, F, es, hs, h => by
    cases o with
    | no => exact h.elim
    | ok v u =>
      cases d with
      | none => exact run_awp n (.os sq a l _) F es _ h
      | some d => cases u with
        | nil => exact run_awp n (.os sq a l _) F _ hs h
        | cons x u => exact run_awp n (.os sq a l _) F _ _ h
    | rd m f => exact run_awp n (.op sq a l acc d (f (get hs m)) (m :: rs)) F es hs h
    | spl c x y => exact ⟨fun hc => run_awp n (.op sq a l acc d x rs) F es hs (h.1 hc), fun hc => run_awp n (.op sq a l acc d y rs) F es hs (h.2 hc)⟩
    | con c x => exact ⟨h.1, run_awp n (.op sq a l acc d x rs) F es hs h.2⟩
    | ex p f =>
      obtain ⟨x, hx, h⟩ := h
      exact ⟨x, hx, run_awp n (.op sq a l acc d (f x) rs) F es hs h⟩
    | all p f => cases sq with
      | true => exact fun x hx => run_awp n (.op true a l acc d (f x) rs) F es hs (h x hx)
      | false => exact h.elim
theorem gcalls_run (hT : TabOK P tb) (hm : P.follows .mixedOrders = true) {f : FuncId} {fn : Func} {c : Code} {H0 H1 : Hs} {args res : List (Bool × List A)} (hf : P.funcs[f]? = some fn) (hb : fn.body = some c) (hN : fn.ntmps = N) (hname : (fn.name == "runtime.NumGoroutine") = false)
    (hlen : args.length ≤ N) {vs : List ResultVar} (hres : fn.results.toList = vs) (hB : (inP H1 res && H1.all (fun x => inO H1 x.2) && H0.all (fun x => hasN H1 x.1)) = true) (hcl : clHs H1)
    (h : run P tb N (H0.map (·.1)) (finK tb (H0.map (·.1)) vs H1 res) 1000000 (.cd c) [] (entry 0 args) H0) : GCalls P f H0 args H1 res :=
  gcalls_of hT hm hf hb hN hname hlen hres hB hcl (run_awp _ _ _ _ _ h)
end
end Go.Proofs.YtecnmodeggnjoaaGreat.Ac
set_option linter.unusedVariables false
namespace Go.Proofs.YtecnmodeggnjoaaGreat.Ac
open Go.RowKit
theorem nw {P Q : Prop} (h : Q) (e : Q → P := by (intro h; (conv => whnf); exact h)) : P := e h
theorem nx {P Q : Prop} (h : Q) (e : Q → P := by (intro h; (conv => whnf); (repeat (refine ⟨by kernel_rfl, ?_⟩; (conv => whnf))); exact h)) : P := e h
theorem co {P A B C D Q : Prop} (a : A) (b : B) (c : C) (h : Q) (e : (A ∧ B ∧ C) ∧ D → P := by (intro h; (conv => whnf); exact h)) (e2 : Q → D := by (intro h; (conv => whnf); (repeat (refine ⟨by kernel_rfl, ?_⟩; (conv => whnf))); exact h)) : P := e ⟨⟨a, b, c⟩, e2 h⟩
theorem cd {P A B C D Q : Prop} (h : Q) (e : (A ∧ B ∧ C) ∧ D → P := by (intro h; (conv => whnf); exact h)) (e2 : Q → D := by (intro h; (conv => whnf); (repeat (refine ⟨by kernel_rfl, ?_⟩; (conv => whnf))); exact h)) (a : A := by exact don) (b : B := by exact don) (c : C := by exact don) : P := e ⟨⟨a, b, c⟩, e2 h⟩
theorem co1 {P A B C D Q : Prop} (a : A) (b : B) (c : C) (h : Q) (e : (A ∧ B ∧ C) ∧ D → P := by (intro h; (conv => whnf); exact h)) (e2 : Q → D := by (intro h; (conv => whnf); exact h)) : P := e ⟨⟨a, b, c⟩, e2 h⟩
theorem cd1 {P A B C D Q : Prop} (h : Q) (e : (A ∧ B ∧ C) ∧ D → P := by (intro h; (conv => whnf); exact h)) (e2 : Q → D := by (intro h; (conv => whnf); exact h)) (a : A := by exact don) (b : B := by exact don) (c : C := by exact don) : P := e ⟨⟨a, b, c⟩, e2 h⟩
section
variable {N : Nat} {f : FuncId} {fn : Func} {c : Code} {H0 H1 : Hs} {args res : List (Bool × List A)} {vs : List ResultVar} {Q : Prop}
theorem en (hf : Tryz.prog.funcs[f]? = some fn) (hN : fn.ntmps = N) (hcl : clHs H1) (h : awp Tryz.prog (get tbl) N (H0.map (·.1)) c (finK (get tbl) (H0.map (·.1)) vs H1 res) (entry 0 args) H0) (hb : fn.body = some c := by exact rfl) (hname : (fn.name == "runtime.NumGoroutine") = false := by kernel_rfl)
    (hlen : args.length ≤ N := by exact Nat.le_of_ble_eq_true rfl) (hres : fn.results.toList = vs := by exact rfl) (hB : (inP H1 res && H1.all (fun x => inO H1 x.2) && H0.all (fun x => hasN H1 x.1)) = true := by exact rfl) : GCalls Tryz.prog f H0 args H1 res :=
  gcalls_of tbl_ok mixed hf hb hN hname hlen hres hB hcl h
theorem gr (hf : Tryz.prog.funcs[f]? = some fn) (hN : fn.ntmps = N) (hcl : clHs H1) (h : Q) (hb : fn.body = some c := by exact rfl) (hname : (fn.name == "runtime.NumGoroutine") = false := by kernel_rfl)
    (hlen : args.length ≤ N := by exact Nat.le_of_ble_eq_true rfl) (hres : fn.results.toList = vs := by exact rfl) (hB : (inP H1 res && H1.all (fun x => inO H1 x.2) && H0.all (fun x => hasN H1 x.1)) = true := by exact rfl)
    (e : Q → run Tryz.prog (get tbl) N (H0.map (·.1)) (finK (get tbl) (H0.map (·.1)) vs H1 res) 1000000 (.cd c) [] (entry 0 args) H0 := by (intro h; (conv => whnf); (repeat (refine ⟨by kernel_rfl, ?_⟩; (conv => whnf))); exact h)) : GCalls Tryz.prog f H0 args H1 res :=
  gcalls_run tbl_ok mixed hf hb hN hname hlen hres hB hcl (e h)
theorem gr1 (hf : Tryz.prog.funcs[f]? = some fn) (hN : fn.ntmps = N) (hcl : clHs H1) (h : Q) (hb : fn.body = some c := by exact rfl) (hname : (fn.name == "runtime.NumGoroutine") = false := by kernel_rfl)
    (hlen : args.length ≤ N := by exact Nat.le_of_ble_eq_true rfl) (hres : fn.results.toList = vs := by exact rfl) (hB : (inP H1 res && H1.all (fun x => inO H1 x.2) && H0.all (fun x => hasN H1 x.1)) = true := by exact rfl)
    (e : Q → run Tryz.prog (get tbl) N (H0.map (·.1)) (finK (get tbl) (H0.map (·.1)) vs H1 res) 1000000 (.cd c) [] (entry 0 args) H0 := by (intro h; (conv => whnf); exact h)) : GCalls Tryz.prog f H0 args H1 res :=
  gcalls_run tbl_ok mixed hf hb hN hname hlen hres hB hcl (e h)
end
end Go.Proofs.YtecnmodeggnjoaaGreat.Ac
set_option linter.unusedVariables false
set_option linter.unusedSimpArgs false
set_option maxRecDepth 20000
set_option maxHeartbeats 20000000
namespace Go.Proofs.YtecnmodeggnjoaaGreat.Ac
open Go.RowKit
def ixP {α : Type} (p : α → Bool) : Nat → List α → Int
  | _, [] => -1
  | i, x :: l => if p x then i else ixP p (i + 1) l
theorem ixP_cons {α : Type} (p : α → Bool) (i : Nat) (x : α) (l : List α) : ixP p i (x :: l) = if p x then (i : Int) else ixP p (i + 1) l := rfl
theorem ixP_any {α : Type} {p : α → Bool} : ∀ (l : List α) (i : Nat), 0 ≤ ixP p i l ↔ ∃ x ∈ l, p x = true
  | [], i => by simp [ixP]
  | x :: l, i => by
    unfold ixP
    by_cases h : p x = true
    · rw [if_pos h]; exact ⟨fun _ => ⟨x, List.mem_cons_self, h⟩, fun _ => Int.natCast_nonneg i⟩
    · rw [if_neg h, ixP_any l (i + 1)]
      exact ⟨fun ⟨y, hy, hp⟩ => ⟨y, List.mem_cons_of_mem _ hy, hp⟩, fun ⟨y, hy, hp⟩ => by
        rcases List.mem_cons.1 hy with rfl | hy
        · exact absurd hp h
        · exact ⟨y, hy, hp⟩⟩
theorem ixP_at {α : Type} {p : α → Bool} : ∀ (l : List α) (i : Nat), (ixP p i l = -1 ∧ ∀ x ∈ l, p x = false) ∨ ∃ j, ∃ h : j < l.length, ixP p i l = ((i + j : Nat) : Int) ∧ p l[j] = true ∧ ∀ k (hk : k < j), p l[k] = false
  | [], i => .inl ⟨rfl, fun x hx => by cases hx⟩
  | x :: l, i => by
    unfold ixP
    by_cases h : p x = true
    · rw [if_pos h]; exact .inr ⟨0, by simp, by simp, h, fun k hk => by omega⟩
    · rw [if_neg h]
      rcases ixP_at l (i + 1) with ⟨h1, h2⟩ | ⟨j, hj, h1, h2, h3⟩
      · exact .inl ⟨h1, fun y hy => by
          rcases List.mem_cons.1 hy with rfl | hy
          · simpa using h
          · exact h2 y hy⟩
      · refine .inr ⟨j + 1, by simpa using hj, by rw [h1]; congr 1; omega, by simpa using h2, fun k hk => ?_⟩
        cases k with
        | zero => simpa using h
        | succ k => simpa using h3 k (by omega)
theorem ixfHold_ok (l : List Ho) (f : FuncId) (c : L) (p : Ho → Bool) (hl : l.length < 2 ^ 62) (hp : ∀ t ∈ l, FC Tryz.prog f [(true, hoL t), (false, [c])] [] [(false, [.f (bL (p t))])]) : FC Tryz.prog 250 [(false, [hos l]), (false, [.cl f [(false, [c])]])] [] [(false, [.f (iL (ixP p 0 l))])] := by
  refine gr Tryz.func250 Tryz.ntmps250 trivial ?_
  (refine ⟨fun m es hs => ∃ (i : Nat), (m + i = l.length) ∧ (ixP p i (l.drop i) = ixP p 0 l) ∧ es = [(8, .val false [.f (iL i)]), (7, .val false [.f (iL l.length)]), (1, .val false [.f (.cl f [(false, [c])])]), (0, .val false [.f (hos l)])] ∧ hs = [], ⟨l.length, [], [], _, _, don, 0, don, don, rfl, rfl⟩, ?_⟩; rintro m _ _ ⟨i, hIXHo0, hIXHo1, rfl, rfl⟩; refine nx ?_)
  refine ⟨fun h => nx ?_, fun h => nx ?_⟩
  have hi : i < l.length := by omega
  rw [List.drop_eq_getElem_cons hi] at hIXHo1
  rw [ixP_cons] at hIXHo1
  refine ⟨(i, hoL l[i]), ⟨rfl, by simp [hi]⟩, nx ?_⟩
  have hc := hp l[i] (List.getElem_mem _)
  cases hq : p l[i] with
  | true =>
    rw [hq] at hc hIXHo1
    rw [if_pos rfl] at hIXHo1
    refine ⟨([], _), hc, nx ?_⟩
    exact ⟨[], [], don⟩
  | false =>
    rw [hq] at hc hIXHo1
    rw [if_neg (by simp)] at hIXHo1
    refine ⟨([], _), hc, nx ?_⟩
    exact ⟨m - 1, [], [], _, _, by omega, don, (i + 1), don, don, rfl, rfl⟩
  rw [List.drop_eq_nil_of_le (by omega), show ixP p i [] = -1 from rfl] at hIXHo1
  exact ⟨[], [], don⟩
end Go.Proofs.YtecnmodeggnjoaaGreat.Ac
