/- Several of our texts, one behind the other, without what this claim does not need: Sh. -/
import Derived.Test.YtchfpgpboifbeaaGreatZa44e2e96
import Derived.Test.YtchfpgpboifbeaaGreatZf8fe5bbc
set_option linter.unusedVariables false
set_option linter.unusedSimpArgs false
set_option maxRecDepth 20000
set_option maxHeartbeats 20000000
namespace Go.Proofs.YtchfpgpboifbeaaGreat.Ac
open Go.RowKit
def BadP (ns : List Nd) (n : Nd) (r : Ru) : Prop := r.leaf = true ∧ 0 < n.kids.length ∨ r.leaf = false ∧ (n.text ≠ ⟨#[]⟩ ∨ ¬ matchP r.terms (kindsF ns n.kids))
noncomputable def ndCode (l : List Ru) (ns : List Nd) (n : Nd) : Int := if (l.length : Int) < n.kind then 10 else match l[(n.kind - 1).toNat]? with
  | none => 0
  | some r => if dB (BadP ns n r) then 12 else 0
theorem ndCode_big {l : List Ru} {ns : List Nd} {n : Nd} (h : (l.length : Int) < n.kind) : ndCode l ns n = 10 := by unfold ndCode; rw [if_pos h]
theorem ndCode_bad {l : List Ru} {ns : List Nd} {n : Nd} {i : Nat} (hi : i < l.length) (h : n.kind = (i : Int) + 1) (hb : BadP ns n l[i]) : ndCode l ns n = 12 := by
  unfold ndCode
  rw [if_neg (by omega), show (n.kind - 1).toNat = i by omega, List.getElem?_eq_getElem hi]; simp only [dB_yes hb, if_true]
theorem ndCode_ok {l : List Ru} {ns : List Nd} {n : Nd} {i : Nat} (hi : i < l.length) (h : n.kind = (i : Int) + 1) (hb : ¬ BadP ns n l[i]) : ndCode l ns n = 0 := by
  unfold ndCode
  rw [if_neg (by omega), show (n.kind - 1).toNat = i by omega, List.getElem?_eq_getElem hi]; simp [dB_no hb]
def RuG (r : Ru) : Prop := RuB r ∧ r.terms.length < 2 ^ 61 ∧ ∀ t ∈ r.terms, TmB t ∧ ManyP t
theorem check_ok (l : List Ru) (hl : l.length < 2 ^ 62) (hg : ∀ r ∈ l, RuG r) (d : Dc) (hR : Rise d.nodes) (hlen : d.nodes.length < 2 ^ 62) (id : Int) (n : Nd) (hn : ndAt d.nodes id = some n) (hc : ∀ c ∈ n.kids, ∃ m, ndAt d.nodes c = some m) (hk : n.kids.length < 2 ^ 28) (hkd : 1 ≤ n.kind) (hks : n.kind < 2 ^ 62) :
    FC Tryz.prog 159 [(false, [rus l]), (false, [.pv (dcL d)]), (false, [iL id])] [] [(false, [.f (iL (ndCode l d.nodes n))])] := by
  have hf := find_ok d id hR (hR.i64 hn) hlen
  rw [findL_some hn] at hf
  have hll : ((l.map ruL).length : Int) = l.length := by rw [List.length_map]
  have hkl : ((n.kids.map intE).length : Int) = n.kids.length := by rw [List.length_map]
  refine gcalls_run tbl_ok mixed Tryz.func159 rfl Tryz.ntmps159 (by kernel_rfl) (Nat.le_of_ble_eq_true rfl) rfl rfl trivial ?_; (conv => whnf); (repeat (refine ⟨by kernel_rfl, ?_⟩; (conv => whnf)))
  (refine ⟨([], _), hf, ?_⟩; (conv => whnf); (repeat (refine ⟨by kernel_rfl, ?_⟩; (conv => whnf))))
  rw [hll]
  (refine ⟨fun h => ?_, fun h => ?_⟩ <;> ((conv => whnf); (repeat (refine ⟨by kernel_rfl, ?_⟩; (conv => whnf)))))
  have q := ndCode_big (ns := d.nodes) (n := n) h
  (refine ⟨[], [], ?_⟩; rotate_left)
  obtain ⟨i, hi0⟩ : ∃ i : Nat, n.kind = (i : Int) + 1 := ⟨(n.kind - 1).toNat, by omega⟩
  have hi : i < l.length := by omega
  have hr := hg l[i] (List.getElem_mem _)
  have hm := matches_ok l[i].terms (kindsF d.nodes n.kids) (by rw [kindsF_len]; omega) hr.2.1 hr.2.2
  have hkk := kindsOf_ok d hR hlen id n hn hc hk
  (refine ⟨(i, ruL l[i]), ⟨by rw [wrap_id (by omega)]; omega, by simp [hi]⟩, ?_⟩; (conv => whnf); (repeat (refine ⟨by kernel_rfl, ?_⟩; (conv => whnf))))
  cases k : l[i].leaf with
  | true =>
    (conv => whnf); (repeat (refine ⟨by kernel_rfl, ?_⟩; (conv => whnf)))
    rw [hkl]
    (refine ⟨fun h => ?_, fun h => ?_⟩ <;> ((conv => whnf); (repeat (refine ⟨by kernel_rfl, ?_⟩; (conv => whnf)))))
    have q := ndCode_bad (ns := d.nodes) hi hi0 (.inl ⟨k, by omega⟩)
    (refine ⟨[], [], ?_⟩; rotate_left)
    have q := ndCode_ok (ns := d.nodes) hi hi0 (fun w => by rcases w with w | w; have := w.2; omega; rw [k] at w; cases w.1)
    (refine ⟨[], [], ?_⟩; rotate_left)
    all_goals (try (repeat' first | exact trivial | exact rfl | exact tl_pv rfl rfl rfl (List.cons_ne_nil _ _) | exact ⟨_, rfl, frzC_map _⟩ | exact tl_ints rfl rfl rfl (by simp) | exact tl_txts rfl rfl rfl (by simp) | exact tl_nds rfl rfl rfl (by simp) | exact tl_tms rfl rfl rfl (by simp) | exact tl_rus rfl rfl rfl (by simp) | ((conv => whnf); first | exact trivial | exact rfl | exact .inr rfl | exact .inl ⟨rfl, rfl⟩ | apply And.intro) | refine tl_int ?_ | refine tl_bool ?_ | refine tl_str ?_ | refine tl_row rfl ?_ | exact cl_ints _ | exact cl_txts _ | exact cl_nds _ | exact cl_tms _ | exact cl_rus _ | exact cl_mp _ | exact Nat.succ_pos _ | exact pl_ints _ | exact pl_txts _ | exact pl_nds _ | exact pl_tms _ | exact pl_rus _ | with_reducible refine tl_f ?_)); all_goals (try first | rfl | assumption | exact q.symm | omega | (rw [IntKind.wrap_i64]; omega) | (simp; done) | (simp; omega))
  | false =>
    (conv => whnf); (repeat (refine ⟨by kernel_rfl, ?_⟩; (conv => whnf)))
    by_cases k2 : n.text = ⟨#[]⟩
    (refine ⟨fun h => absurd h (fun w => w k2), fun h => ?_⟩; (conv => whnf); (repeat (refine ⟨by kernel_rfl, ?_⟩; (conv => whnf))))
    (refine ⟨(_, _), hkk, ?_⟩; (conv => whnf); (repeat (refine ⟨by kernel_rfl, ?_⟩; (conv => whnf))))
    by_cases k3 : matchP l[i].terms (kindsF d.nodes n.kids)
    (refine ⟨⟨true, [], _, _, _, _⟩, hm.y k3, ?_⟩; (conv => whnf); (repeat (refine ⟨by kernel_rfl, ?_⟩; (conv => whnf))); refine ⟨⟨?_, ?_, ?_⟩, ?_⟩; rotate_left 3; (conv => whnf); (repeat (refine ⟨by kernel_rfl, ?_⟩; (conv => whnf))))
    have q := ndCode_ok (ns := d.nodes) hi hi0 (fun w => by rcases w with w | w; rw [k] at w; cases w.1; rcases w.2 with w | w; exact w k2; exact w k3)
    (refine ⟨[], [], ?_⟩; rotate_left)
    (refine ⟨⟨true, [], _, _, _, _⟩, hm.x k3, ?_⟩; (conv => whnf); (repeat (refine ⟨by kernel_rfl, ?_⟩; (conv => whnf))); refine ⟨⟨?_, ?_, ?_⟩, ?_⟩; rotate_left 3; (conv => whnf); (repeat (refine ⟨by kernel_rfl, ?_⟩; (conv => whnf))))
    have q := ndCode_bad (ns := d.nodes) hi hi0 (.inr ⟨k, .inr k3⟩)
    (refine ⟨[], [], ?_⟩; rotate_left)
    (refine ⟨fun h => ?_, fun h => absurd h (fun w => w k2)⟩; (conv => whnf); (repeat (refine ⟨by kernel_rfl, ?_⟩; (conv => whnf))))
    have q := ndCode_bad (ns := d.nodes) hi hi0 (.inr ⟨k, .inl k2⟩)
    (refine ⟨[], [], ?_⟩; rotate_left)
    all_goals (try (repeat' first | exact trivial | exact rfl | exact tl_pv rfl rfl rfl (List.cons_ne_nil _ _) | exact ⟨_, rfl, frzC_map _⟩ | exact tl_ints rfl rfl rfl (by simp) | exact tl_txts rfl rfl rfl (by simp) | exact tl_nds rfl rfl rfl (by simp) | exact tl_tms rfl rfl rfl (by simp) | exact tl_rus rfl rfl rfl (by simp) | ((conv => whnf); first | exact trivial | exact rfl | exact .inr rfl | exact .inl ⟨rfl, rfl⟩ | apply And.intro) | refine tl_int ?_ | refine tl_bool ?_ | refine tl_str ?_ | refine tl_row rfl ?_ | exact cl_ints _ | exact cl_txts _ | exact cl_nds _ | exact cl_tms _ | exact cl_rus _ | exact cl_mp _ | exact Nat.succ_pos _ | exact pl_ints _ | exact pl_txts _ | exact pl_nds _ | exact pl_tms _ | exact pl_rus _ | with_reducible refine tl_f ?_)); all_goals (try first | rfl | assumption | exact q.symm | omega | (rw [IntKind.wrap_i64]; omega) | (simp; done) | (simp; omega))
  all_goals (try (repeat' first | exact trivial | exact rfl | exact tl_pv rfl rfl rfl (List.cons_ne_nil _ _) | exact ⟨_, rfl, frzC_map _⟩ | exact tl_ints rfl rfl rfl (by simp) | exact tl_txts rfl rfl rfl (by simp) | exact tl_nds rfl rfl rfl (by simp) | exact tl_tms rfl rfl rfl (by simp) | exact tl_rus rfl rfl rfl (by simp) | ((conv => whnf); first | exact trivial | exact rfl | exact .inr rfl | exact .inl ⟨rfl, rfl⟩ | apply And.intro) | refine tl_int ?_ | refine tl_bool ?_ | refine tl_str ?_ | refine tl_row rfl ?_ | exact cl_ints _ | exact cl_txts _ | exact cl_nds _ | exact cl_tms _ | exact cl_rus _ | exact cl_mp _ | exact Nat.succ_pos _ | exact pl_ints _ | exact pl_txts _ | exact pl_nds _ | exact pl_tms _ | exact pl_rus _ | with_reducible refine tl_f ?_)); all_goals (try first | rfl | assumption | exact q.symm | omega | (rw [IntKind.wrap_i64]; omega) | (simp; done) | (simp; omega))
noncomputable def chkF (l : List Ru) (ns : List Nd) : List Int → Int × Int
  | [] => (0, 0)
  | id :: r => match ndAt ns id with
    | none => (0, 0)
    | some n => if ndCode l ns n = 0 then chkF l ns r else (id, ndCode l ns n)
theorem chkF_cons {l : List Ru} {ns : List Nd} {id : Int} {r : List Int} {n : Nd} (h : ndAt ns id = some n) : chkF l ns (id :: r) = if ndCode l ns n = 0 then chkF l ns r else (id, ndCode l ns n) := by simp only [chkF, h]
theorem DOK.len {d : Dc} (h : DOK d) : d.nodes.length ≤ 40 := by have := h.1.2; omega
theorem DOK.ord_has {d : Dc} (h : DOK d) {x : Int} (hx : x ∈ orderF d.nodes 6 d.root) : ∃ n, ndAt d.nodes x = some n := by
  obtain ⟨_, _, h2⟩ := ord_up h.tree 6 d.root x h.2.2.2.2.1.1 hx
  exact Option.isSome_iff_exists.1 h2
theorem DOK.kl' {d : Dc} (h : DOK d) : ∀ n ∈ d.nodes, n.kids.length ≤ 12 := fun n hn => by
  obtain ⟨t, ht, rfl⟩ := List.mem_iff_getElem.1 hn
  exact (h.2.2.1 t ht).1.2.2.2.2
theorem DOK.kd {d : Dc} (h : DOK d) : ∀ n ∈ d.nodes, 1 ≤ n.kind ∧ n.kind ≤ 8 := fun n hn => by
  obtain ⟨t, ht, rfl⟩ := List.mem_iff_getElem.1 hn
  exact (h.2.2.1 t ht).1.2.1
theorem DOK.fits6 {d : Dc} (h : DOK d) : Fits d.nodes 6 d.root := depthF_fits h.kids 6 d.root h.2.2.2.2.1.1 h.2.2.2.2.1.2.2
theorem DOK.ordl {d : Dc} (h : DOK d) : (orderF d.nodes 6 d.root).length ≤ 40 := by rw [h.2.2.2.2.2]; exact h.len
theorem checkAll_ok (l : List Ru) (hl : l.length < 2 ^ 62) (hg : ∀ r ∈ l, RuG r) (d : Dc) (hd : DOK d) :
    FC Tryz.prog 77 [(false, [rus l]), (false, [.pv (dcL d)])] [] [(false, [.f (iL (chkF l d.nodes (orderF d.nodes 6 d.root)).1)]), (false, [.f (iL (chkF l d.nodes (orderF d.nodes 6 d.root)).2)])] := by
  have hll := hd.len
  have hol := hd.ordl
  have ho := order_ok d hd.rise (by omega) (fun n hn => by have := hd.kl' n hn; omega) 6 d.root hd.fits6 [] (by simp; omega)
  have hin : ∀ x ∈ orderF d.nodes 6 d.root, ∃ n, ndAt d.nodes x = some n := fun x hx => hd.ord_has hx
  rw [List.nil_append] at ho
  generalize orderF d.nodes 6 d.root = os at ho hol hin
  refine gcalls_run tbl_ok mixed Tryz.func77 rfl Tryz.ntmps77 (by kernel_rfl) (Nat.le_of_ble_eq_true rfl) rfl rfl trivial ?_; (conv => whnf); (repeat (refine ⟨by kernel_rfl, ?_⟩; (conv => whnf)))
  (refine ⟨⟨true, [(1, 7)], _, _, _, _⟩, ho, ?_⟩; (conv => whnf); (repeat (refine ⟨by kernel_rfl, ?_⟩; (conv => whnf))); refine ⟨⟨?_, ?_, ?_⟩, ?_⟩; rotate_left 3; (conv => whnf); (repeat (refine ⟨by kernel_rfl, ?_⟩; (conv => whnf))))
  (refine ⟨fun (m : Nat) (es : Es) (hs : Hs) => ∃ (i : Nat), (m + i = os.length) ∧ (chkF l d.nodes (os.drop i) = chkF l d.nodes os) ∧ es = [(16, .val false [.f (iL i)]), (15, .val false [.f (iL os.length)]), (14, .val false [.row 3 0 os.length]), (1, .val false [.f (.pv (dcL d))]), (0, .val false [.f (rus l)])] ∧ hs = [(3, some ⟨0, 1, os.map intW⟩)], ⟨os.length, [], [(3, 240)], _, _, ⟨rfl, ?_, ?_⟩, 0, ?_, ?_, rfl, rfl⟩, ?_⟩; rotate_left 4; rintro m es hs ⟨i, hCA0, hCA1, rfl, rfl⟩; (conv => whnf); (repeat (refine ⟨by kernel_rfl, ?_⟩; (conv => whnf))))
  (refine ⟨fun h => ?_, fun h => ?_⟩ <;> ((conv => whnf); (repeat (refine ⟨by kernel_rfl, ?_⟩; (conv => whnf)))))
  have hi : i < os.length := by omega
  obtain ⟨n, hn⟩ := hin os[i] (List.getElem_mem _)
  have hnm := (ndAt_mem hn).1
  have hck := check_ok l hl hg d hd.rise (by omega) os[i] n hn (fun c hc => hd.kids n hnm c hc) (by have := hd.kl' n hnm; omega) (hd.kd n hnm).1 (by have := (hd.kd n hnm).2; omega)
  rw [List.drop_eq_getElem_cons hi, chkF_cons hn] at hCA1
  (refine ⟨i, ⟨rfl, hi⟩, ?_⟩; (conv => whnf); (repeat (refine ⟨by kernel_rfl, ?_⟩; (conv => whnf))))
  (refine ⟨intW os[i], by simp [hi], ?_⟩; (conv => whnf); (repeat (refine ⟨by kernel_rfl, ?_⟩; (conv => whnf))))
  (refine ⟨([], _), hck, ?_⟩; (conv => whnf); (repeat (refine ⟨by kernel_rfl, ?_⟩; (conv => whnf))))
  by_cases k : ndCode l d.nodes n = 0
  (refine ⟨fun h => absurd h (fun w => w k), fun h => ?_⟩; (conv => whnf); (repeat (refine ⟨by kernel_rfl, ?_⟩; (conv => whnf))))
  rw [if_pos k] at hCA1
  (refine ⟨m - 1, [], [], [(16, .val false [.f (iL (i + 1))]), (15, .val false [.f (iL os.length)]), (14, .val false [.row 3 0 os.length]), (1, .val false [.f (.pv (dcL d))]), (0, .val false [.f (rus l)])], [(3, some ⟨0, 1, os.map intW⟩)], by omega, ⟨rfl, ?_, ?_⟩, (i + 1), ?_, ?_, rfl, rfl⟩; rotate_left 4)
  (refine ⟨fun h => ?_, fun h => absurd h (fun w => w k)⟩; (conv => whnf); (repeat (refine ⟨by kernel_rfl, ?_⟩; (conv => whnf))))
  rw [if_neg k] at hCA1
  rw [← hCA1]
  (refine ⟨[], [], ?_⟩; rotate_left)
  have hi : os.length ≤ i := by omega
  rw [List.drop_eq_nil_of_le hi] at hCA1
  rw [← hCA1]
  (refine ⟨[], [], ?_⟩; rotate_left)
  all_goals (try (repeat' first | exact trivial | exact rfl | exact tl_pv rfl rfl rfl (List.cons_ne_nil _ _) | exact ⟨_, rfl, frzC_map _⟩ | exact tl_ints rfl rfl rfl (by simp) | exact tl_txts rfl rfl rfl (by simp) | exact tl_nds rfl rfl rfl (by simp) | exact tl_tms rfl rfl rfl (by simp) | exact tl_rus rfl rfl rfl (by simp) | ((conv => whnf); first | exact trivial | exact rfl | exact .inr rfl | exact .inl ⟨rfl, rfl⟩ | apply And.intro) | refine tl_int ?_ | refine tl_bool ?_ | refine tl_str ?_ | refine tl_row rfl ?_ | exact cl_ints _ | exact cl_txts _ | exact cl_nds _ | exact cl_tms _ | exact cl_rus _ | exact cl_mp _ | exact Nat.succ_pos _ | exact pl_ints _ | exact pl_txts _ | exact pl_nds _ | exact pl_tms _ | exact pl_rus _ | with_reducible refine tl_f ?_)); all_goals (try first | rfl | assumption | exact q.symm | omega | (rw [IntKind.wrap_i64]; omega) | (simp; done) | (simp; omega))
theorem l05Node_ok (l : List Ru) (hl : l.length < 2 ^ 62) (hg : ∀ r ∈ l, RuG r) (d : Dc) (hlen : d.nodes.length < 2 ^ 62) (n : Nd) (hc : ∀ c ∈ n.kids, ∃ m, ndAt d.nodes c = some m) (hk : n.kids.length < 2 ^ 28) (hkd : 1 ≤ n.kind) (hks : n.kind < 2 ^ 62) :
    FC Tryz.prog 151 [(false, [rus l]), (true, dcL d), (true, ndL n)] [] [(false, [.f (iL (ndCode l d.nodes n))])] := by
  have hll : ((l.map ruL).length : Int) = l.length := by rw [List.length_map]
  have hkl : ((n.kids.map intE).length : Int) = n.kids.length := by rw [List.length_map]
  refine gcalls_run tbl_ok mixed Tryz.func151 rfl Tryz.ntmps151 (by kernel_rfl) (Nat.le_of_ble_eq_true rfl) rfl rfl trivial ?_; (conv => whnf); (repeat (refine ⟨by kernel_rfl, ?_⟩; (conv => whnf)))
  rw [hll]
  (refine ⟨fun h => ?_, fun h => ?_⟩ <;> ((conv => whnf); (repeat (refine ⟨by kernel_rfl, ?_⟩; (conv => whnf)))))
  have q := ndCode_big (ns := d.nodes) (n := n) h
  (refine ⟨[], [], ?_⟩; rotate_left)
  obtain ⟨i, hi0⟩ : ∃ i : Nat, n.kind = (i : Int) + 1 := ⟨(n.kind - 1).toNat, by omega⟩
  have hi : i < l.length := by omega
  have hr := hg l[i] (List.getElem_mem _)
  have hm := l03Match_ok l[i].terms (kindsF d.nodes n.kids) (by rw [kindsF_len]; omega) hr.2.1 hr.2.2
  have hkk := l05Kids_ok d hlen n hc hk
  (refine ⟨(i, ruL l[i]), ⟨by rw [wrap_id (by omega)]; omega, by simp [hi]⟩, ?_⟩; (conv => whnf); (repeat (refine ⟨by kernel_rfl, ?_⟩; (conv => whnf))))
  cases k : l[i].leaf with
  | true =>
    (conv => whnf); (repeat (refine ⟨by kernel_rfl, ?_⟩; (conv => whnf)))
    rw [hkl]
    (refine ⟨fun h => ?_, fun h => ?_⟩ <;> ((conv => whnf); (repeat (refine ⟨by kernel_rfl, ?_⟩; (conv => whnf)))))
    have q := ndCode_bad (ns := d.nodes) hi hi0 (.inl ⟨k, by omega⟩)
    (refine ⟨[], [], ?_⟩; rotate_left)
    have q := ndCode_ok (ns := d.nodes) hi hi0 (fun w => by rcases w with w | w; have := w.2; omega; rw [k] at w; cases w.1)
    (refine ⟨[], [], ?_⟩; rotate_left)
    all_goals (try (repeat' first | exact trivial | exact rfl | exact tl_pv rfl rfl rfl (List.cons_ne_nil _ _) | exact ⟨_, rfl, frzC_map _⟩ | exact tl_ints rfl rfl rfl (by simp) | exact tl_txts rfl rfl rfl (by simp) | exact tl_nds rfl rfl rfl (by simp) | exact tl_tms rfl rfl rfl (by simp) | exact tl_rus rfl rfl rfl (by simp) | ((conv => whnf); first | exact trivial | exact rfl | exact .inr rfl | exact .inl ⟨rfl, rfl⟩ | apply And.intro) | refine tl_int ?_ | refine tl_bool ?_ | refine tl_str ?_ | refine tl_row rfl ?_ | exact cl_ints _ | exact cl_txts _ | exact cl_nds _ | exact cl_tms _ | exact cl_rus _ | exact cl_mp _ | exact Nat.succ_pos _ | exact pl_ints _ | exact pl_txts _ | exact pl_nds _ | exact pl_tms _ | exact pl_rus _ | with_reducible refine tl_f ?_)); all_goals (try first | rfl | assumption | exact q.symm | omega | (rw [IntKind.wrap_i64]; omega) | (simp; done) | (simp; omega))
  | false =>
    (conv => whnf); (repeat (refine ⟨by kernel_rfl, ?_⟩; (conv => whnf)))
    by_cases k2 : n.text = ⟨#[]⟩
    (refine ⟨fun h => absurd h (fun w => w k2), fun h => ?_⟩; (conv => whnf); (repeat (refine ⟨by kernel_rfl, ?_⟩; (conv => whnf))))
    (refine ⟨(_, _), hkk, ?_⟩; (conv => whnf); (repeat (refine ⟨by kernel_rfl, ?_⟩; (conv => whnf))))
    by_cases k3 : matchP l[i].terms (kindsF d.nodes n.kids)
    (refine ⟨⟨true, [], _, _, _, _⟩, hm.y k3, ?_⟩; (conv => whnf); (repeat (refine ⟨by kernel_rfl, ?_⟩; (conv => whnf))); refine ⟨⟨?_, ?_, ?_⟩, ?_⟩; rotate_left 3; (conv => whnf); (repeat (refine ⟨by kernel_rfl, ?_⟩; (conv => whnf))))
    have q := ndCode_ok (ns := d.nodes) hi hi0 (fun w => by rcases w with w | w; rw [k] at w; cases w.1; rcases w.2 with w | w; exact w k2; exact w k3)
    (refine ⟨[], [], ?_⟩; rotate_left)
    (refine ⟨⟨true, [], _, _, _, _⟩, hm.x k3, ?_⟩; (conv => whnf); (repeat (refine ⟨by kernel_rfl, ?_⟩; (conv => whnf))); refine ⟨⟨?_, ?_, ?_⟩, ?_⟩; rotate_left 3; (conv => whnf); (repeat (refine ⟨by kernel_rfl, ?_⟩; (conv => whnf))))
    have q := ndCode_bad (ns := d.nodes) hi hi0 (.inr ⟨k, .inr k3⟩)
    (refine ⟨[], [], ?_⟩; rotate_left)
    (refine ⟨fun h => ?_, fun h => absurd h (fun w => w k2)⟩; (conv => whnf); (repeat (refine ⟨by kernel_rfl, ?_⟩; (conv => whnf))))
    have q := ndCode_bad (ns := d.nodes) hi hi0 (.inr ⟨k, .inl k2⟩)
    (refine ⟨[], [], ?_⟩; rotate_left)
    all_goals (try (repeat' first | exact trivial | exact rfl | exact tl_pv rfl rfl rfl (List.cons_ne_nil _ _) | exact ⟨_, rfl, frzC_map _⟩ | exact tl_ints rfl rfl rfl (by simp) | exact tl_txts rfl rfl rfl (by simp) | exact tl_nds rfl rfl rfl (by simp) | exact tl_tms rfl rfl rfl (by simp) | exact tl_rus rfl rfl rfl (by simp) | ((conv => whnf); first | exact trivial | exact rfl | exact .inr rfl | exact .inl ⟨rfl, rfl⟩ | apply And.intro) | refine tl_int ?_ | refine tl_bool ?_ | refine tl_str ?_ | refine tl_row rfl ?_ | exact cl_ints _ | exact cl_txts _ | exact cl_nds _ | exact cl_tms _ | exact cl_rus _ | exact cl_mp _ | exact Nat.succ_pos _ | exact pl_ints _ | exact pl_txts _ | exact pl_nds _ | exact pl_tms _ | exact pl_rus _ | with_reducible refine tl_f ?_)); all_goals (try first | rfl | assumption | exact q.symm | omega | (rw [IntKind.wrap_i64]; omega) | (simp; done) | (simp; omega))
  all_goals (try (repeat' first | exact trivial | exact rfl | exact tl_pv rfl rfl rfl (List.cons_ne_nil _ _) | exact ⟨_, rfl, frzC_map _⟩ | exact tl_ints rfl rfl rfl (by simp) | exact tl_txts rfl rfl rfl (by simp) | exact tl_nds rfl rfl rfl (by simp) | exact tl_tms rfl rfl rfl (by simp) | exact tl_rus rfl rfl rfl (by simp) | ((conv => whnf); first | exact trivial | exact rfl | exact .inr rfl | exact .inl ⟨rfl, rfl⟩ | apply And.intro) | refine tl_int ?_ | refine tl_bool ?_ | refine tl_str ?_ | refine tl_row rfl ?_ | exact cl_ints _ | exact cl_txts _ | exact cl_nds _ | exact cl_tms _ | exact cl_rus _ | exact cl_mp _ | exact Nat.succ_pos _ | exact pl_ints _ | exact pl_txts _ | exact pl_nds _ | exact pl_tms _ | exact pl_rus _ | with_reducible refine tl_f ?_)); all_goals (try first | rfl | assumption | exact q.symm | omega | (rw [IntKind.wrap_i64]; omega) | (simp; done) | (simp; omega))
theorem l05Doc_ok (l : List Ru) (hl : l.length < 2 ^ 62) (hg : ∀ r ∈ l, RuG r) (d : Dc) (hd : DOK d) :
    FC Tryz.prog 68 [(false, [rus l]), (true, dcL d)] [] [(false, [.f (iL (chkF l d.nodes (orderF d.nodes 6 d.root)).1)]), (false, [.f (iL (chkF l d.nodes (orderF d.nodes 6 d.root)).2)])] := by
  have hll := hd.len
  have hol := hd.ordl
  have ho := l02Order_ok d (by omega) (fun n hn => by have := hd.kl' n hn; omega) 6 d.root hd.fits6 (by omega)
  have hin : ∀ x ∈ orderF d.nodes 6 d.root, ∃ n, ndAt d.nodes x = some n := fun x hx => hd.ord_has hx
  generalize orderF d.nodes 6 d.root = os at ho hol hin
  refine gcalls_run tbl_ok mixed Tryz.func68 rfl Tryz.ntmps68 (by kernel_rfl) (Nat.le_of_ble_eq_true rfl) rfl rfl trivial ?_; (conv => whnf); (repeat (refine ⟨by kernel_rfl, ?_⟩; (conv => whnf)))
  (refine ⟨(_, _), ho, ?_⟩; (conv => whnf); (repeat (refine ⟨by kernel_rfl, ?_⟩; (conv => whnf))))
  (refine ⟨fun (m : Nat) (es : Es) (hs : Hs) => ∃ (i : Nat), (m + i = os.length) ∧ (chkF l d.nodes (os.drop i) = chkF l d.nodes os) ∧ es = [(7, .val false [.f (iL i)]), (6, .val false [.row 3 0 os.length]), (3, .val false [.pt 64 0 0]), (0, .val false [.f (rus l)])] ∧ hs = [(3, some ⟨0, 1, os.map intW⟩), (64, some ⟨3, 3, [(dcL d).map .f]⟩)], ⟨os.length, [], [(3, 208)], _, _, ⟨rfl, ?_, ?_⟩, 0, ?_, ?_, rfl, rfl⟩, ?_⟩; rotate_left 4; rintro m es hs ⟨i, hCB0, hCB1, rfl, rfl⟩; (conv => whnf); (repeat (refine ⟨by kernel_rfl, ?_⟩; (conv => whnf))))
  (refine ⟨fun h => ?_, fun h => ?_⟩ <;> ((conv => whnf); (repeat (refine ⟨by kernel_rfl, ?_⟩; (conv => whnf)))))
  have hi : i < os.length := by omega
  obtain ⟨n, hn⟩ := hin os[i] (List.getElem_mem _)
  have hnm := (ndAt_mem hn).1
  have hat := l02At_ok d os[i] (by omega)
  obtain ⟨j, hj, ha, hgn⟩ := at_some hn
  rw [ha] at hat
  have hck := l05Node_ok l hl hg d (by omega) n (fun c hc => hd.kids n hnm c hc) (by have := hd.kl' n hnm; omega) (hd.kd n hnm).1 (by have := (hd.kd n hnm).2; omega)
  rw [List.drop_eq_getElem_cons hi, chkF_cons hn] at hCB1
  (refine ⟨i, ⟨rfl, hi⟩, ?_⟩; (conv => whnf); (repeat (refine ⟨by kernel_rfl, ?_⟩; (conv => whnf))))
  (refine ⟨intW os[i], by simp [hi], ?_⟩; (conv => whnf); (repeat (refine ⟨by kernel_rfl, ?_⟩; (conv => whnf))))
  (refine ⟨([], _), hat, ?_⟩; (conv => whnf); (repeat (refine ⟨by kernel_rfl, ?_⟩; (conv => whnf))))
  (refine ⟨(j, ndL d.nodes[j]), ⟨rfl, by simp [hj]⟩, ?_⟩; (conv => whnf); (repeat (refine ⟨by kernel_rfl, ?_⟩; (conv => whnf))))
  rw [hgn]
  (refine ⟨([], _), hck, ?_⟩; (conv => whnf); (repeat (refine ⟨by kernel_rfl, ?_⟩; (conv => whnf))))
  by_cases k : ndCode l d.nodes n = 0
  (refine ⟨fun h => absurd h (fun w => w k), fun h => ?_⟩; (conv => whnf); (repeat (refine ⟨by kernel_rfl, ?_⟩; (conv => whnf))))
  rw [if_pos k] at hCB1
  (refine ⟨m - 1, [], [], [(7, .val false [.f (iL (i + 1))]), (6, .val false [.row 3 0 os.length]), (3, .val false [.pt 64 0 0]), (0, .val false [.f (rus l)])], [(3, some ⟨0, 1, os.map intW⟩), (64, some ⟨3, 3, [(dcL d).map .f]⟩)], by omega, ⟨rfl, ?_, ?_⟩, (i + 1), ?_, ?_, rfl, rfl⟩; rotate_left 4)
  (refine ⟨fun h => ?_, fun h => absurd h (fun w => w k)⟩; (conv => whnf); (repeat (refine ⟨by kernel_rfl, ?_⟩; (conv => whnf))))
  rw [if_neg k] at hCB1
  rw [← hCB1]
  (refine ⟨i, ⟨rfl, hi⟩, ?_⟩; (conv => whnf); (repeat (refine ⟨by kernel_rfl, ?_⟩; (conv => whnf))))
  (refine ⟨intW os[i], by simp [hi], ?_⟩; (conv => whnf); (repeat (refine ⟨by kernel_rfl, ?_⟩; (conv => whnf))))
  (refine ⟨[], [], ?_⟩; rotate_left)
  have hi : os.length ≤ i := by omega
  rw [List.drop_eq_nil_of_le hi] at hCB1
  rw [← hCB1]
  (refine ⟨[], [], ?_⟩; rotate_left)
  all_goals (try (repeat' first | exact trivial | exact rfl | exact tl_pv rfl rfl rfl (List.cons_ne_nil _ _) | exact ⟨_, rfl, frzC_map _⟩ | exact tl_ints rfl rfl rfl (by simp) | exact tl_txts rfl rfl rfl (by simp) | exact tl_nds rfl rfl rfl (by simp) | exact tl_tms rfl rfl rfl (by simp) | exact tl_rus rfl rfl rfl (by simp) | ((conv => whnf); first | exact trivial | exact rfl | exact .inr rfl | exact .inl ⟨rfl, rfl⟩ | apply And.intro) | refine tl_int ?_ | refine tl_bool ?_ | refine tl_str ?_ | refine tl_row rfl ?_ | exact cl_ints _ | exact cl_txts _ | exact cl_nds _ | exact cl_tms _ | exact cl_rus _ | exact cl_mp _ | exact Nat.succ_pos _ | exact pl_ints _ | exact pl_txts _ | exact pl_nds _ | exact pl_tms _ | exact pl_rus _ | with_reducible refine tl_f ?_)); all_goals (try first | rfl | assumption | exact q.symm | omega | (rw [IntKind.wrap_i64]; omega) | (simp; done) | (simp; omega))
end Go.Proofs.YtchfpgpboifbeaaGreat.Ac
