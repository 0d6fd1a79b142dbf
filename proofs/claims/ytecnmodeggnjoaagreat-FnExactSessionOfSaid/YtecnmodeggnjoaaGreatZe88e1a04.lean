/- Several of our texts, one behind the other, without what this claim does not need: Sg, Sh. -/
import Derived.Test.YtecnmodeggnjoaaGreatZ2e4902f1
import Derived.Test.YtecnmodeggnjoaaGreatZ04c4a76f
import Derived.Test.YtecnmodeggnjoaaGreatZb0c9fef1
import Derived.Test.YtecnmodeggnjoaaGreatZ85d2aee0
set_option linter.unusedVariables false
set_option linter.unusedSimpArgs false
set_option maxRecDepth 20000
set_option maxHeartbeats 20000000
namespace Go.Proofs.YtecnmodeggnjoaaGreat.Ac
open Go.RowKit
def kindAt (ns : List Nd) (k : Int) : Int := ((ndAt ns k).map (·.kind)).getD 0
def kindsF (ns : List Nd) (ks : List Int) : List Int := ks.map (kindAt ns)
theorem kindAt_some {ns : List Nd} {k : Int} {n : Nd} (h : ndAt ns k = some n) : kindAt ns k = n.kind := by simp [kindAt, h]
theorem kindsF_step {ns : List Nd} {ks : List Int} {i : Nat} (hi : i < ks.length) : kindsF ns (ks.take (i + 1)) = kindsF ns (ks.take i) ++ [kindAt ns ks[i]] := by
  unfold kindsF
  rw [List.take_succ_eq_append_getElem hi, List.map_append]; rfl
theorem kindsF_len (ns : List Nd) (ks : List Int) : (kindsF ns ks).length = ks.length := by simp [kindsF]
theorem kindsOf_ok (d : Dc) (hR : Rise d.nodes) (hlen : d.nodes.length < 2 ^ 62) (id : Int) (n : Nd) (hn : ndAt d.nodes id = some n) (hc : ∀ c ∈ n.kids, ∃ m, ndAt d.nodes c = some m) (hk : n.kids.length < 2 ^ 28) :
    FC Tryz.prog 334 [(false, [.pv (dcL d)]), (false, [iL id])] [(1000, some ⟨0, 1, (kindsF d.nodes n.kids).map intW⟩)] [(false, [.row 1000 0 (kindsF d.nodes n.kids).length])] := by
  have hf := find_ok d id hR (hR.i64 hn) hlen
  rw [findL_some hn] at hf
  refine gr Tryz.func334 Tryz.ntmps334 (⟨cl_ints _, trivial⟩) ?_
  refine ⟨([], _), hf, nx ?_⟩
  (refine ⟨fun m es hs => ∃ (i : Nat), (m + i = n.kids.length) ∧ es = [(15, .val false [.f (iL i)]), (14, .val false [.f (iL n.kids.length)]), (13, .val false [.f (ints n.kids)]), (5, .val false [.row 3 0 (kindsF d.nodes (n.kids.take i)).length]), (0, .val false [.f (.pv (dcL d))])] ∧ hs = [(3, some ⟨0, 1, (kindsF d.nodes (n.kids.take i)).map intW⟩)], ⟨n.kids.length, [], [], _, _, ⟨rfl, ?_, ?_⟩, 0, ?_, rfl, rfl⟩, ?_⟩; rotate_left 3; rintro m _ _ ⟨i, hKA0, rfl, rfl⟩; refine nx ?_)
  refine ⟨fun h => nx ?_, fun h => nx ?_⟩
  have hi : i < n.kids.length := by omega
  obtain ⟨c, hcn⟩ := hc n.kids[i] (List.getElem_mem _)
  have hfc := find_ok d n.kids[i] hR (hR.i64 hcn) hlen
  rw [findL_some hcn] at hfc
  have hst := kindsF_step (ns := d.nodes) hi
  rw [kindAt_some hcn] at hst
  have hl1 := kindsF_len d.nodes (n.kids.take i)
  rw [List.length_take] at hl1
  refine ⟨(i, intE n.kids[i]), ge_idx hi rfl, nx ?_⟩
  refine ⟨([], _), hfc, nx ?_⟩
  refine ⟨(kindsF d.nodes (n.kids.take i) ++ [c.kind]).map intW, ⟨app_one intW _ _, by simp; omega⟩, nx ?_⟩
  (refine ⟨m - 1, [], [(3, 448)], [(15, .val false [.f (iL (i + 1))]), (14, .val false [.f (iL n.kids.length)]), (13, .val false [.f (ints n.kids)]), (5, .val false [.row 3 0 (kindsF d.nodes (n.kids.take (i + 1))).length]), (0, .val false [.f (.pv (dcL d))])], [(3, some ⟨0, 1, (kindsF d.nodes (n.kids.take (i + 1))).map intW⟩)], by omega, ⟨rfl, ?_, ?_⟩, (i + 1), ?_, rfl, rfl⟩; rotate_left 3)
  have hi : n.kids.length ≤ i := by omega
  rw [List.take_of_length_le hi]
  (refine ⟨[], [(1000, 3)], ?_⟩; rotate_left)
  all_goals (try (repeat' first | exact trivial | exact rfl | exact tl_pv rfl rfl rfl (List.cons_ne_nil _ _) | exact ⟨_, rfl, frzC_map _⟩ | exact tl_ints rfl rfl rfl (by simp) | exact tl_txts rfl rfl rfl (by simp) | exact tl_nds rfl rfl rfl (by simp) | exact tl_tms rfl rfl rfl (by simp) | exact tl_rus rfl rfl rfl (by simp) | ((conv => whnf); first | exact trivial | exact rfl | exact .inr rfl | exact .inl ⟨rfl, rfl⟩ | apply And.intro) | refine tl_int ?_ | refine tl_bool ?_ | refine tl_str ?_ | refine tl_row rfl ?_ | exact cl_ints _ | exact cl_txts _ | exact cl_nds _ | exact cl_tms _ | exact cl_rus _ | exact cl_mp _ | exact Nat.succ_pos _ | exact pl_ints _ | exact pl_txts _ | exact pl_nds _ | exact pl_tms _ | exact pl_rus _ | with_reducible refine tl_f ?_)); all_goals (try first | rfl | assumption | exact q.symm | omega | (rw [IntKind.wrap_i64]; omega) | (simp; done) | (simp; omega))
  all_goals first | (rw [hst]; done) | (rw [hst]; simp; done) | (dsimp only; rw [hst]; simp; done) | (dsimp only; rw [hst])
theorem l05Kids_ok (d : Dc) (hlen : d.nodes.length < 2 ^ 62) (n : Nd) (hc : ∀ c ∈ n.kids, ∃ m, ndAt d.nodes c = some m) (hk : n.kids.length < 2 ^ 28) :
    FC Tryz.prog 239 [(true, dcL d), (true, ndL n)] [(1000, some ⟨0, 1, (kindsF d.nodes n.kids).map intW⟩)] [(false, [.row 1000 0 (kindsF d.nodes n.kids).length])] := by
  refine gr Tryz.func239 Tryz.ntmps239 (⟨cl_ints _, trivial⟩) ?_
  (refine ⟨fun m es hs => ∃ (i : Nat), (m + i = n.kids.length) ∧ es = [(6, .val false [.f (iL i)]), (5, .val false [.row 3 0 (kindsF d.nodes (n.kids.take i)).length]), (3, .val false [.pt 64 0 0]), (2, .val false [.pt 48 0 0])] ∧ hs = [(3, some ⟨0, 1, (kindsF d.nodes (n.kids.take i)).map intW⟩), (64, some ⟨3, 5, [(ndL n).map .f]⟩), (48, some ⟨3, 3, [(dcL d).map .f]⟩)], ⟨n.kids.length, [], [(3, 128)], _, _, ⟨rfl, ?_, ?_⟩, 0, ?_, rfl, rfl⟩, ?_⟩; rotate_left 3; rintro m _ _ ⟨i, hKB0, rfl, rfl⟩; refine nx ?_)
  refine ⟨fun h => nx ?_, fun h => nx ?_⟩
  have hi : i < n.kids.length := by rw [List.length_map] at h; omega
  obtain ⟨c, hcn⟩ := hc n.kids[i] (List.getElem_mem _)
  have hat := l02At_ok d n.kids[i] hlen
  obtain ⟨j, hj, ha, hg⟩ := at_some hcn
  rw [ha] at hat
  have hst := kindsF_step (ns := d.nodes) hi
  rw [kindAt_some hcn] at hst
  have hl1 := kindsF_len d.nodes (n.kids.take i)
  rw [List.length_take] at hl1
  refine ⟨(i, intE n.kids[i]), ge_idx hi rfl, nx ?_⟩
  refine ⟨([], _), hat, nx ?_⟩
  refine ⟨(j, ndL d.nodes[j]), ⟨rfl, by simp [hj]⟩, nx ?_⟩
  rw [hg]
  refine ⟨(kindsF d.nodes (n.kids.take i) ++ [c.kind]).map intW, ⟨app_one intW _ _, by simp; omega⟩, nx ?_⟩
  (refine ⟨m - 1, [], [(3, 480)], [(6, .val false [.f (iL (i + 1))]), (5, .val false [.row 3 0 (kindsF d.nodes (n.kids.take (i + 1))).length]), (3, .val false [.pt 64 0 0]), (2, .val false [.pt 48 0 0])], [(3, some ⟨0, 1, (kindsF d.nodes (n.kids.take (i + 1))).map intW⟩), (64, some ⟨3, 5, [(ndL n).map .f]⟩), (48, some ⟨3, 3, [(dcL d).map .f]⟩)], by omega, ⟨rfl, ?_, ?_⟩, (i + 1), ?_, rfl, rfl⟩; rotate_left 3)
  have hi : n.kids.length ≤ i := by rw [List.length_map] at h; omega
  rw [List.take_of_length_le hi]
  (refine ⟨[], [(1000, 3)], ?_⟩; rotate_left)
  all_goals (try (repeat' first | exact trivial | exact rfl | exact tl_pv rfl rfl rfl (List.cons_ne_nil _ _) | exact ⟨_, rfl, frzC_map _⟩ | exact tl_ints rfl rfl rfl (by simp) | exact tl_txts rfl rfl rfl (by simp) | exact tl_nds rfl rfl rfl (by simp) | exact tl_tms rfl rfl rfl (by simp) | exact tl_rus rfl rfl rfl (by simp) | ((conv => whnf); first | exact trivial | exact rfl | exact .inr rfl | exact .inl ⟨rfl, rfl⟩ | apply And.intro) | refine tl_int ?_ | refine tl_bool ?_ | refine tl_str ?_ | refine tl_row rfl ?_ | exact cl_ints _ | exact cl_txts _ | exact cl_nds _ | exact cl_tms _ | exact cl_rus _ | exact cl_mp _ | exact Nat.succ_pos _ | exact pl_ints _ | exact pl_txts _ | exact pl_nds _ | exact pl_tms _ | exact pl_rus _ | with_reducible refine tl_f ?_)); all_goals (try first | rfl | assumption | exact q.symm | omega | (rw [IntKind.wrap_i64]; omega) | (simp; done) | (simp; omega))
  all_goals first | (rw [hst]; done) | (rw [hst]; simp; done) | (dsimp only; rw [hst]; simp; done) | (dsimp only; rw [hst]) | (simp [kindsF]; done)
end Go.Proofs.YtecnmodeggnjoaaGreat.Ac
set_option linter.unusedVariables false
set_option linter.unusedSimpArgs false
set_option maxRecDepth 20000
set_option maxHeartbeats 20000000
namespace Go.Proofs.YtecnmodeggnjoaaGreat.Ac
open Go.RowKit
def BadP (ns : List Nd) (n : Nd) (r : Ru) : Prop := r.leaf = true ∧ 0 < n.kids.length ∨ r.leaf = false ∧ (n.text ≠ ⟨#[]⟩ ∨ ¬ matchP r.terms (kindsF ns n.kids))
noncomputable def ndCode (l : List Ru) (ns : List Nd) (n : Nd) : Int := if (l.length : Int) < n.kind then 10 else match l[(n.kind - 1).toNat]? with
  | none => 0
  | some r => if dB (BadP ns n r) then 12 else 0
theorem ndCode_big {l : List Ru} {ns : List Nd} {n : Nd} (h : (l.length : Int) < n.kind) : ndCode l ns n = 10 := by unfold ndCode; rw [if_pos h]
theorem ndCode_bad {l : List Ru} {ns : List Nd} {n : Nd} {i : Nat} (hi : i < l.length) (h : n.kind = (i : Int) + 1) (hb : BadP ns n l[i]) : ndCode l ns n = 12 := by
  unfold ndCode
  rw [if_neg (by omega), show (n.kind - 1).toNat = i by omega, List.getElem?_eq_getElem hi]; simp only [dB_yes hb, if_true]
theorem ndCode_ok {l : List Ru} {ns : List Nd} {n : Nd} {i : Nat} (hi : i < l.length) (h : n.kind = (i : Int) + 1) (hb : ¬ BadP ns n l[i]) : ndCode l ns n = 0 := by
  unfold ndCode
  rw [if_neg (by omega), show (n.kind - 1).toNat = i by omega, List.getElem?_eq_getElem hi]; simp [dB_no hb]
def RuG (r : Ru) : Prop := RuB r ∧ r.terms.length < 2 ^ 61 ∧ ∀ t ∈ r.terms, TmB t ∧ ManyP t
theorem check_ok (l : List Ru) (hl : l.length < 2 ^ 62) (hg : ∀ r ∈ l, RuG r) (d : Dc) (hR : Rise d.nodes) (hlen : d.nodes.length < 2 ^ 62) (id : Int) (n : Nd) (hn : ndAt d.nodes id = some n) (hc : ∀ c ∈ n.kids, ∃ m, ndAt d.nodes c = some m) (hk : n.kids.length < 2 ^ 28) (hkd : 1 ≤ n.kind) (hks : n.kind < 2 ^ 62) :
    FC Tryz.prog 270 [(false, [rus l]), (false, [.pv (dcL d)]), (false, [iL id])] [] [(false, [.f (iL (ndCode l d.nodes n))])] := by
  have hf := find_ok d id hR (hR.i64 hn) hlen
  rw [findL_some hn] at hf
  have hll : ((l.map ruL).length : Int) = l.length := by rw [List.length_map]
  have hkl : ((n.kids.map intE).length : Int) = n.kids.length := by rw [List.length_map]
  refine gr Tryz.func270 Tryz.ntmps270 trivial ?_
  refine ⟨([], _), hf, nx ?_⟩
  rw [hll]
  refine ⟨fun h => nx ?_, fun h => nx ?_⟩
  have q := ndCode_big (ns := d.nodes) (n := n) h
  exact ⟨[], [], don⟩
  obtain ⟨i, hi0⟩ : ∃ i : Nat, n.kind = (i : Int) + 1 := ⟨(n.kind - 1).toNat, by omega⟩
  have hi : i < l.length := by omega
  have hr := hg l[i] (List.getElem_mem _)
  have hm := matches_ok l[i].terms (kindsF d.nodes n.kids) (by rw [kindsF_len]; omega) hr.2.1 hr.2.2
  have hkk := kindsOf_ok d hR hlen id n hn hc hk
  refine ⟨(i, ruL l[i]), ⟨by rw [wrap_id (by omega)]; omega, by simp [hi]⟩, nx ?_⟩
  cases k : l[i].leaf with
  | true =>
    refine nx ?_
    rw [hkl]
    refine ⟨fun h => nx ?_, fun h => nx ?_⟩
    have q := ndCode_bad (ns := d.nodes) hi hi0 (.inl ⟨k, by omega⟩)
    exact ⟨[], [], don⟩
    have q := ndCode_ok (ns := d.nodes) hi hi0 (fun w => by rcases w with w | w; have := w.2; omega; rw [k] at w; cases w.1)
    exact ⟨[], [], don⟩
  | false =>
    refine nx ?_
    by_cases k2 : n.text = ⟨#[]⟩
    refine ⟨fun h => absurd h (fun w => w k2), fun h => nx ?_⟩
    refine ⟨(_, _), hkk, nx ?_⟩
    by_cases k3 : matchP l[i].terms (kindsF d.nodes n.kids)
    refine ⟨⟨true, [], _, _, _, _⟩, hm.y k3, cd ?_⟩
    have q := ndCode_ok (ns := d.nodes) hi hi0 (fun w => by rcases w with w | w; rw [k] at w; cases w.1; rcases w.2 with w | w; exact w k2; exact w k3)
    exact ⟨[], [], don⟩
    refine ⟨⟨true, [], _, _, _, _⟩, hm.x k3, cd ?_⟩
    have q := ndCode_bad (ns := d.nodes) hi hi0 (.inr ⟨k, .inr k3⟩)
    exact ⟨[], [], don⟩
    refine ⟨fun h => nx ?_, fun h => absurd h (fun w => w k2)⟩
    have q := ndCode_bad (ns := d.nodes) hi hi0 (.inr ⟨k, .inl k2⟩)
    exact ⟨[], [], don⟩
noncomputable def chkF (l : List Ru) (ns : List Nd) : List Int → Int × Int
  | [] => (0, 0)
  | id :: r => match ndAt ns id with
    | none => (0, 0)
    | some n => if ndCode l ns n = 0 then chkF l ns r else (id, ndCode l ns n)
theorem chkF_cons {l : List Ru} {ns : List Nd} {id : Int} {r : List Int} {n : Nd} (h : ndAt ns id = some n) : chkF l ns (id :: r) = if ndCode l ns n = 0 then chkF l ns r else (id, ndCode l ns n) := by simp only [chkF, h]
theorem DOK.len {d : Dc} (h : DOK d) : d.nodes.length ≤ 40 := by have := h.1.2; omega
theorem DOK.ord_has {d : Dc} (h : DOK d) {x : Int} (hx : x ∈ orderF d.nodes 6 d.root) : ∃ n, ndAt d.nodes x = some n := by
  obtain ⟨_, _, h2⟩ := ord_up h.tree 6 d.root x h.2.2.2.2.1.1 hx
  exact Option.isSome_iff_exists.1 h2
theorem DOK.kl' {d : Dc} (h : DOK d) : ∀ n ∈ d.nodes, n.kids.length ≤ 12 := fun n hn => by
  obtain ⟨t, ht, rfl⟩ := List.mem_iff_getElem.1 hn
  exact (h.2.2.1 t ht).1.2.2.2.2
theorem DOK.kd {d : Dc} (h : DOK d) : ∀ n ∈ d.nodes, 1 ≤ n.kind ∧ n.kind ≤ 8 := fun n hn => by
  obtain ⟨t, ht, rfl⟩ := List.mem_iff_getElem.1 hn
  exact (h.2.2.1 t ht).1.2.1
theorem DOK.fits6 {d : Dc} (h : DOK d) : Fits d.nodes 6 d.root := depthF_fits h.kids 6 d.root h.2.2.2.2.1.1 h.2.2.2.2.1.2.2
theorem DOK.ordl {d : Dc} (h : DOK d) : (orderF d.nodes 6 d.root).length ≤ 40 := by rw [h.2.2.2.2.2]; exact h.len
theorem checkAll_ok (l : List Ru) (hl : l.length < 2 ^ 62) (hg : ∀ r ∈ l, RuG r) (d : Dc) (hd : DOK d) :
    FC Tryz.prog 192 [(false, [rus l]), (false, [.pv (dcL d)])] [] [(false, [.f (iL (chkF l d.nodes (orderF d.nodes 6 d.root)).1)]), (false, [.f (iL (chkF l d.nodes (orderF d.nodes 6 d.root)).2)])] := by
  have hll := hd.len
  have hol := hd.ordl
  have ho := order_ok d hd.rise (by omega) (fun n hn => by have := hd.kl' n hn; omega) 6 d.root hd.fits6 [] (by simp; omega)
  have hin : ∀ x ∈ orderF d.nodes 6 d.root, ∃ n, ndAt d.nodes x = some n := fun x hx => hd.ord_has hx
  rw [List.nil_append] at ho
  generalize orderF d.nodes 6 d.root = os at ho hol hin
  refine gr Tryz.func192 Tryz.ntmps192 trivial ?_
  refine ⟨⟨true, [(1, 7)], _, _, _, _⟩, ho, cd ?_⟩
  (refine ⟨fun m es hs => ∃ (i : Nat), (m + i = os.length) ∧ (chkF l d.nodes (os.drop i) = chkF l d.nodes os) ∧ es = [(16, .val false [.f (iL i)]), (15, .val false [.f (iL os.length)]), (14, .val false [.row 3 0 os.length]), (1, .val false [.f (.pv (dcL d))]), (0, .val false [.f (rus l)])] ∧ hs = [(3, some ⟨0, 1, os.map intW⟩)], ⟨os.length, [], [(3, 240)], _, _, don, 0, don, don, rfl, rfl⟩, ?_⟩; rintro m _ _ ⟨i, hCA0, hCA1, rfl, rfl⟩; refine nx ?_)
  refine ⟨fun h => nx ?_, fun h => nx ?_⟩
  have hi : i < os.length := by omega
  obtain ⟨n, hn⟩ := hin os[i] (List.getElem_mem _)
  have hnm := (ndAt_mem hn).1
  have hck := check_ok l hl hg d hd.rise (by omega) os[i] n hn (fun c hc => hd.kids n hnm c hc) (by have := hd.kl' n hnm; omega) (hd.kd n hnm).1 (by have := (hd.kd n hnm).2; omega)
  rw [List.drop_eq_getElem_cons hi, chkF_cons hn] at hCA1
  refine ⟨i, ⟨rfl, hi⟩, nx ?_⟩
  refine ⟨intW os[i], by simp [hi], nx ?_⟩
  refine ⟨([], _), hck, nx ?_⟩
  by_cases k : ndCode l d.nodes n = 0
  refine ⟨fun h => absurd h (fun w => w k), fun h => nx ?_⟩
  rw [if_pos k] at hCA1
  exact ⟨m - 1, [], [], _, _, by omega, don, (i + 1), don, don, rfl, rfl⟩
  refine ⟨fun h => nx ?_, fun h => absurd h (fun w => w k)⟩
  rw [if_neg k] at hCA1
  rw [← hCA1]
  exact ⟨[], [], don⟩
  have hi : os.length ≤ i := by omega
  rw [List.drop_eq_nil_of_le hi] at hCA1
  rw [← hCA1]
  exact ⟨[], [], don⟩
theorem l05Node_ok (l : List Ru) (hl : l.length < 2 ^ 62) (hg : ∀ r ∈ l, RuG r) (d : Dc) (hlen : d.nodes.length < 2 ^ 62) (n : Nd) (hc : ∀ c ∈ n.kids, ∃ m, ndAt d.nodes c = some m) (hk : n.kids.length < 2 ^ 28) (hkd : 1 ≤ n.kind) (hks : n.kind < 2 ^ 62) :
    FC Tryz.prog 235 [(false, [rus l]), (true, dcL d), (true, ndL n)] [] [(false, [.f (iL (ndCode l d.nodes n))])] := by
  have hll : ((l.map ruL).length : Int) = l.length := by rw [List.length_map]
  have hkl : ((n.kids.map intE).length : Int) = n.kids.length := by rw [List.length_map]
  refine gr Tryz.func235 Tryz.ntmps235 trivial ?_
  rw [hll]
  refine ⟨fun h => nx ?_, fun h => nx ?_⟩
  have q := ndCode_big (ns := d.nodes) (n := n) h
  exact ⟨[], [], don⟩
  obtain ⟨i, hi0⟩ : ∃ i : Nat, n.kind = (i : Int) + 1 := ⟨(n.kind - 1).toNat, by omega⟩
  have hi : i < l.length := by omega
  have hr := hg l[i] (List.getElem_mem _)
  have hm := l03Match_ok l[i].terms (kindsF d.nodes n.kids) (by rw [kindsF_len]; omega) hr.2.1 hr.2.2
  have hkk := l05Kids_ok d hlen n hc hk
  refine ⟨(i, ruL l[i]), ⟨by rw [wrap_id (by omega)]; omega, by simp [hi]⟩, nx ?_⟩
  cases k : l[i].leaf with
  | true =>
    refine nx ?_
    rw [hkl]
    refine ⟨fun h => nx ?_, fun h => nx ?_⟩
    have q := ndCode_bad (ns := d.nodes) hi hi0 (.inl ⟨k, by omega⟩)
    exact ⟨[], [], don⟩
    have q := ndCode_ok (ns := d.nodes) hi hi0 (fun w => by rcases w with w | w; have := w.2; omega; rw [k] at w; cases w.1)
    exact ⟨[], [], don⟩
  | false =>
    refine nx ?_
    by_cases k2 : n.text = ⟨#[]⟩
    refine ⟨fun h => absurd h (fun w => w k2), fun h => nx ?_⟩
    refine ⟨(_, _), hkk, nx ?_⟩
    by_cases k3 : matchP l[i].terms (kindsF d.nodes n.kids)
    refine ⟨⟨true, [], _, _, _, _⟩, hm.y k3, cd ?_⟩
    have q := ndCode_ok (ns := d.nodes) hi hi0 (fun w => by rcases w with w | w; rw [k] at w; cases w.1; rcases w.2 with w | w; exact w k2; exact w k3)
    exact ⟨[], [], don⟩
    refine ⟨⟨true, [], _, _, _, _⟩, hm.x k3, cd ?_⟩
    have q := ndCode_bad (ns := d.nodes) hi hi0 (.inr ⟨k, .inr k3⟩)
    exact ⟨[], [], don⟩
    refine ⟨fun h => nx ?_, fun h => absurd h (fun w => w k2)⟩
    have q := ndCode_bad (ns := d.nodes) hi hi0 (.inr ⟨k, .inl k2⟩)
    exact ⟨[], [], don⟩
theorem l05Doc_ok (l : List Ru) (hl : l.length < 2 ^ 62) (hg : ∀ r ∈ l, RuG r) (d : Dc) (hd : DOK d) :
    FC Tryz.prog 148 [(false, [rus l]), (true, dcL d)] [] [(false, [.f (iL (chkF l d.nodes (orderF d.nodes 6 d.root)).1)]), (false, [.f (iL (chkF l d.nodes (orderF d.nodes 6 d.root)).2)])] := by
  have hll := hd.len
  have hol := hd.ordl
  have ho := l02Order_ok d (by omega) (fun n hn => by have := hd.kl' n hn; omega) 6 d.root hd.fits6 (by omega)
  have hin : ∀ x ∈ orderF d.nodes 6 d.root, ∃ n, ndAt d.nodes x = some n := fun x hx => hd.ord_has hx
  generalize orderF d.nodes 6 d.root = os at ho hol hin
  refine gr Tryz.func148 Tryz.ntmps148 trivial ?_
  refine ⟨(_, _), ho, nx ?_⟩
  (refine ⟨fun m es hs => ∃ (i : Nat), (m + i = os.length) ∧ (chkF l d.nodes (os.drop i) = chkF l d.nodes os) ∧ es = [(7, .val false [.f (iL i)]), (6, .val false [.row 3 0 os.length]), (3, .val false [.pt 64 0 0]), (0, .val false [.f (rus l)])] ∧ hs = [(3, some ⟨0, 1, os.map intW⟩), (64, some ⟨3, 3, [(dcL d).map .f]⟩)], ⟨os.length, [], [(3, 208)], _, _, don, 0, don, don, rfl, rfl⟩, ?_⟩; rintro m _ _ ⟨i, hCB0, hCB1, rfl, rfl⟩; refine nx ?_)
  refine ⟨fun h => nx ?_, fun h => nx ?_⟩
  have hi : i < os.length := by omega
  obtain ⟨n, hn⟩ := hin os[i] (List.getElem_mem _)
  have hnm := (ndAt_mem hn).1
  have hat := l02At_ok d os[i] (by omega)
  obtain ⟨j, hj, ha, hgn⟩ := at_some hn
  rw [ha] at hat
  have hck := l05Node_ok l hl hg d (by omega) n (fun c hc => hd.kids n hnm c hc) (by have := hd.kl' n hnm; omega) (hd.kd n hnm).1 (by have := (hd.kd n hnm).2; omega)
  rw [List.drop_eq_getElem_cons hi, chkF_cons hn] at hCB1
  refine ⟨i, ⟨rfl, hi⟩, nx ?_⟩
  refine ⟨intW os[i], by simp [hi], nx ?_⟩
  refine ⟨([], _), hat, nx ?_⟩
  refine ⟨(j, ndL d.nodes[j]), ⟨rfl, by simp [hj]⟩, nx ?_⟩
  rw [hgn]
  refine ⟨([], _), hck, nx ?_⟩
  by_cases k : ndCode l d.nodes n = 0
  refine ⟨fun h => absurd h (fun w => w k), fun h => nx ?_⟩
  rw [if_pos k] at hCB1
  exact ⟨m - 1, [], [], _, _, by omega, don, (i + 1), don, don, rfl, rfl⟩
  refine ⟨fun h => nx ?_, fun h => absurd h (fun w => w k)⟩
  rw [if_neg k] at hCB1
  rw [← hCB1]
  refine ⟨i, ⟨rfl, hi⟩, nx ?_⟩
  refine ⟨intW os[i], by simp [hi], nx ?_⟩
  exact ⟨[], [], don⟩
  have hi : os.length ≤ i := by omega
  rw [List.drop_eq_nil_of_le hi] at hCB1
  rw [← hCB1]
  exact ⟨[], [], don⟩
end Go.Proofs.YtecnmodeggnjoaaGreat.Ac
