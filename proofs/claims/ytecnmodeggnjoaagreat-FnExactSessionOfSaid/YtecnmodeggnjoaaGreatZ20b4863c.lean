/- Several of our texts, one behind the other, without what this claim does not need: Si, Sj, Sk, Li. -/
import Derived.Test.YtecnmodeggnjoaaGreatZ2e4902f1
import Derived.Test.YtecnmodeggnjoaaGreatZ2b6653c2
import Derived.Test.YtecnmodeggnjoaaGreatZ85d2aee0
import Derived.Test.YtecnmodeggnjoaaGreatZe0d619a2
import Derived.Test.YtecnmodeggnjoaaGreatZe88e1a04
import Derived.Test.YtecnmodeggnjoaaGreatZ4d16f992
import Derived.Test.YtecnmodeggnjoaaGreatZa8cb6901
import Derived.Test.YtecnmodeggnjoaaGreatZ4671c32c
set_option linter.unusedVariables false
set_option linter.unusedSimpArgs false
set_option maxRecDepth 20000
set_option maxHeartbeats 20000000
namespace Go.Proofs.YtecnmodeggnjoaaGreat.Ac
open Go.RowKit
theorem fmap_map {α : Type} {f : α → List L} {g : α → List A} (h : ∀ x, (f x).map A.f = g x) (l : List α) : (l.map f).map (·.map A.f) = l.map g := by
  rw [List.map_map]
  exact List.map_congr_left fun x _ => h x
theorem clone_ok (l : List Int) (hl : l.length < 2 ^ 28) : FC Tryz.prog 290 [(false, [ints l])] [(1000, some ⟨0, 1, l.map intW⟩)] [(false, [.row 1000 0 l.length])] := by
  refine gr Tryz.func290 Tryz.ntmps290 (⟨cl_ints _, trivial⟩) ?_
  intro b hb
  cases b with
  | true =>
    have e : l = [] := by simpa using hb rfl
    subst e
    refine nx ?_
    exact ⟨[], [(1000, 3)], don⟩
  | false =>
    refine nx ?_
    refine ⟨l.map intW, fmap_map (fun _ => rfl) l, nx ?_⟩
    refine ⟨l.map intW, ⟨rfl, by simp; omega⟩, nx ?_⟩
    exact ⟨[], [(1000, 128)], don⟩
theorem app_get {α : Type} {f : α → List A} {x : List α} {i : Nat} (e : List A) (hi : i < x.length) : ((x.take i).map f ++ [e])[i]? = some e := by
  have h1 : ((x.take i).map f).length = i := by simp; omega
  rw [List.getElem?_append_right (by omega), h1, Nat.sub_self]; rfl
theorem app_set {α : Type} {f : α → List A} {x : List α} {i : Nat} {e e' : List A} (hi : i < x.length) (h : e' = f x[i]) : ((x.take i).map f ++ [e]).set i e' = (x.take (i + 1)).map f := by
  have h1 : ((x.take i).map f).length = i := by simp; omega
  rw [List.set_append_right _ _ (by omega), h1, Nat.sub_self, List.set_cons_zero, List.take_succ_eq_append_getElem hi, List.map_append, h]; rfl
theorem app_ex {α : Type} {f : α → List A} {x : List α} {i k : Nat} {e : List A} (hk : k = (x.take i).length) (hl : x.length < 2 ^ 28) : ((x.take i).map f).take k ++ [e] = (x.take i).map f ++ [e] ∧ ((x.take i).map f ++ [e]).length < 2 ^ 30 := by
  refine ⟨by rw [List.take_of_length_le (by simp [hk])], ?_⟩
  have : (x.take i).length ≤ x.length := by simp; omega
  simp only [List.length_append, List.length_map, List.length_singleton]; omega
theorem nodeCopied_ok (n : Nd) (hk : n.kids.length < 2 ^ 28) : FC Tryz.prog 217 [(true, ndL n)] [(1000, some ⟨0, 1, n.kids.map intW⟩)] [(true, [.f (iL n.id), .f (iL n.kind), .f (iL n.attr), .f (sL n.text), .row 1000 0 n.kids.length])] := by
  refine gr Tryz.func217 Tryz.ntmps217 (⟨cl_ints _, trivial⟩) ?_
  refine ⟨(_, _), clone_ok n.kids hk, nx ?_⟩
  exact ⟨[], [(1000, 96)], don⟩
theorem l02OwnNode_ok (n : Nd) (hk : n.kids.length < 2 ^ 28) : FC Tryz.prog 154 [(true, ndL n)] [(1000, some ⟨0, 1, n.kids.map intW⟩)] [(true, [.f (iL n.id), .f (iL n.kind), .f (iL n.attr), .f (sL n.text), .row 1000 0 n.kids.length])] := by
  refine gr Tryz.func154 Tryz.ntmps154 (⟨cl_ints _, trivial⟩) ?_
  refine ⟨n.kids.map intW, fmap_map (fun _ => rfl) n.kids, nx ?_⟩
  refine ⟨n.kids.map intW, ⟨rfl, by simp; omega⟩, nx ?_⟩
  exact ⟨[], [(1000, 112)], don⟩
theorem docCopied_ok (d : Dc) (hl : d.nodes.length < 2 ^ 28) (hk : ∀ n ∈ d.nodes, n.kids.length < 2 ^ 28) : FC Tryz.prog 132 [(true, dcL d)] [(1000, some ⟨0, 5, d.nodes.map ndW⟩)] [(true, [.f (iL d.root), .f (iL d.next), .row 1000 0 d.nodes.length])] := by
  refine gr Tryz.func132 Tryz.ntmps132 (⟨cl_nds _, trivial⟩) ?_
  (refine ⟨fun m es hs => ∃ (i : Nat), (m + i = d.nodes.length) ∧ es = [(14, .val false [.f (iL i)]), (13, .val false [.f (iL d.nodes.length)]), (12, .val false [.f (nds d.nodes)]), (3, .val false [.pt 64 0 0]), (2, .val false [.pt 48 0 0])] ∧ hs = [(48, some ⟨3, 3, [[.f (iL 0), .f (iL 0), .nl]]⟩), (64, some ⟨3, 3, [[.f (iL d.root), .f (iL d.next), .row 3 0 (d.nodes.take i).length]]⟩), (3, some ⟨0, 5, (d.nodes.take i).map ndW⟩)], ⟨d.nodes.length, [], [], _, _, don, 0, don, rfl, rfl⟩, ?_⟩; rintro m _ _ ⟨i, hCDa0, rfl, rfl⟩; refine nx ?_)
  refine ⟨fun h => nx ?_, fun h => nx ?_⟩
  have hi : i < d.nodes.length := by omega
  have hc := nodeCopied_ok d.nodes[i] (hk _ (List.getElem_mem _))
  have hti : (d.nodes.take i).length = i := by simp; omega
  have hti2 : (d.nodes.take (i + 1)).length = i + 1 := by simp; omega
  refine ⟨(i, ndL d.nodes[i]), ⟨rfl, by simp [hi]⟩, nx ?_⟩
  refine ⟨(_, _), hc, nx ?_⟩
  refine ⟨_, app_ex rfl hl, nx ?_⟩
  refine ⟨m - 1, [(352, 384, i, 4)], [(3, 384)], [(14, .val false [.f (iL (i + 1))]), (13, .val false [.f (iL d.nodes.length)]), (12, .val false [.f (nds d.nodes)]), (3, .val false [.pt 64 0 0]), (2, .val false [.pt 48 0 0])], [(48, some ⟨3, 3, [[.f (iL 0), .f (iL 0), .nl]]⟩), (64, some ⟨3, 3, [[.f (iL d.root), .f (iL d.next), .row 3 0 (d.nodes.take (i + 1)).length]]⟩), (3, some ⟨0, 5, (d.nodes.take (i + 1)).map ndW⟩)], by omega, nx ?_, (i + 1), ?_, rfl, rfl⟩
  refine ⟨_, app_get _ hi, nx ?_⟩
  refine ⟨d.nodes[i].kids.map intW, by rw [List.take_of_length_le (by simp)], nx ?_⟩
  (refine ⟨?_, ?_⟩; rotate_left 3)
  have hi : d.nodes.length ≤ i := by omega
  rw [List.take_of_length_le hi]
  exact ⟨[], [(1000, 3)], don⟩
  all_goals (try (repeat' first | exact trivial | exact rfl | exact tl_pv rfl rfl rfl (List.cons_ne_nil _ _) | exact ⟨_, rfl, frzC_map _⟩ | exact tl_ints rfl rfl rfl (by simp) | exact tl_txts rfl rfl rfl (by simp) | exact tl_nds rfl rfl rfl (by simp) | exact tl_tms rfl rfl rfl (by simp) | exact tl_rus rfl rfl rfl (by simp) | exact tl_hos rfl rfl rfl (by simp) | exact tl_ses rfl rfl rfl (by simp) | exact tl_evs rfl rfl rfl (by simp) | ((conv => whnf); first | exact trivial | exact rfl | exact .inr rfl | exact .inl ⟨rfl, rfl⟩ | apply And.intro) | refine tl_int ?_ | refine tl_bool ?_ | refine tl_str ?_ | refine tl_row rfl ?_ | exact cl_ints _ | exact cl_txts _ | exact cl_nds _ | exact cl_tms _ | exact cl_rus _ | exact cl_hos _ | exact cl_ses _ | exact cl_evs _ | exact cl_mp _ | exact Nat.succ_pos _ | exact pl_ints _ | exact pl_txts _ | exact pl_nds _ | exact pl_tms _ | exact pl_rus _ | exact pl_hos _ | exact pl_ses _ | exact pl_evs _ | with_reducible refine tl_f ?_)); all_goals (try first | rfl | assumption | exact q.symm | omega | (rw [IntKind.wrap_i64]; omega) | (simp; done) | (simp; omega))
  all_goals first | exact app_set hi rfl | (dsimp only; exact app_set hi rfl) | (simp; omega)
end Go.Proofs.YtecnmodeggnjoaaGreat.Ac
set_option linter.unusedVariables false
set_option linter.unusedSimpArgs false
set_option maxRecDepth 20000
set_option maxHeartbeats 20000000
namespace Go.Proofs.YtecnmodeggnjoaaGreat.Ac
open Go.RowKit
theorem l02Own_ok (d : Dc) (hl : d.nodes.length < 2 ^ 28) (hk : ∀ n ∈ d.nodes, n.kids.length < 2 ^ 28) : FC Tryz.prog 130 [(true, dcL d)] [(1000, some ⟨0, 5, d.nodes.map ndW⟩)] [(true, [.f (iL d.root), .f (iL d.next), .row 1000 0 d.nodes.length])] := by
  refine gr Tryz.func130 Tryz.ntmps130 (⟨cl_nds _, trivial⟩) ?_
  (refine ⟨fun m es hs => ∃ (i : Nat), (m + i = d.nodes.length) ∧ es = [(4, .val false [.f (iL i)]), (3, .val false [.row 3 0 (d.nodes.take i).length]), (2, .val false [.pt 48 0 0]), (1, .val false [.pt 32 0 0])] ∧ hs = [(48, some ⟨3, 3, [[.f (iL 0), .f (iL 0), .nl]]⟩), (32, some ⟨3, 3, [(dcL d).map .f]⟩), (3, some ⟨0, 5, (d.nodes.take i).map ndW⟩)], ⟨d.nodes.length, [], [(3, 96)], _, _, don, 0, don, rfl, rfl⟩, ?_⟩; rintro m _ _ ⟨i, hODa0, rfl, rfl⟩; refine nx ?_)
  refine ⟨fun h => nx ?_, fun h => nx ?_⟩
  have hi : i < d.nodes.length := by rw [List.length_map] at h; omega
  have hc := l02OwnNode_ok d.nodes[i] (hk _ (List.getElem_mem _))
  have hti : (d.nodes.take i).length = i := by simp; omega
  have hti2 : (d.nodes.take (i + 1)).length = i + 1 := by simp; omega
  refine ⟨(i, ndL d.nodes[i]), ⟨rfl, by simp [hi]⟩, nx ?_⟩
  refine ⟨(_, _), hc, nx ?_⟩
  refine ⟨_, app_ex rfl hl, nx ?_⟩
  refine ⟨m - 1, [(320, 352, i, 4)], [(3, 352)], [(4, .val false [.f (iL (i + 1))]), (3, .val false [.row 3 0 (d.nodes.take (i + 1)).length]), (2, .val false [.pt 48 0 0]), (1, .val false [.pt 32 0 0])], [(48, some ⟨3, 3, [[.f (iL 0), .f (iL 0), .nl]]⟩), (32, some ⟨3, 3, [(dcL d).map .f]⟩), (3, some ⟨0, 5, (d.nodes.take (i + 1)).map ndW⟩)], by omega, nx ?_, (i + 1), ?_, rfl, rfl⟩
  refine ⟨_, app_get _ hi, nx ?_⟩
  refine ⟨d.nodes[i].kids.map intW, by rw [List.take_of_length_le (by simp)], nx ?_⟩
  (refine ⟨?_, ?_⟩; rotate_left 3)
  have hi : d.nodes.length ≤ i := by rw [List.length_map] at h; omega
  rw [List.take_of_length_le hi]
  exact ⟨[], [(1000, 3)], don⟩
  all_goals (try (repeat' first | with_reducible exact trivial | with_reducible exact rfl | ((with_reducible refine tl_id ?_); first | exact tl_pv rfl rfl rfl (List.cons_ne_nil _ _) | exact tl_ints rfl rfl rfl (by simp) | exact tl_txts rfl rfl rfl (by simp) | exact tl_nds rfl rfl rfl (by simp) | exact tl_tms rfl rfl rfl (by simp) | exact tl_rus rfl rfl rfl (by simp) | exact tl_hos rfl rfl rfl (by simp) | exact tl_ses rfl rfl rfl (by simp) | exact tl_evs rfl rfl rfl (by simp) | refine tl_int ?_ | refine tl_bool ?_ | refine tl_str ?_ | refine tl_row rfl ?_ | ((conv => whnf); first | exact trivial | exact rfl | exact .inr rfl | exact .inl ⟨rfl, rfl⟩ | apply And.intro) | with_reducible refine tl_f ?_) | with_reducible exact cl_ints _ | with_reducible exact pl_ints _ | with_reducible exact cl_txts _ | with_reducible exact pl_txts _ | with_reducible exact cl_nds _ | with_reducible exact pl_nds _ | with_reducible exact cl_tms _ | with_reducible exact pl_tms _ | with_reducible exact cl_rus _ | with_reducible exact pl_rus _ | with_reducible exact cl_hos _ | with_reducible exact pl_hos _ | with_reducible exact cl_ses _ | with_reducible exact pl_ses _ | with_reducible exact cl_evs _ | with_reducible exact pl_evs _ | with_reducible exact cl_mp _ | (with_reducible refine Exists.intro _ (And.intro ?_ ?_); exact rfl; exact frzC_map _) | ((conv => whnf); first | with_reducible exact trivial | exact rfl | apply And.intro | exact .inr rfl | exact .inl ⟨rfl, rfl⟩) | exact Nat.succ_pos _)); all_goals (try first | rfl | assumption | exact q.symm | omega | (rw [IntKind.wrap_i64]; omega) | (simp; done) | (simp; omega))
  all_goals first | exact app_set hi rfl | (dsimp only; exact app_set hi rfl) | (simp; omega)
def RuS (r : Ru) : Prop := r.terms.length < 2 ^ 28 ∧ ∀ t ∈ r.terms, t.kinds.length < 2 ^ 28
end Go.Proofs.YtecnmodeggnjoaaGreat.Ac
set_option linter.unusedVariables false
set_option linter.unusedSimpArgs false
set_option maxRecDepth 20000
set_option maxHeartbeats 20000000
namespace Go.Proofs.YtecnmodeggnjoaaGreat.Ac
open Go.RowKit
theorem SchemaP.rug {l : List Ru} (h : SchemaP l) (hb : ∀ r ∈ l, RuB r) (hs : ∀ r ∈ l, RuS r) : ∀ r ∈ l, RuG r := fun r hr => by
  obtain ⟨i, hi, rfl⟩ := List.mem_iff_getElem.1 hr
  refine ⟨hb _ hr, by have := (hs _ hr).1; omega, fun t ht => ⟨(hb _ hr).2.2 t ht, ((h.2 i hi).1.2.2.2.2 t ht).2⟩⟩
end Go.Proofs.YtecnmodeggnjoaaGreat.Ac
set_option linter.unusedVariables false
set_option linter.unusedSimpArgs false
set_option maxRecDepth 20000
set_option maxHeartbeats 20000000
namespace Go.Proofs.YtecnmodeggnjoaaGreat.Ac
open Go.RowKit
def EvP (x : Ht) (e : Ev) : Prop := (1 ≤ e.session ∧ e.session ≤ x.next - 1) ∧ (0 ≤ e.code ∧ e.code ≤ 21) ∧ 0 ≤ e.node ∧ e.node ≤ 999999
structure RightP (x : Ht) (s : Se) : Prop where
  idr : 1 ≤ s.id ∧ s.id ≤ x.next - 1
  til : x.clock + 1 ≤ s.til ∧ s.til ≤ x.clock + x.lease
  zer : s.sub = 0 → ZeroP s.copy
  has : s.sub ≠ 0 → (ndAt x.doc.nodes s.sub).isSome
  cop : s.sub ≠ 0 → DOK s.copy
  rt : s.sub ≠ 0 → s.copy.root = s.sub
  cov : s.sub ≠ 0 → coverF x.doc x.table.holds s.id s.sub = 5
structure TablP (x : Ht) : Prop where
  tab : TabP x.doc x.table
  pea : peaceP x.doc x.table.holds
  ses : ∀ h ∈ x.table.holds ++ x.table.waits, HasS x.sessions h.session
  cir : ∀ w ∈ x.table.waits, circF x.doc x.table w.session = []
structure NumP (x : Ht) : Prop where
  clk : 0 ≤ x.clock ∧ x.clock ≤ 999999
  lea : 1 ≤ x.lease ∧ x.lease ≤ 500
  nxt : 1 ≤ x.next ∧ x.next ≤ 1000
def IncP (l : List Se) (j : Nat) : Prop := ∀ h : j + 1 < l.length, l[j].id < l[j + 1].id
structure HostP (x : Ht) : Prop where
  sch : SchemaP x.schema
  doc : DOK x.doc
  num : NumP x
  sl : x.sessions.length ≤ 6
  el : x.events.length ≤ 40
  chk : (chkF x.schema x.doc.nodes (orderF x.doc.nodes 6 x.doc.root)).2 = 0
  tab : TablP x
  rgt : ∀ s ∈ x.sessions, RightP x s
  inc : ∀ j, IncP x.sessions j
  evt : ∀ e ∈ x.events, EvP x e
structure HtG (x : Ht) : Prop where
  sl : x.schema.length < 2 ^ 28
  sb : ∀ r ∈ x.schema, RuB r
  ss : ∀ r ∈ x.schema, RuS r
  d64 : Dc64 x.doc
  dl : x.doc.nodes.length < 2 ^ 28
  sel : x.sessions.length < 2 ^ 28
  sc : ∀ s ∈ x.sessions, I64 s.sub ∧ Dc64 s.copy ∧ s.copy.nodes.length < 2 ^ 28
  hl : x.table.holds.length < 2 ^ 26
  wl : x.table.waits.length < 2 ^ 26
  hn : ∀ h ∈ x.table.holds, I64 h.node
  wn : ∀ h ∈ x.table.waits, I64 h.node
  el : x.events.length < 2 ^ 28
theorem tl_two {r : List (Nat × Nat)} {g : Hp} {hs' : Hs} {n fl : Nat} {a b : L} (hn : g n = some (some ⟨fl, 1, [[.f a], [.f b]]⟩)) (h4 : Nat.beq fl 4 = false) (hk : kept r hs' n = false) : tlA true r g hs' (.row n 0 2) (.f (.sl 1 [[a], [b]])) :=
  tl_fz hn h4 hk (frz_map (f := fun x : L => [A.f x]) (f' := fun x => [x]) (fun _ => rfl) (fun x j u v h1 h2 => by
    match j with
    | 0 => cases h1; cases h2; exact .f _
    | j + 1 => simp at h1) [a, b])
theorem isTable1_ok (x : Ht) (hd : DOK x.doc) (ht : TabG x.doc x.table) (w : Ho) : FC Tryz.prog 274 [(true, hoL w), (false, [.pv [.pv (htL x)]])] [] [(false, [.f (bL (!dB (circF x.doc x.table w.session = [])))])] := by
  have hc := ((circle_ok x.doc hd x.table ht w.session).p1 (htD x) (by simp [dcL])).p2 (htT x) (by simp [tbL])
  by_cases k : circF x.doc x.table w.session = []
  · have q : (!dB (circF x.doc x.table w.session = [])) = false := by rw [dB_yes k]; rfl
    have hz : (circF x.doc x.table w.session).length = 0 := by rw [k]; rfl
    rw [hz] at hc
    refine gr Tryz.func274 Tryz.ntmps274 trivial ?_
    refine ⟨(_, _), hc, nx ?_⟩
    refine ⟨fun h => absurd h (by decide), fun h => nx ?_⟩
    exact ⟨[], [], don⟩
  · have q : (!dB (circF x.doc x.table w.session = [])) = true := by rw [dB_no k]; rfl
    have hz : 0 < (circF x.doc x.table w.session).length := List.length_pos_iff.2 k
    refine gr Tryz.func274 Tryz.ntmps274 trivial ?_
    refine ⟨(_, _), hc, nx ?_⟩
    refine ⟨fun h => nx ?_, fun h => absurd h (by omega)⟩
    exact ⟨[], [], don⟩
theorem isTable_ok (x : Ht) (hg : HtG x) (hd : DOK x.doc) : FC Tryz.prog 193 [(false, [.pv (htL x)])] [] [(false, [.f (bL (dB (TablP x)))])] := by
  have h1 := hg.hl
  have h2 := hg.wl
  have h3 := hg.sel
  have hT := tableOK_ok x.doc hg.d64 x.table (by omega) (by omega) hg.hn hg.wn
  by_cases kt : DOK x.doc ∧ TabP x.doc x.table
  case neg =>
    have q : dB (TablP x) = false := dB_no fun w => kt ⟨hd, w.tab⟩
    refine gr Tryz.func193 Tryz.ntmps193 trivial ?_
    refine ⟨([], _), hT.x kt, nx ?_⟩
    (refine ⟨[], [], ?_⟩; rotate_left)
    all_goals try exact don
  have hG := kt.2.g
  have hP := (isPeaceful_ok x.doc hd x.table.holds hG.hg hG.rise).p1 (htD x) (by simp [dcL])
  by_cases kp : peaceP x.doc x.table.holds
  case neg =>
    have q : dB (TablP x) = false := dB_no fun w => kp w.pea
    refine gr Tryz.func193 Tryz.ntmps193 trivial ?_
    refine ⟨([], _), hT.y kt, nx ?_⟩
    refine ⟨([], _), hP.x kp, nx ?_⟩
    (refine ⟨[], [], ?_⟩; rotate_left)
    all_goals try exact don
  obtain ⟨B, hB⟩ : ∃ B, B = x.table.holds ++ x.table.waits := ⟨_, rfl⟩
  have hfl : ([x.table.holds, x.table.waits] : List (List Ho)).flatten = B := by rw [hB]; simp
  have hBl : B.length < 2 ^ 28 := by rw [hB, List.length_append]; omega
  have hC := concat_ok [x.table.holds, x.table.waits] (by simp) (by simp) (by rw [hfl]; omega)
  rw [hfl] at hC
  have hW := cofHold_ok x.table.waits 274 (.pv [.pv (htL x)]) (fun w => !dB (circF x.doc x.table w.session = [])) (by omega) fun w _ => isTable1_ok x hd hG w
  refine gr Tryz.func193 Tryz.ntmps193 trivial ?_
  refine ⟨([], _), hT.y kt, nx ?_⟩
  refine ⟨([], _), hP.y kp, nx ?_⟩
  (refine ⟨⟨true, [], _, _, _, _⟩, hC, co ?_ ?_ ?_ ?_⟩; rotate_left 3)
  (refine ⟨fun m es hs => ∃ (i : Nat), (m + i = B.length) ∧ (∀ j (hj : j < B.length), j < i → HasS x.sessions B[j].session) ∧ es = [(40, .val false [.f (iL i)]), (39, .val false [.f (iL B.length)]), (38, .val false [.row 3 0 B.length]), (1, .val false [.pt 32 0 0])] ∧ hs = [(32, some ⟨3, 1, [[.f (.pv (htL x))]]⟩), (3, some ⟨0, 3, B.map hoW⟩)], ⟨B.length, [], [(3, 624)], _, _, ⟨rfl, ?_, ?_⟩, 0, ?_, ?_, rfl, rfl⟩, ?_⟩; rotate_left 4; rintro m _ _ ⟨i, hITB0, hITB1, rfl, rfl⟩; refine nx ?_)
  refine ⟨fun h => nx ?_, fun h => nx ?_⟩
  have hi : i < B.length := by omega
  refine ⟨i, ⟨rfl, hi⟩, nx ?_⟩
  refine ⟨hoW B[i], by simp [hi], nx ?_⟩
  rcases se_at x.sessions B[i].session with ⟨s1, s2⟩ | ⟨k, hk, s1, s2⟩
  · have q : dB (TablP x) = false := dB_no fun w => s2 (w.ses B[i] (by rw [← hB]; exact List.getElem_mem hi))
    refine ⟨([], _), session_no x B[i].session (by omega) s1, nx ?_⟩
    (refine ⟨[], [], ?_⟩; rotate_left)
    all_goals try exact don
  · have q : ∀ j (hj : j < B.length), j < i + 1 → HasS x.sessions B[j].session := fun j hj hji => by
      by_cases e : j < i
      · exact hITB1 j hj e
      · obtain rfl : j = i := by omega
        exact ⟨_, List.getElem_mem hk, s2⟩
    refine ⟨([], _), session_yes x B[i].session (by omega) k hk s1, nx ?_⟩
    (refine ⟨m - 1, [], [], [(40, .val false [.f (iL (i + 1))]), (39, .val false [.f (iL B.length)]), (38, .val false [.row 3 0 B.length]), (1, .val false [.pt 32 0 0])], [(32, some ⟨3, 1, [[.f (.pv (htL x))]]⟩), (3, some ⟨0, 3, B.map hoW⟩)], by omega, ⟨rfl, ?_, ?_⟩, (i + 1), ?_, ?_, rfl, rfl⟩; rotate_left 4)
    all_goals try exact don
  have hS : ∀ h ∈ x.table.holds ++ x.table.waits, HasS x.sessions h.session := fun h hh => by
    rw [← hB] at hh
    obtain ⟨j, hj, rfl⟩ := List.mem_iff_getElem.1 hh
    exact hITB1 j hj (by omega)
  by_cases kc : ∀ w ∈ x.table.waits, circF x.doc x.table w.session = []
  · have q : dB (TablP x) = true := dB_yes ⟨kt.2, kp, hS, kc⟩
    have e : (x.table.waits.any fun w => !dB (circF x.doc x.table w.session = [])) = false := by
      rw [List.any_eq_false]; intro w hw; simp [dB_yes (kc w hw)]
    rw [e] at hW
    (refine ⟨⟨true, [], _, _, _, _⟩, hW, co ?_ ?_ ?_ ?_⟩; rotate_left 3)
    (refine ⟨[], [], ?_⟩; rotate_left)
    all_goals try exact don
  · have q : dB (TablP x) = false := dB_no fun w => kc w.cir
    have e : (x.table.waits.any fun w => !dB (circF x.doc x.table w.session = [])) = true := by
      rw [List.any_eq_true]
      by_cases n : ∃ w ∈ x.table.waits, ¬ circF x.doc x.table w.session = []
      · obtain ⟨w, hw, e⟩ := n
        exact ⟨w, hw, by rw [dB_no e]; rfl⟩
      · exact absurd (fun w hw => Classical.byContradiction fun e => n ⟨w, hw, e⟩) kc
    rw [e] at hW
    (refine ⟨⟨true, [], _, _, _, _⟩, hW, co ?_ ?_ ?_ ?_⟩; rotate_left 3)
    (refine ⟨[], [], ?_⟩; rotate_left)
    all_goals try exact don
  all_goals try exact don
  all_goals first | exact ⟨rfl, ⟨tl_two rfl rfl rfl, trivial⟩, trivial⟩ | (intro j hj hji; omega)
theorem isRight_ok (x : Ht) (hn : NumP x) (hd : DOK x.doc) (hT : TabP x.doc x.table) (s : Se) (h64 : I64 s.sub) (hc64 : Dc64 s.copy) (hcl : s.copy.nodes.length < 2 ^ 28) : FC Tryz.prog 194 [(false, [.pv (htL x)]), (true, seL s)] [] [(false, [.f (bL (dB (RightP x s)))])] := by
  have n1 := hn.clk
  have n2 := hn.lea
  have n3 := hn.nxt
  have w1 : IntKind.i64.wrap (x.next - 1) = x.next - 1 := by rw [IntKind.wrap_i64]; omega
  have w2 : IntKind.i64.wrap (x.clock + 1) = x.clock + 1 := by rw [IntKind.wrap_i64]; omega
  have w3 : IntKind.i64.wrap (x.clock + x.lease) = x.clock + x.lease := by rw [IntKind.wrap_i64]; omega
  have hz := isZero_ok s.copy (by omega)
  have hh := (has_ok x.doc s.sub hd.rise h64 (by have := hd.len; omega)).p1 (htD x) (by simp [dcL])
  have hD := docOK_ok s.copy hc64
  refine gr Tryz.func194 Tryz.ntmps194 trivial ?_
  rw [w1]
  by_cases k1 : 1 ≤ s.id ∧ s.id ≤ x.next - 1
  case neg =>
    have q : dB (RightP x s) = false := dB_no fun w => k1 w.idr
    refine ⟨([], _), within_f k1, nx ?_⟩
    exact ⟨[], [], don⟩
  refine ⟨([], _), within_t k1, nx ?_⟩
  rw [w2, w3]
  by_cases k2 : x.clock + 1 ≤ s.til ∧ s.til ≤ x.clock + x.lease
  case neg =>
    have q : dB (RightP x s) = false := dB_no fun w => k2 w.til
    refine ⟨([], _), within_f k2, nx ?_⟩
    exact ⟨[], [], don⟩
  refine ⟨([], _), within_t k2, nx ?_⟩
  by_cases k3 : s.sub = 0
  · have q : dB (ZeroP s.copy) = dB (RightP x s) := by
      by_cases z : ZeroP s.copy
      · rw [dB_yes z, dB_yes (p := RightP x s) ⟨k1, k2, fun _ => z, fun e => absurd k3 e, fun e => absurd k3 e, fun e => absurd k3 e, fun e => absurd k3 e⟩]
      · rw [dB_no z, dB_no (p := RightP x s) fun w => z (w.zer k3)]
    rw [q] at hz
    refine ⟨fun h => nx ?_, fun h => absurd h (fun w => w k3)⟩
    refine ⟨([], _), hz, nx ?_⟩
    exact ⟨[], [], don⟩
  refine ⟨fun h => absurd h (k3), fun h => nx ?_⟩
  cases k4 : (ndAt x.doc.nodes s.sub).isSome with
  | false =>
    rw [k4] at hh
    have q : dB (RightP x s) = false := dB_no fun w => by have := w.has k3; rw [k4] at this; cases this
    refine ⟨([], _), hh, nx ?_⟩
    exact ⟨[], [], don⟩
  | true =>
  rw [k4] at hh
  refine ⟨([], _), hh, nx ?_⟩
  cases k5 : dokB s.copy with
  | false =>
    rw [k5] at hD
    have q : dB (RightP x s) = false := dB_no fun w => by have := dokB_iff.2 (w.cop k3); rw [k5] at this; cases this
    refine ⟨([], _), hD, nx ?_⟩
    exact ⟨[], [], don⟩
  | true =>
  rw [k5] at hD
  refine ⟨([], _), hD, nx ?_⟩
  by_cases k6 : s.copy.root = s.sub
  case neg =>
    have q : dB (RightP x s) = false := dB_no fun w => k6 (w.rt k3)
    refine ⟨fun h => absurd h (k6), fun h => nx ?_⟩
    exact ⟨[], [], don⟩
  refine ⟨fun h => nx ?_, fun h => absurd h (fun w => w k6)⟩
  have hG := hT.g
  have hcv := (cover_ok x.doc hd x.table.holds (by have := hG.hg.len; omega) hG.hg.md s.id s.sub k4).p1 (htD x) (by simp [dcL])
  refine ⟨([], _), hcv, nx ?_⟩
  by_cases k7 : coverF x.doc x.table.holds s.id s.sub = 5
  · have q : dB (RightP x s) = true := dB_yes ⟨k1, k2, fun e => absurd e k3, fun _ => k4, fun _ => dokB_iff.1 k5, fun _ => k6, fun _ => k7⟩
    refine ⟨fun h => nx ?_, fun h => absurd h (fun w => w k7)⟩
    exact ⟨[], [], don⟩
  · have q : dB (RightP x s) = false := dB_no fun w => k7 (w.cov k3)
    refine ⟨fun h => absurd h (k7), fun h => nx ?_⟩
    exact ⟨[], [], don⟩
theorem host1_ok (x : Ht) (hn : NumP x) (e : Ev) : FC Tryz.prog 196 [(true, evL e), (false, [.pv (htL x)])] [] [(false, [.f (bL (!dB (EvP x e)))])] := by
  have n3 := hn.nxt
  have w1 : IntKind.i64.wrap (x.next - 1) = x.next - 1 := by rw [IntKind.wrap_i64]; omega
  refine gr Tryz.func196 Tryz.ntmps196 trivial ?_
  rw [w1]
  by_cases k1 : 1 ≤ e.session ∧ e.session ≤ x.next - 1
  case neg =>
    have q : (!dB (EvP x e)) = true := by rw [dB_no fun w : EvP x e => k1 w.1]; rfl
    refine ⟨([], _), within_f k1, nx ?_⟩
    exact ⟨[], [], don⟩
  refine ⟨([], _), within_t k1, nx ?_⟩
  by_cases k2 : 0 ≤ e.code ∧ e.code ≤ 21
  case neg =>
    have q : (!dB (EvP x e)) = true := by rw [dB_no fun w : EvP x e => k2 w.2.1]; rfl
    refine ⟨([], _), (isCode_ok e.code).n k2, nx ?_⟩
    exact ⟨[], [], don⟩
  refine ⟨([], _), (isCode_ok e.code).t k2, nx ?_⟩
  by_cases k3 : 0 ≤ e.node ∧ e.node ≤ 999999
  · have q : (!dB (EvP x e)) = false := by rw [dB_yes (show EvP x e from ⟨k1, k2, k3⟩)]; rfl
    refine ⟨([], _), within_t k3, nx ?_⟩
    exact ⟨[], [], don⟩
  · have q : (!dB (EvP x e)) = true := by rw [dB_no fun w : EvP x e => k3 w.2.2]; rfl
    refine ⟨([], _), within_f k3, nx ?_⟩
    exact ⟨[], [], don⟩
theorem hostOK_ok (x : Ht) (hg : HtG x) : FC Tryz.prog 109 [(true, htL x)] [] [(false, [.f (bL (dB (HostP x)))])] := by
  have hS := schemaOK_ok x.schema (by have := hg.sl; omega) hg.sb
  have hD := docOK_ok x.doc hg.d64
  have hsl : ((x.sessions.map seL).length : Int) = x.sessions.length := by rw [List.length_map]
  have hel : ((x.events.map evL).length : Int) = x.events.length := by rw [List.length_map]
  refine gr Tryz.func109 Tryz.ntmps109 trivial ?_
  by_cases k1 : SchemaP x.schema
  case neg =>
    have q : dB (HostP x) = false := dB_no fun w => k1 w.sch
    refine ⟨([], _), hS.x k1, nx ?_⟩
    exact ⟨[], [], don⟩
  refine ⟨([], _), hS.y k1, nx ?_⟩
  cases k2 : dokB x.doc with
  | false =>
    rw [k2] at hD
    have q : dB (HostP x) = false := dB_no fun w => by have := dokB_iff.2 w.doc; rw [k2] at this; cases this
    refine ⟨([], _), hD, nx ?_⟩
    exact ⟨[], [], don⟩
  | true =>
  rw [k2] at hD
  have hd := dokB_iff.1 k2
  refine ⟨([], _), hD, nx ?_⟩
  by_cases k3 : 0 ≤ x.clock ∧ x.clock ≤ 999999
  case neg =>
    have q : dB (HostP x) = false := dB_no fun w => k3 w.num.clk
    refine ⟨([], _), within_f k3, nx ?_⟩
    exact ⟨[], [], don⟩
  refine ⟨([], _), within_t k3, nx ?_⟩
  by_cases k4 : 1 ≤ x.lease ∧ x.lease ≤ 500
  case neg =>
    have q : dB (HostP x) = false := dB_no fun w => k4 w.num.lea
    refine ⟨([], _), within_f k4, nx ?_⟩
    exact ⟨[], [], don⟩
  refine ⟨([], _), within_t k4, nx ?_⟩
  by_cases k5 : 1 ≤ x.next ∧ x.next ≤ 1000
  case neg =>
    have q : dB (HostP x) = false := dB_no fun w => k5 w.num.nxt
    refine ⟨([], _), within_f k5, nx ?_⟩
    exact ⟨[], [], don⟩
  refine ⟨([], _), within_t k5, nx ?_⟩
  have hn : NumP x := ⟨k3, k4, k5⟩
  rw [hsl]
  by_cases k6 : (x.sessions.length : Int) > 6
  · have q : dB (HostP x) = false := dB_no fun w => by have := w.sl; omega
    refine ⟨fun h => nx ?_, fun h => absurd h (fun w => w k6)⟩
    exact ⟨[], [], don⟩
  refine ⟨fun h => absurd h (k6), fun h => nx ?_⟩
  rw [hel]
  by_cases k7 : (x.events.length : Int) > 40
  · have q : dB (HostP x) = false := dB_no fun w => by have := w.el; omega
    refine ⟨fun h => nx ?_, fun h => absurd h (fun w => w k7)⟩
    exact ⟨[], [], don⟩
  refine ⟨fun h => absurd h (k7), fun h => nx ?_⟩
  refine ⟨⟨true, [], _, _, _, _⟩, checkAll_ok x.schema (by have := hg.sl; omega) (k1.rug hg.sb hg.ss) x.doc hd, cd ?_⟩
  by_cases k8 : (chkF x.schema x.doc.nodes (orderF x.doc.nodes 6 x.doc.root)).2 = 0
  case neg =>
    have q : dB (HostP x) = false := dB_no fun w => k8 w.chk
    refine ⟨fun h => nx ?_, fun h => absurd h (fun w => w k8)⟩
    exact ⟨[], [], don⟩
  refine ⟨fun h => absurd h (fun w => w k8), fun h => nx ?_⟩
  have hT := isTable_ok x hg hd
  by_cases k9 : TablP x
  case neg =>
    have q : dB (HostP x) = false := dB_no fun w => k9 w.tab
    refine ⟨⟨true, [], _, _, _, _⟩, hT.x k9, cd ?_⟩
    exact ⟨[], [], don⟩
  refine ⟨⟨true, [], _, _, _, _⟩, hT.y k9, cd ?_⟩
  rw [hsl]
  (refine ⟨fun m es hs => ∃ (i : Nat), (m + i = x.sessions.length) ∧ (∀ j (hj : j < x.sessions.length), j < i → RightP x x.sessions[j]) ∧ (∀ j, j + 1 < i → IncP x.sessions j) ∧ es = [(63, .val false [.f (iL i)]), (62, .val false [.f (iL x.sessions.length)]), (61, .val false [.f (ses x.sessions)]), (1, .val false [.pt 32 0 0])] ∧ hs = [(32, some ⟨3, 11, [(htL x).map .f]⟩)], ⟨x.sessions.length, [], [], _, _, don, 0, don, don, don, rfl, rfl⟩, ?_⟩; rintro m _ _ ⟨i, hHKS0, hHKS1, hHKS2, rfl, rfl⟩; refine nx ?_)
  refine ⟨fun h => nx ?_, fun h => nx ?_⟩
  have hi : i < x.sessions.length := by omega
  obtain ⟨c1, c2, c3⟩ := hg.sc x.sessions[i] (List.getElem_mem _)
  have hR := isRight_ok x hn hd k9.tab x.sessions[i] c1 c2 c3
  refine ⟨(i, seL x.sessions[i]), ⟨rfl, by simp [hi]⟩, nx ?_⟩
  by_cases kr : RightP x x.sessions[i]
  case neg =>
    have q : dB (HostP x) = false := dB_no fun w => kr (w.rgt _ (List.getElem_mem _))
    refine ⟨⟨true, [], _, _, _, _⟩, hR.x kr, cd ?_⟩
    exact ⟨[], [], don⟩
  refine ⟨⟨true, [], _, _, _, _⟩, hR.y kr, cd ?_⟩
  have qr : ∀ j (hj : j < x.sessions.length), j < i + 1 → RightP x x.sessions[j] := fun j hj hji => by
    by_cases e : j < i
    · exact hHKS1 j hj e
    · obtain rfl : j = i := by omega
      exact kr
  by_cases k0 : i = 0
  · have qi : ∀ j, j + 1 < i + 1 → IncP x.sessions j := fun j hj => by omega
    refine ⟨fun h => absurd h (by omega), fun h => nx ?_⟩
    exact ⟨m - 1, [], [], _, _, by omega, don, (i + 1), don, don, don, rfl, rfl⟩
  refine ⟨fun h => nx ?_, fun h => absurd h (by omega)⟩
  refine ⟨(i - 1, seL (x.sessions[i - 1]'(by omega))), ⟨by rw [IntKind.wrap_i64]; omega, by simp [show i - 1 < x.sessions.length by omega]⟩, nx ?_⟩
  by_cases ki : (x.sessions[i - 1]'(by omega)).id < x.sessions[i].id
  · have qi : ∀ j, j + 1 < i + 1 → IncP x.sessions j := fun j hj => by
      by_cases e : j + 1 < i
      · exact hHKS2 j e
      · obtain rfl : i = j + 1 := by omega
        exact fun _ => ki
    refine ⟨fun h => absurd h (by omega), fun h => nx ?_⟩
    exact ⟨m - 1, [], [], _, _, by omega, don, (i + 1), don, don, don, rfl, rfl⟩
  · have q : dB (HostP x) = false := dB_no fun w => by
      obtain ⟨j, rfl⟩ : ∃ j, i = j + 1 := ⟨i - 1, by omega⟩
      exact ki (w.inc j hi)
    refine ⟨fun h => nx ?_, fun h => absurd h (by omega)⟩
    exact ⟨[], [], don⟩
  have hA := cofEvent_ok x.events 196 (.pv (htL x)) (fun e => !dB (EvP x e)) (by have := hg.el; omega) fun e _ => host1_ok x hn e
  have hRg : ∀ s ∈ x.sessions, RightP x s := fun s hs => by
    obtain ⟨j, hj, rfl⟩ := List.mem_iff_getElem.1 hs
    exact hHKS1 j hj (by omega)
  have hIn : ∀ j, IncP x.sessions j := fun j hj => hHKS2 j (by omega) hj
  by_cases kc : ∀ e ∈ x.events, EvP x e
  · have q : dB (HostP x) = true := dB_yes ⟨k1, hd, hn, by omega, by omega, k8, k9, hRg, hIn, kc⟩
    have e : (x.events.any fun e => !dB (EvP x e)) = false := by
      rw [List.any_eq_false]; intro w hw; simp [dB_yes (kc w hw)]
    rw [e] at hA
    refine ⟨⟨true, [], _, _, _, _⟩, hA, cd ?_⟩
    exact ⟨[], [], don⟩
  · have q : dB (HostP x) = false := dB_no fun w => kc w.evt
    have e : (x.events.any fun e => !dB (EvP x e)) = true := by
      rw [List.any_eq_true]
      by_cases n : ∃ w ∈ x.events, ¬ EvP x w
      · obtain ⟨w, hw, e⟩ := n
        exact ⟨w, hw, by rw [dB_no e]; rfl⟩
      · exact absurd (fun w hw => Classical.byContradiction fun e => n ⟨w, hw, e⟩) kc
    rw [e] at hA
    refine ⟨⟨true, [], _, _, _, _⟩, hA, cd ?_⟩
    exact ⟨[], [], don⟩
  all_goals (intros; omega)
end Go.Proofs.YtecnmodeggnjoaaGreat.Ac
