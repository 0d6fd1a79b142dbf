/- Several of our texts, one behind the other, without what this claim does not need: Sj, Wg, Sa, Sb. -/
import Derived.Test.YtchfpgpboifbeaaGreatZf8fe5bbc
import Derived.Test.YtchfpgpboifbeaaGreatZ0728e469
import Derived.Test.YtchfpgpboifbeaaGreatZ7a97f5de
import Derived.Test.YtchfpgpboifbeaaGreatZ9f51c17c
set_option linter.unusedVariables false
set_option linter.unusedSimpArgs false
set_option maxRecDepth 20000
set_option maxHeartbeats 20000000
namespace Go.Proofs.YtchfpgpboifbeaaGreat.Ac
open Go.RowKit
theorem l02Own_ok (d : Dc) (hl : d.nodes.length < 2 ^ 28) (hk : ∀ n ∈ d.nodes, n.kids.length < 2 ^ 28) : FC Tryz.prog 142 [(true, dcL d)] [(1000, some ⟨0, 5, d.nodes.map ndW⟩)] [(true, [.f (iL d.root), .f (iL d.next), .row 1000 0 d.nodes.length])] := by
  refine gcalls_run tbl_ok mixed Tryz.func142 rfl Tryz.ntmps142 (by kernel_rfl) (Nat.le_of_ble_eq_true rfl) rfl rfl (⟨cl_nds _, trivial⟩) ?_; (conv => whnf); (repeat (refine ⟨by kernel_rfl, ?_⟩; (conv => whnf)))
  (refine ⟨fun (m : Nat) (es : Es) (hs : Hs) => ∃ (i : Nat), (m + i = d.nodes.length) ∧ es = [(4, .val false [.f (iL i)]), (3, .val false [.row 3 0 (d.nodes.take i).length]), (2, .val false [.pt 48 0 0]), (1, .val false [.pt 32 0 0])] ∧ hs = [(48, some ⟨3, 3, [[.f (iL 0), .f (iL 0), .nl]]⟩), (32, some ⟨3, 3, [(dcL d).map .f]⟩), (3, some ⟨0, 5, (d.nodes.take i).map ndW⟩)], ⟨d.nodes.length, [], [(3, 96)], _, _, ⟨rfl, ?_, ?_⟩, 0, ?_, rfl, rfl⟩, ?_⟩; rotate_left 3; rintro m es hs ⟨i, hODa0, rfl, rfl⟩; (conv => whnf); (repeat (refine ⟨by kernel_rfl, ?_⟩; (conv => whnf))))
  (refine ⟨fun h => ?_, fun h => ?_⟩ <;> ((conv => whnf); (repeat (refine ⟨by kernel_rfl, ?_⟩; (conv => whnf)))))
  have hi : i < d.nodes.length := by rw [List.length_map] at h; omega
  have hc := l02OwnNode_ok d.nodes[i] (hk _ (List.getElem_mem _))
  have hti : (d.nodes.take i).length = i := by simp; omega
  have hti2 : (d.nodes.take (i + 1)).length = i + 1 := by simp; omega
  (refine ⟨(i, ndL d.nodes[i]), ⟨rfl, by simp [hi]⟩, ?_⟩; (conv => whnf); (repeat (refine ⟨by kernel_rfl, ?_⟩; (conv => whnf))))
  (refine ⟨(_, _), hc, ?_⟩; (conv => whnf); (repeat (refine ⟨by kernel_rfl, ?_⟩; (conv => whnf))))
  (refine ⟨_, app_ex rfl hl, ?_⟩; (conv => whnf); (repeat (refine ⟨by kernel_rfl, ?_⟩; (conv => whnf))))
  (refine ⟨m - 1, [(320, 352, i, 4)], [(3, 352)], [(4, .val false [.f (iL (i + 1))]), (3, .val false [.row 3 0 (d.nodes.take (i + 1)).length]), (2, .val false [.pt 48 0 0]), (1, .val false [.pt 32 0 0])], [(48, some ⟨3, 3, [[.f (iL 0), .f (iL 0), .nl]]⟩), (32, some ⟨3, 3, [(dcL d).map .f]⟩), (3, some ⟨0, 5, (d.nodes.take (i + 1)).map ndW⟩)], by omega, ?_, (i + 1), ?_, rfl, rfl⟩; (conv => whnf); (repeat (refine ⟨by kernel_rfl, ?_⟩; (conv => whnf))))
  (refine ⟨_, app_get _ hi, ?_⟩; (conv => whnf); (repeat (refine ⟨by kernel_rfl, ?_⟩; (conv => whnf))))
  (refine ⟨d.nodes[i].kids.map intW, by rw [List.take_of_length_le (by simp)], ?_⟩; (conv => whnf); (repeat (refine ⟨by kernel_rfl, ?_⟩; (conv => whnf))))
  (refine ⟨?_, ?_⟩; rotate_left 3)
  have hi : d.nodes.length ≤ i := by rw [List.length_map] at h; omega
  rw [List.take_of_length_le hi]
  (refine ⟨[], [(1000, 3)], ?_⟩; rotate_left)
  all_goals (try (repeat' first | with_reducible exact trivial | with_reducible exact rfl | ((with_reducible refine tl_id ?_); first | exact tl_pv rfl rfl rfl (List.cons_ne_nil _ _) | exact tl_ints rfl rfl rfl (by simp) | exact tl_txts rfl rfl rfl (by simp) | exact tl_nds rfl rfl rfl (by simp) | exact tl_tms rfl rfl rfl (by simp) | exact tl_rus rfl rfl rfl (by simp) | exact tl_hos rfl rfl rfl (by simp) | exact tl_ses rfl rfl rfl (by simp) | exact tl_evs rfl rfl rfl (by simp) | refine tl_int ?_ | refine tl_bool ?_ | refine tl_str ?_ | refine tl_row rfl ?_ | ((conv => whnf); first | exact trivial | exact rfl | exact .inr rfl | exact .inl ⟨rfl, rfl⟩ | apply And.intro) | with_reducible refine tl_f ?_) | with_reducible exact cl_ints _ | with_reducible exact pl_ints _ | with_reducible exact cl_txts _ | with_reducible exact pl_txts _ | with_reducible exact cl_nds _ | with_reducible exact pl_nds _ | with_reducible exact cl_tms _ | with_reducible exact pl_tms _ | with_reducible exact cl_rus _ | with_reducible exact pl_rus _ | with_reducible exact cl_hos _ | with_reducible exact pl_hos _ | with_reducible exact cl_ses _ | with_reducible exact pl_ses _ | with_reducible exact cl_evs _ | with_reducible exact pl_evs _ | with_reducible exact cl_mp _ | (with_reducible refine Exists.intro _ (And.intro ?_ ?_); exact rfl; exact frzC_map _) | ((conv => whnf); first | with_reducible exact trivial | exact rfl | apply And.intro | exact .inr rfl | exact .inl ⟨rfl, rfl⟩) | exact Nat.succ_pos _)); all_goals (try first | rfl | assumption | exact q.symm | omega | (rw [IntKind.wrap_i64]; omega) | (simp; done) | (simp; omega))
  all_goals first | exact app_set hi rfl | (dsimp only; exact app_set hi rfl) | (simp; omega)
def RuS (r : Ru) : Prop := r.terms.length < 2 ^ 28 ∧ ∀ t ∈ r.terms, t.kinds.length < 2 ^ 28
theorem copyRules_ok (l : List Ru) (hl : l.length < 2 ^ 28) (hk : ∀ r ∈ l, RuS r) : FC Tryz.prog 79 [(false, [rus l])] [(1000, some ⟨0, 3, l.map ruW⟩)] [(false, [.row 1000 0 l.length])] := by
  refine gcalls_run tbl_ok mixed Tryz.func79 rfl Tryz.ntmps79 (by kernel_rfl) (Nat.le_of_ble_eq_true rfl) rfl rfl (⟨cl_rus _, trivial⟩) ?_; (conv => whnf); (repeat (refine ⟨by kernel_rfl, ?_⟩; (conv => whnf)))
  (refine ⟨fun (m : Nat) (es : Es) (hs : Hs) => ∃ (i : Nat), (m + i = l.length) ∧ es = [(11, .val false [.f (iL i)]), (10, .val false [.f (iL l.length)]), (9, .val false [.f (rus l)]), (3, .val false [.row 3 0 (l.take i).length])] ∧ hs = [(3, some ⟨0, 3, (l.take i).map ruW⟩)], ⟨l.length, [], [], _, _, ⟨rfl, ?_, ?_⟩, 0, ?_, rfl, rfl⟩, ?_⟩; rotate_left 3; rintro m es hs ⟨i, hCRa0, rfl, rfl⟩; (conv => whnf); (repeat (refine ⟨by kernel_rfl, ?_⟩; (conv => whnf))))
  (refine ⟨fun h => ?_, fun h => ?_⟩ <;> ((conv => whnf); (repeat (refine ⟨by kernel_rfl, ?_⟩; (conv => whnf)))))
  have hi : i < l.length := by omega
  obtain ⟨hr1, hr2⟩ := hk l[i] (List.getElem_mem _)
  have hti : (l.take i).length = i := by simp; omega
  have hti2 : (l.take (i + 1)).length = i + 1 := by simp; omega
  (refine ⟨(i, ruL l[i]), ⟨rfl, by simp [hi]⟩, ?_⟩; (conv => whnf); (repeat (refine ⟨by kernel_rfl, ?_⟩; (conv => whnf))))
  obtain ⟨mo, hmo⟩ : ∃ mo, mo = m := ⟨m, rfl⟩
  (refine ⟨fun (m : Nat) (es : Es) (hs : Hs) => ∃ (u : Nat), (m + u = l[i].terms.length) ∧ es = [(23, .val false [.f (iL u)]), (22, .val false [.f (iL l[i].terms.length)]), (21, .val false [.f (tms l[i].terms)]), (11, .val false [.f (iL i)]), (10, .val false [.f (iL l.length)]), (9, .val false [.f (rus l)]), (6, .val false [.pt 112 0 0]), (3, .val false [.row 3 0 (l.take i).length])] ∧ hs = [(112, some ⟨3, 3, [[.f (sL l[i].name), .f (bL l[i].leaf), .row 4 0 (l[i].terms.take u).length]]⟩), (4, some ⟨0, 2, (l[i].terms.take u).map tmW⟩), (3, some ⟨0, 3, (l.take i).map ruW⟩)], ⟨l[i].terms.length, [], [], _, _, ⟨rfl, ?_, ?_⟩, 0, ?_, rfl, rfl⟩, ?_⟩; rotate_left 3; rintro m es hs ⟨u, hCRb0, rfl, rfl⟩; (conv => whnf); (repeat (refine ⟨by kernel_rfl, ?_⟩; (conv => whnf))))
  (refine ⟨fun h => ?_, fun h => ?_⟩ <;> ((conv => whnf); (repeat (refine ⟨by kernel_rfl, ?_⟩; (conv => whnf)))))
  have hu : u < l[i].terms.length := by omega
  have hc := clone_ok l[i].terms[u].kinds (hr2 _ (List.getElem_mem _))
  have htu : (l[i].terms.take u).length = u := by simp; omega
  have htu2 : (l[i].terms.take (u + 1)).length = u + 1 := by simp; omega
  (refine ⟨(u, tmL l[i].terms[u]), ⟨rfl, by simp [hu]⟩, ?_⟩; (conv => whnf); (repeat (refine ⟨by kernel_rfl, ?_⟩; (conv => whnf))))
  (refine ⟨(_, _), hc, ?_⟩; (conv => whnf); (repeat (refine ⟨by kernel_rfl, ?_⟩; (conv => whnf))))
  (refine ⟨_, app_ex rfl hr1, ?_⟩; (conv => whnf); (repeat (refine ⟨by kernel_rfl, ?_⟩; (conv => whnf))))
  (refine ⟨m - 1, [(512, 592, u, 0)], [(4, 592)], [(23, .val false [.f (iL (u + 1))]), (22, .val false [.f (iL l[i].terms.length)]), (21, .val false [.f (tms l[i].terms)]), (11, .val false [.f (iL i)]), (10, .val false [.f (iL l.length)]), (9, .val false [.f (rus l)]), (6, .val false [.pt 112 0 0]), (3, .val false [.row 3 0 (l.take i).length])], [(112, some ⟨3, 3, [[.f (sL l[i].name), .f (bL l[i].leaf), .row 4 0 (l[i].terms.take (u + 1)).length]]⟩), (4, some ⟨0, 2, (l[i].terms.take (u + 1)).map tmW⟩), (3, some ⟨0, 3, (l.take i).map ruW⟩)], by omega, ?_, (u + 1), ?_, rfl, rfl⟩; (conv => whnf); (repeat (refine ⟨by kernel_rfl, ?_⟩; (conv => whnf))))
  (refine ⟨_, app_get _ hu, ?_⟩; (conv => whnf); (repeat (refine ⟨by kernel_rfl, ?_⟩; (conv => whnf))))
  (refine ⟨l[i].terms[u].kinds.map intW, by rw [List.take_of_length_le (by simp)], ?_⟩; (conv => whnf); (repeat (refine ⟨by kernel_rfl, ?_⟩; (conv => whnf))))
  (refine ⟨?_, ?_⟩; rotate_left 3)
  have hu : l[i].terms.length ≤ u := by omega
  rw [List.take_of_length_le hu]
  (refine ⟨_, app_ex rfl hl, ?_⟩; (conv => whnf); (repeat (refine ⟨by kernel_rfl, ?_⟩; (conv => whnf))))
  (refine ⟨mo - 1, [(4, 688, i, 2)], [(3, 688)], [(11, .val false [.f (iL (i + 1))]), (10, .val false [.f (iL l.length)]), (9, .val false [.f (rus l)]), (3, .val false [.row 3 0 (l.take (i + 1)).length])], [(3, some ⟨0, 3, (l.take (i + 1)).map ruW⟩)], by omega, ?_, (i + 1), ?_, rfl, rfl⟩; (conv => whnf); (repeat (refine ⟨by kernel_rfl, ?_⟩; (conv => whnf))))
  (refine ⟨_, app_get _ hi, ?_⟩; (conv => whnf); (repeat (refine ⟨by kernel_rfl, ?_⟩; (conv => whnf))))
  (refine ⟨l[i].terms.map tmW, by rw [List.take_of_length_le (by simp)], ?_⟩; (conv => whnf); (repeat (refine ⟨by kernel_rfl, ?_⟩; (conv => whnf))))
  (refine ⟨?_, ?_⟩; rotate_left 3)
  have hi : l.length ≤ i := by omega
  rw [List.take_of_length_le hi]
  (refine ⟨[], [(1000, 3)], ?_⟩; rotate_left)
  all_goals (try (repeat' first | with_reducible exact trivial | with_reducible exact rfl | ((with_reducible refine tl_id ?_); first | exact tl_pv rfl rfl rfl (List.cons_ne_nil _ _) | exact tl_ints rfl rfl rfl (by simp) | exact tl_txts rfl rfl rfl (by simp) | exact tl_nds rfl rfl rfl (by simp) | exact tl_tms rfl rfl rfl (by simp) | exact tl_rus rfl rfl rfl (by simp) | exact tl_hos rfl rfl rfl (by simp) | exact tl_ses rfl rfl rfl (by simp) | exact tl_evs rfl rfl rfl (by simp) | refine tl_int ?_ | refine tl_bool ?_ | refine tl_str ?_ | refine tl_row rfl ?_ | ((conv => whnf); first | exact trivial | exact rfl | exact .inr rfl | exact .inl ⟨rfl, rfl⟩ | apply And.intro) | with_reducible refine tl_f ?_) | with_reducible exact cl_ints _ | with_reducible exact pl_ints _ | with_reducible exact cl_txts _ | with_reducible exact pl_txts _ | with_reducible exact cl_nds _ | with_reducible exact pl_nds _ | with_reducible exact cl_tms _ | with_reducible exact pl_tms _ | with_reducible exact cl_rus _ | with_reducible exact pl_rus _ | with_reducible exact cl_hos _ | with_reducible exact pl_hos _ | with_reducible exact cl_ses _ | with_reducible exact pl_ses _ | with_reducible exact cl_evs _ | with_reducible exact pl_evs _ | with_reducible exact cl_mp _ | (with_reducible refine Exists.intro _ (And.intro ?_ ?_); exact rfl; exact frzC_map _) | ((conv => whnf); first | with_reducible exact trivial | exact rfl | apply And.intro | exact .inr rfl | exact .inl ⟨rfl, rfl⟩) | exact Nat.succ_pos _)); all_goals (try first | rfl | assumption | exact q.symm | omega | (rw [IntKind.wrap_i64]; omega) | (simp; done) | (simp; omega))
  all_goals first | exact app_set hu rfl | (dsimp only; exact app_set hu rfl) | exact app_set hi rfl | (dsimp only; exact app_set hi rfl) | (simp; omega)
theorem l03Own_ok (l : List Ru) (hl : l.length < 2 ^ 28) (hk : ∀ r ∈ l, RuS r) : FC Tryz.prog 152 [(false, [rus l])] [(1000, some ⟨0, 3, l.map ruW⟩)] [(false, [.row 1000 0 l.length])] := by
  refine gcalls_run tbl_ok mixed Tryz.func152 rfl Tryz.ntmps152 (by kernel_rfl) (Nat.le_of_ble_eq_true rfl) rfl rfl (⟨cl_rus _, trivial⟩) ?_; (conv => whnf); (repeat (refine ⟨by kernel_rfl, ?_⟩; (conv => whnf)))
  (refine ⟨fun (m : Nat) (es : Es) (hs : Hs) => ∃ (i : Nat), (m + i = l.length) ∧ es = [(4, .val false [.f (iL i)]), (3, .val false [.row 3 0 (l.take i).length]), (0, .val false [.f (rus l)])] ∧ hs = [(3, some ⟨0, 3, (l.take i).map ruW⟩)], ⟨l.length, [], [(3, 144)], _, _, ⟨rfl, ?_, ?_⟩, 0, ?_, rfl, rfl⟩, ?_⟩; rotate_left 3; rintro m es hs ⟨i, hORa0, rfl, rfl⟩; (conv => whnf); (repeat (refine ⟨by kernel_rfl, ?_⟩; (conv => whnf))))
  (refine ⟨fun h => ?_, fun h => ?_⟩ <;> ((conv => whnf); (repeat (refine ⟨by kernel_rfl, ?_⟩; (conv => whnf)))))
  have hi : i < l.length := by rw [List.length_map] at h; omega
  obtain ⟨hr1, hr2⟩ := hk l[i] (List.getElem_mem _)
  have hti : (l.take i).length = i := by simp; omega
  have hti2 : (l.take (i + 1)).length = i + 1 := by simp; omega
  (refine ⟨(i, ruL l[i]), ⟨rfl, by simp [hi]⟩, ?_⟩; (conv => whnf); (repeat (refine ⟨by kernel_rfl, ?_⟩; (conv => whnf))))
  obtain ⟨mo, hmo⟩ : ∃ mo, mo = m := ⟨m, rfl⟩
  (refine ⟨fun (m : Nat) (es : Es) (hs : Hs) => ∃ (u : Nat), (m + u = l[i].terms.length) ∧ es = [(7, .val false [.f (iL u)]), (6, .val false [.row 4 0 (l[i].terms.take u).length]), (5, .val false [.pt 96 0 0]), (4, .val false [.f (iL i)]), (3, .val false [.row 3 0 (l.take i).length]), (0, .val false [.f (rus l)])] ∧ hs = [(96, some ⟨3, 3, [(ruL l[i]).map .f]⟩), (4, some ⟨0, 2, (l[i].terms.take u).map tmW⟩), (3, some ⟨0, 3, (l.take i).map ruW⟩)], ⟨l[i].terms.length, [], [(3, 3), (4, 320)], _, _, ⟨rfl, ?_, ?_⟩, 0, ?_, rfl, rfl⟩, ?_⟩; rotate_left 3; rintro m es hs ⟨u, hORb0, rfl, rfl⟩; (conv => whnf); (repeat (refine ⟨by kernel_rfl, ?_⟩; (conv => whnf))))
  (refine ⟨fun h => ?_, fun h => ?_⟩ <;> ((conv => whnf); (repeat (refine ⟨by kernel_rfl, ?_⟩; (conv => whnf)))))
  have hu : u < l[i].terms.length := by rw [List.length_map] at h; omega
  have hks := hr2 _ (List.getElem_mem hu)
  have htu : (l[i].terms.take u).length = u := by simp; omega
  have htu2 : (l[i].terms.take (u + 1)).length = u + 1 := by simp; omega
  (refine ⟨(u, tmL l[i].terms[u]), ⟨rfl, by simp [hu]⟩, ?_⟩; (conv => whnf); (repeat (refine ⟨by kernel_rfl, ?_⟩; (conv => whnf))))
  (refine ⟨l[i].terms[u].kinds.map intW, fmap_map (fun _ => rfl) l[i].terms[u].kinds, ?_⟩; (conv => whnf); (repeat (refine ⟨by kernel_rfl, ?_⟩; (conv => whnf))))
  (refine ⟨l[i].terms[u].kinds.map intW, ⟨rfl, by simp; omega⟩, ?_⟩; (conv => whnf); (repeat (refine ⟨by kernel_rfl, ?_⟩; (conv => whnf))))
  (refine ⟨(u, tmL l[i].terms[u]), ⟨rfl, by simp [hu]⟩, ?_⟩; (conv => whnf); (repeat (refine ⟨by kernel_rfl, ?_⟩; (conv => whnf))))
  (refine ⟨_, app_ex rfl hr1, ?_⟩; (conv => whnf); (repeat (refine ⟨by kernel_rfl, ?_⟩; (conv => whnf))))
  (refine ⟨m - 1, [(576, 720, u, 0)], [(4, 720)], [(7, .val false [.f (iL (u + 1))]), (6, .val false [.row 4 0 (l[i].terms.take (u + 1)).length]), (5, .val false [.pt 96 0 0]), (4, .val false [.f (iL i)]), (3, .val false [.row 3 0 (l.take i).length]), (0, .val false [.f (rus l)])], [(96, some ⟨3, 3, [(ruL l[i]).map .f]⟩), (4, some ⟨0, 2, (l[i].terms.take (u + 1)).map tmW⟩), (3, some ⟨0, 3, (l.take i).map ruW⟩)], by omega, ?_, (u + 1), ?_, rfl, rfl⟩; (conv => whnf); (repeat (refine ⟨by kernel_rfl, ?_⟩; (conv => whnf))))
  (refine ⟨_, app_get _ hu, ?_⟩; (conv => whnf); (repeat (refine ⟨by kernel_rfl, ?_⟩; (conv => whnf))))
  (refine ⟨l[i].terms[u].kinds.map intW, by rw [List.take_of_length_le (by simp)], ?_⟩; (conv => whnf); (repeat (refine ⟨by kernel_rfl, ?_⟩; (conv => whnf))))
  (refine ⟨?_, ?_⟩; rotate_left 3)
  have hu : l[i].terms.length ≤ u := by rw [List.length_map] at h; omega
  rw [List.take_of_length_le hu]
  (refine ⟨_, app_ex rfl hl, ?_⟩; (conv => whnf); (repeat (refine ⟨by kernel_rfl, ?_⟩; (conv => whnf))))
  (refine ⟨mo - 1, [(4, 816, i, 2)], [(3, 816)], [(4, .val false [.f (iL (i + 1))]), (3, .val false [.row 3 0 (l.take (i + 1)).length]), (0, .val false [.f (rus l)])], [(3, some ⟨0, 3, (l.take (i + 1)).map ruW⟩)], by omega, ?_, (i + 1), ?_, rfl, rfl⟩; (conv => whnf); (repeat (refine ⟨by kernel_rfl, ?_⟩; (conv => whnf))))
  (refine ⟨_, app_get _ hi, ?_⟩; (conv => whnf); (repeat (refine ⟨by kernel_rfl, ?_⟩; (conv => whnf))))
  (refine ⟨l[i].terms.map tmW, by rw [List.take_of_length_le (by simp)], ?_⟩; (conv => whnf); (repeat (refine ⟨by kernel_rfl, ?_⟩; (conv => whnf))))
  (refine ⟨?_, ?_⟩; rotate_left 3)
  have hi : l.length ≤ i := by rw [List.length_map] at h; omega
  rw [List.take_of_length_le hi]
  (refine ⟨[], [(1000, 3)], ?_⟩; rotate_left)
  all_goals (try (repeat' first | with_reducible exact trivial | with_reducible exact rfl | ((with_reducible refine tl_id ?_); first | exact tl_pv rfl rfl rfl (List.cons_ne_nil _ _) | exact tl_ints rfl rfl rfl (by simp) | exact tl_txts rfl rfl rfl (by simp) | exact tl_nds rfl rfl rfl (by simp) | exact tl_tms rfl rfl rfl (by simp) | exact tl_rus rfl rfl rfl (by simp) | exact tl_hos rfl rfl rfl (by simp) | exact tl_ses rfl rfl rfl (by simp) | exact tl_evs rfl rfl rfl (by simp) | refine tl_int ?_ | refine tl_bool ?_ | refine tl_str ?_ | refine tl_row rfl ?_ | ((conv => whnf); first | exact trivial | exact rfl | exact .inr rfl | exact .inl ⟨rfl, rfl⟩ | apply And.intro) | with_reducible refine tl_f ?_) | with_reducible exact cl_ints _ | with_reducible exact pl_ints _ | with_reducible exact cl_txts _ | with_reducible exact pl_txts _ | with_reducible exact cl_nds _ | with_reducible exact pl_nds _ | with_reducible exact cl_tms _ | with_reducible exact pl_tms _ | with_reducible exact cl_rus _ | with_reducible exact pl_rus _ | with_reducible exact cl_hos _ | with_reducible exact pl_hos _ | with_reducible exact cl_ses _ | with_reducible exact pl_ses _ | with_reducible exact cl_evs _ | with_reducible exact pl_evs _ | with_reducible exact cl_mp _ | (with_reducible refine Exists.intro _ (And.intro ?_ ?_); exact rfl; exact frzC_map _) | ((conv => whnf); first | with_reducible exact trivial | exact rfl | apply And.intro | exact .inr rfl | exact .inl ⟨rfl, rfl⟩) | exact Nat.succ_pos _)); all_goals (try first | rfl | assumption | exact q.symm | omega | (rw [IntKind.wrap_i64]; omega) | (simp; done) | (simp; omega))
  all_goals first | exact app_set hu rfl | (dsimp only; exact app_set hu rfl) | exact app_set hi rfl | (dsimp only; exact app_set hi rfl) | (simp; omega)
end Go.Proofs.YtchfpgpboifbeaaGreat.Ac
set_option linter.unusedVariables false
set_option linter.unusedSimpArgs false
set_option maxRecDepth 20000
set_option maxHeartbeats 2000000
namespace Go.Proofs.YtchfpgpboifbeaaGreat.Ac
open Go.RowKit
def ixFrom (v : Int) : Nat → List Int → Int
  | _, [] => -1
  | i, x :: l => if v = x then i else ixFrom v (i + 1) l
theorem ixFrom_mem (v : Int) : ∀ (l : List Int) (i : Nat), 0 ≤ ixFrom v i l ↔ v ∈ l
  | [], i => by simp [ixFrom]
  | x :: l, i => by
    simp only [ixFrom, List.mem_cons]
    by_cases h : v = x
    · simp [h]
    · simp [h, ixFrom_mem v l (i + 1)]
theorem index_ok (l : List Int) (v : Int) (hlen : l.length < 2 ^ 62) : FC Tryz.prog 255 [(false, [ints l]), (false, [iL v])] [] [(false, [.f (iL (ixFrom v 0 l))])] := by
  refine gcalls_of tbl_ok mixed Tryz.func255 rfl Tryz.ntmps255 (by kernel_rfl) (Nat.le_of_ble_eq_true rfl) rfl rfl trivial ?_
  (conv => whnf)
  refine ⟨fun (m : Nat) (es : Es) (hs : Hs) => ∃ i : Nat, m + i = l.length ∧ ixFrom v i (l.drop i) = ixFrom v 0 l ∧ es = [(8, .val false [.f (iL i)]), (7, .val false [.f (iL l.length)]), (1, .val false [.f (iL v)]), (0, .val false [.f (ints l)])] ∧ hs = [],
    ⟨l.length, [], [], _, _, ⟨?_, ?_, ?_⟩, 0, rfl, rfl, rfl, rfl⟩, ?_⟩
  · rfl
  · (repeat' first | exact trivial | exact rfl | exact tl_pv rfl rfl rfl (List.cons_ne_nil _ _) | exact ⟨_, rfl, frzC_map _⟩ | exact tl_ints rfl rfl rfl (by simp) | exact tl_txts rfl rfl rfl (by simp) | exact tl_nds rfl rfl rfl (by simp) | ((conv => whnf); first | exact trivial | exact rfl | exact .inr rfl | exact .inl ⟨rfl, rfl⟩ | apply And.intro) | refine tl_int ?_ | refine tl_bool ?_ | refine tl_str ?_ | refine tl_row rfl ?_ | exact cl_ints _ | exact cl_txts _ | exact cl_nds _ | exact cl_mp _ | exact Nat.succ_pos _ | exact pl_ints _ | exact pl_txts _ | exact pl_nds _ | with_reducible refine tl_f ?_)
    simp
  · (repeat' first | exact trivial | exact rfl | exact tl_pv rfl rfl rfl (List.cons_ne_nil _ _) | exact ⟨_, rfl, frzC_map _⟩ | exact tl_ints rfl rfl rfl (by simp) | exact tl_txts rfl rfl rfl (by simp) | exact tl_nds rfl rfl rfl (by simp) | ((conv => whnf); first | exact trivial | exact rfl | exact .inr rfl | exact .inl ⟨rfl, rfl⟩ | apply And.intro) | refine tl_int ?_ | refine tl_bool ?_ | refine tl_str ?_ | refine tl_row rfl ?_ | exact cl_ints _ | exact cl_txts _ | exact cl_nds _ | exact cl_mp _ | exact Nat.succ_pos _ | exact pl_ints _ | exact pl_txts _ | exact pl_nds _ | with_reducible refine tl_f ?_)
  rintro m es hs ⟨i, hm, hp, rfl, rfl⟩
  (conv => whnf)
  refine ⟨fun h => ?_, fun h => ?_⟩
  · have hi : i < l.length := by omega
    rw [List.drop_eq_getElem_cons hi] at hp
    (conv => whnf)
    refine ⟨(i, intE l[i]), ⟨rfl, by simp [hi]⟩, ?_⟩
    (conv => whnf)
    refine ⟨fun k => ?_, fun k => ?_⟩
    · (conv => whnf)
      refine ⟨[], [], ?_⟩
      (repeat' first | exact trivial | exact rfl | exact tl_pv rfl rfl rfl (List.cons_ne_nil _ _) | exact ⟨_, rfl, frzC_map _⟩ | exact tl_ints rfl rfl rfl (by simp) | exact tl_txts rfl rfl rfl (by simp) | exact tl_nds rfl rfl rfl (by simp) | ((conv => whnf); first | exact trivial | exact rfl | exact .inr rfl | exact .inl ⟨rfl, rfl⟩ | apply And.intro) | refine tl_int ?_ | refine tl_bool ?_ | refine tl_str ?_ | refine tl_row rfl ?_ | exact cl_ints _ | exact cl_txts _ | exact cl_nds _ | exact cl_mp _ | exact Nat.succ_pos _ | exact pl_ints _ | exact pl_txts _ | exact pl_nds _ | with_reducible refine tl_f ?_)
      rw [← hp, ixFrom, if_pos k]
    · (conv => whnf)
      refine ⟨m - 1, [], [], [(8, .val false [.f (iL (i + 1 : Nat))]), (7, .val false [.f (iL l.length)]), (1, .val false [.f (iL v)]), (0, .val false [.f (ints l)])], [], by omega, ⟨?_, ?_, ?_⟩, i + 1, by omega, ?_, rfl, rfl⟩
      · rfl
      · (repeat' first | exact trivial | exact rfl | exact tl_pv rfl rfl rfl (List.cons_ne_nil _ _) | exact ⟨_, rfl, frzC_map _⟩ | exact tl_ints rfl rfl rfl (by simp) | exact tl_txts rfl rfl rfl (by simp) | exact tl_nds rfl rfl rfl (by simp) | ((conv => whnf); first | exact trivial | exact rfl | exact .inr rfl | exact .inl ⟨rfl, rfl⟩ | apply And.intro) | refine tl_int ?_ | refine tl_bool ?_ | refine tl_str ?_ | refine tl_row rfl ?_ | exact cl_ints _ | exact cl_txts _ | exact cl_nds _ | exact cl_mp _ | exact Nat.succ_pos _ | exact pl_ints _ | exact pl_txts _ | exact pl_nds _ | with_reducible refine tl_f ?_)
        exact wrap_suc (by omega)
      · (repeat' first | exact trivial | exact rfl | exact tl_pv rfl rfl rfl (List.cons_ne_nil _ _) | exact ⟨_, rfl, frzC_map _⟩ | exact tl_ints rfl rfl rfl (by simp) | exact tl_txts rfl rfl rfl (by simp) | exact tl_nds rfl rfl rfl (by simp) | ((conv => whnf); first | exact trivial | exact rfl | exact .inr rfl | exact .inl ⟨rfl, rfl⟩ | apply And.intro) | refine tl_int ?_ | refine tl_bool ?_ | refine tl_str ?_ | refine tl_row rfl ?_ | exact cl_ints _ | exact cl_txts _ | exact cl_nds _ | exact cl_mp _ | exact Nat.succ_pos _ | exact pl_ints _ | exact pl_txts _ | exact pl_nds _ | with_reducible refine tl_f ?_)
      · rw [← hp, ixFrom, if_neg k]
  · have hi : l.length ≤ i := by omega
    (conv => whnf)
    refine ⟨[], [], ?_⟩
    (repeat' first | exact trivial | exact rfl | exact tl_pv rfl rfl rfl (List.cons_ne_nil _ _) | exact ⟨_, rfl, frzC_map _⟩ | exact tl_ints rfl rfl rfl (by simp) | exact tl_txts rfl rfl rfl (by simp) | exact tl_nds rfl rfl rfl (by simp) | ((conv => whnf); first | exact trivial | exact rfl | exact .inr rfl | exact .inl ⟨rfl, rfl⟩ | apply And.intro) | refine tl_int ?_ | refine tl_bool ?_ | refine tl_str ?_ | refine tl_row rfl ?_ | exact cl_ints _ | exact cl_txts _ | exact cl_nds _ | exact cl_mp _ | exact Nat.succ_pos _ | exact pl_ints _ | exact pl_txts _ | exact pl_nds _ | with_reducible refine tl_f ?_)
    rw [← hp, List.drop_eq_nil_of_le hi]; rfl
theorem contains_ok (l : List Int) (v : Int) (hlen : l.length < 2 ^ 62) : FC Tryz.prog 187 [(false, [ints l]), (false, [iL v])] [] [(false, [.f (bL (decide (v ∈ l)))])] := by
  refine gcalls_of tbl_ok mixed Tryz.func187 rfl Tryz.ntmps187 (by kernel_rfl) (Nat.le_of_ble_eq_true rfl) rfl rfl trivial ?_
  (conv => whnf)
  refine ⟨([], _), index_ok l v hlen, ?_⟩
  (conv => whnf)
  refine ⟨fun k => ?_, fun k => ?_⟩
  · (conv => whnf)
    refine ⟨[], [], ?_⟩
    (repeat' first | exact trivial | exact rfl | exact tl_pv rfl rfl rfl (List.cons_ne_nil _ _) | exact ⟨_, rfl, frzC_map _⟩ | exact tl_ints rfl rfl rfl (by simp) | exact tl_txts rfl rfl rfl (by simp) | exact tl_nds rfl rfl rfl (by simp) | ((conv => whnf); first | exact trivial | exact rfl | exact .inr rfl | exact .inl ⟨rfl, rfl⟩ | apply And.intro) | refine tl_int ?_ | refine tl_bool ?_ | refine tl_str ?_ | refine tl_row rfl ?_ | exact cl_ints _ | exact cl_txts _ | exact cl_nds _ | exact cl_mp _ | exact Nat.succ_pos _ | exact pl_ints _ | exact pl_txts _ | exact pl_nds _ | with_reducible refine tl_f ?_)
    exact b_true ((ixFrom_mem v l 0).1 k)
  · (conv => whnf)
    refine ⟨[], [], ?_⟩
    (repeat' first | exact trivial | exact rfl | exact tl_pv rfl rfl rfl (List.cons_ne_nil _ _) | exact ⟨_, rfl, frzC_map _⟩ | exact tl_ints rfl rfl rfl (by simp) | exact tl_txts rfl rfl rfl (by simp) | exact tl_nds rfl rfl rfl (by simp) | ((conv => whnf); first | exact trivial | exact rfl | exact .inr rfl | exact .inl ⟨rfl, rfl⟩ | apply And.intro) | refine tl_int ?_ | refine tl_bool ?_ | refine tl_str ?_ | refine tl_row rfl ?_ | exact cl_ints _ | exact cl_txts _ | exact cl_nds _ | exact cl_mp _ | exact Nat.succ_pos _ | exact pl_ints _ | exact pl_txts _ | exact pl_nds _ | with_reducible refine tl_f ?_)
    exact b_false fun e => k ((ixFrom_mem v l 0).2 e)
def Rev (l : List Int) (i : Nat) (c : List Int) : Prop := c.length = l.length ∧ ∀ k, k < l.length → c[k]? = if k < i ∨ l.length < k + i + 1 then l[l.length - 1 - k]? else l[k]?
theorem Rev.step {l c : List Int} {i : Nat} (h : Rev l i c) (hi : 2 * i + 1 < l.length) {x y : Int} (hx : c[i]? = some x) (hy : c[l.length - 1 - i]? = some y) : Rev l (i + 1) ((c.set i y).set (l.length - 1 - i) x) := by
  obtain ⟨h1, h2⟩ := h
  refine ⟨by simp [h1], fun k hk => ?_⟩
  have ex : l[i]? = some x := by rw [← hx, h2 i (by omega), if_neg (by omega)]
  have ey : l[l.length - 1 - i]? = some y := by rw [← hy, h2 _ (by omega), if_neg (by omega)]
  by_cases k1 : l.length - 1 - i = k
  · subst k1
    rw [List.getElem?_set_self (by simp; omega), if_pos (by omega), show l.length - 1 - (l.length - 1 - i) = i by omega, ex]
  · rw [List.getElem?_set_ne k1]
    by_cases k2 : i = k
    · subst k2
      rw [List.getElem?_set_self (by omega), if_pos (by omega), ey]
    · rw [List.getElem?_set_ne k2, h2 k hk]
      by_cases k3 : k < i ∨ l.length < k + i + 1
      · rw [if_pos k3, if_pos (by omega)]
      · rw [if_neg k3, if_neg (by omega)]
theorem Rev.done {l c : List Int} {i : Nat} (h : Rev l i c) (hi : l.length ≤ 2 * i + 1) : c = l.reverse := by
  apply List.ext_getElem?
  intro k
  by_cases hk : k < l.length
  · rw [h.2 k hk, List.getElem?_reverse hk]
    by_cases k1 : k < i ∨ l.length < k + i + 1
    · rw [if_pos k1]
    · rw [if_neg k1, show l.length - 1 - k = k by omega]
  · rw [List.getElem?_eq_none (by rw [h.1]; omega), List.getElem?_eq_none (by simp; omega)]
end Go.Proofs.YtchfpgpboifbeaaGreat.Ac
set_option linter.unusedVariables false
set_option linter.unusedSimpArgs false
set_option maxRecDepth 20000
set_option maxHeartbeats 20000000
namespace Go.Proofs.YtchfpgpboifbeaaGreat.Ac
open Go.RowKit
theorem FC.t {P : Program} {f : FuncId} {a : List (Bool × List L)} {H1 : Hs} {p : Prop} [Decidable p] (h : FC P f a H1 [(false, [.f (bL (decide p))])]) (hp : p) : FC P f a H1 [(false, [.f (bL true)])] := by rwa [decide_eq_true hp] at h
theorem FC.n {P : Program} {f : FuncId} {a : List (Bool × List L)} {H1 : Hs} {p : Prop} [Decidable p] (h : FC P f a H1 [(false, [.f (bL (decide p))])]) (hp : ¬ p) : FC P f a H1 [(false, [.f (bL false)])] := by rwa [decide_eq_false hp] at h
@[reducible] def uL (c : Int) : L := .v (.int .u8 c)
def LetP (c : Int) : Prop := 97 ≤ c ∧ c ≤ 122 ∨ 65 ≤ c ∧ c ≤ 90 ∨ c = 95
def DigP (c : Int) : Prop := 48 ≤ c ∧ c ≤ 57
instance (c : Int) : Decidable (LetP c) := by unfold LetP; infer_instance
instance (c : Int) : Decidable (DigP c) := by unfold DigP; infer_instance
theorem isLetter_ok (c : Int) : FC Tryz.prog 276 [(false, [uL c])] [] [(false, [.f (bL (decide (LetP c)))])] := by
  refine gcalls_run tbl_ok mixed Tryz.func276 rfl Tryz.ntmps276 (by kernel_rfl) (Nat.le_of_ble_eq_true rfl) rfl rfl trivial ?_; (conv => whnf); (repeat (refine ⟨by kernel_rfl, ?_⟩; (conv => whnf)))
  (repeat' (apply And.intro <;> intro h <;> ((conv => whnf); (repeat (refine ⟨by kernel_rfl, ?_⟩; (conv => whnf)))))); (all_goals refine ⟨[], [], ?_⟩)
  all_goals (try (repeat' first | exact trivial | exact rfl | exact tl_pv rfl rfl rfl (List.cons_ne_nil _ _) | exact ⟨_, rfl, frzC_map _⟩ | exact tl_ints rfl rfl rfl (by simp) | exact tl_txts rfl rfl rfl (by simp) | exact tl_nds rfl rfl rfl (by simp) | ((conv => whnf); first | exact trivial | exact rfl | exact .inr rfl | exact .inl ⟨rfl, rfl⟩ | apply And.intro) | refine tl_int ?_ | refine tl_bool ?_ | refine tl_str ?_ | refine tl_row rfl ?_ | exact cl_ints _ | exact cl_txts _ | exact cl_nds _ | exact cl_mp _ | exact Nat.succ_pos _ | exact pl_ints _ | exact pl_txts _ | exact pl_nds _ | with_reducible refine tl_f ?_)); all_goals (try first | rfl | assumption | exact q.symm | omega | (rw [IntKind.wrap_i64]; omega) | (simp; done) | (simp; omega))
  all_goals first | exact b_true (by unfold LetP; omega) | exact b_false (by unfold LetP; omega)
theorem l00Letter_ok (c : Int) : FC Tryz.prog 271 [(false, [uL c])] [] [(false, [.f (bL (decide (LetP c)))])] := by
  refine gcalls_run tbl_ok mixed Tryz.func271 rfl Tryz.ntmps271 (by kernel_rfl) (Nat.le_of_ble_eq_true rfl) rfl rfl trivial ?_; (conv => whnf); (repeat (refine ⟨by kernel_rfl, ?_⟩; (conv => whnf)))
  (repeat' (apply And.intro <;> intro h <;> ((conv => whnf); (repeat (refine ⟨by kernel_rfl, ?_⟩; (conv => whnf)))))); (all_goals refine ⟨[], [], ?_⟩)
  all_goals (try (repeat' first | exact trivial | exact rfl | exact tl_pv rfl rfl rfl (List.cons_ne_nil _ _) | exact ⟨_, rfl, frzC_map _⟩ | exact tl_ints rfl rfl rfl (by simp) | exact tl_txts rfl rfl rfl (by simp) | exact tl_nds rfl rfl rfl (by simp) | ((conv => whnf); first | exact trivial | exact rfl | exact .inr rfl | exact .inl ⟨rfl, rfl⟩ | apply And.intro) | refine tl_int ?_ | refine tl_bool ?_ | refine tl_str ?_ | refine tl_row rfl ?_ | exact cl_ints _ | exact cl_txts _ | exact cl_nds _ | exact cl_mp _ | exact Nat.succ_pos _ | exact pl_ints _ | exact pl_txts _ | exact pl_nds _ | with_reducible refine tl_f ?_)); all_goals (try first | rfl | assumption | exact q.symm | omega | (rw [IntKind.wrap_i64]; omega) | (simp; done) | (simp; omega))
  all_goals first | exact b_true (by unfold LetP; omega) | exact b_false (by unfold LetP; omega)
theorem l00Digit_ok (c : Int) : FC Tryz.prog 272 [(false, [uL c])] [] [(false, [.f (bL (decide (DigP c)))])] := by
  refine gcalls_run tbl_ok mixed Tryz.func272 rfl Tryz.ntmps272 (by kernel_rfl) (Nat.le_of_ble_eq_true rfl) rfl rfl trivial ?_; (conv => whnf); (repeat (refine ⟨by kernel_rfl, ?_⟩; (conv => whnf)))
  (repeat' (apply And.intro <;> intro h <;> ((conv => whnf); (repeat (refine ⟨by kernel_rfl, ?_⟩; (conv => whnf)))))); (all_goals refine ⟨[], [], ?_⟩)
  all_goals (try (repeat' first | exact trivial | exact rfl | exact tl_pv rfl rfl rfl (List.cons_ne_nil _ _) | exact ⟨_, rfl, frzC_map _⟩ | exact tl_ints rfl rfl rfl (by simp) | exact tl_txts rfl rfl rfl (by simp) | exact tl_nds rfl rfl rfl (by simp) | ((conv => whnf); first | exact trivial | exact rfl | exact .inr rfl | exact .inl ⟨rfl, rfl⟩ | apply And.intro) | refine tl_int ?_ | refine tl_bool ?_ | refine tl_str ?_ | refine tl_row rfl ?_ | exact cl_ints _ | exact cl_txts _ | exact cl_nds _ | exact cl_mp _ | exact Nat.succ_pos _ | exact pl_ints _ | exact pl_txts _ | exact pl_nds _ | with_reducible refine tl_f ?_)); all_goals (try first | rfl | assumption | exact q.symm | omega | (rw [IntKind.wrap_i64]; omega) | (simp; done) | (simp; omega))
  all_goals first | exact b_true (by unfold DigP; omega) | exact b_false (by unfold DigP; omega)
def WordP (s : ByteArray) : Prop := (1 ≤ s.size ∧ s.size ≤ 12) ∧ ∀ i (h : i < s.size), LetP s[i].toNat ∨ 0 < i ∧ DigP s[i].toNat
noncomputable def dB (p : Prop) : Bool := @decide p (Classical.propDecidable _)
theorem dB_iff {p : Prop} : dB p = true ↔ p := by unfold dB; exact @decide_eq_true_iff _ (Classical.propDecidable _)
theorem dB_yes {p : Prop} (h : p) : dB p = true := dB_iff.2 h
theorem dB_no {p : Prop} (h : ¬ p) : dB p = false := by
  cases e : dB p with
  | false => rfl
  | true => exact absurd (dB_iff.1 e) h
theorem FC.y {P : Program} {f : FuncId} {a : List (Bool × List L)} {H1 : Hs} {p : Prop} (h : FC P f a H1 [(false, [.f (bL (dB p))])]) (hp : p) : FC P f a H1 [(false, [.f (bL true)])] := by rwa [dB_yes hp] at h
theorem FC.x {P : Program} {f : FuncId} {a : List (Bool × List L)} {H1 : Hs} {p : Prop} (h : FC P f a H1 [(false, [.f (bL (dB p))])]) (hp : ¬ p) : FC P f a H1 [(false, [.f (bL false)])] := by rwa [dB_no hp] at h
theorem nameOK_ok (s : ByteArray) (hs : s.size < 2 ^ 62) : FC Tryz.prog 228 [(false, [sL s])] [] [(false, [.f (bL (dB (WordP s)))])] := by
  refine gcalls_run tbl_ok mixed Tryz.func228 rfl Tryz.ntmps228 (by kernel_rfl) (Nat.le_of_ble_eq_true rfl) rfl rfl trivial ?_; (conv => whnf); (repeat (refine ⟨by kernel_rfl, ?_⟩; (conv => whnf)))
  (refine ⟨fun h => ?_, fun h => ?_⟩ <;> ((conv => whnf); (repeat (refine ⟨by kernel_rfl, ?_⟩; (conv => whnf)))))
  (refine ⟨[], [], ?_⟩; rotate_left)
  (refine ⟨fun h => ?_, fun h => ?_⟩ <;> ((conv => whnf); (repeat (refine ⟨by kernel_rfl, ?_⟩; (conv => whnf)))))
  (refine ⟨[], [], ?_⟩; rotate_left)
  have h0 : 0 < s.size := by omega
  (refine ⟨(0, s[0]), ⟨rfl, by simp [h0]⟩, ?_⟩; (conv => whnf); (repeat (refine ⟨by kernel_rfl, ?_⟩; (conv => whnf))))
  by_cases k0 : LetP s[0].toNat
  (refine ⟨([], _), (isLetter_ok _).t k0, ?_⟩; (conv => whnf); (repeat (refine ⟨by kernel_rfl, ?_⟩; (conv => whnf))))
  (refine ⟨fun (m : Nat) (es : Es) (hs : Hs) => ∃ (i : Nat), (m + i = s.size) ∧ (∀ j (h : j < s.size), j < i → LetP s[j].toNat ∨ 0 < j ∧ DigP s[j].toNat) ∧ es = [(20, .val false [.f (iL i)]), (19, .val false [.f (iL s.size)]), (0, .val false [.f (sL s)])] ∧ hs = [], ⟨s.size, [], [], _, _, ⟨rfl, ?_, ?_⟩, 0, ?_, ?_, rfl, rfl⟩, ?_⟩; rotate_left 4; rintro m es hs ⟨i, hNA0, hNA1, rfl, rfl⟩; (conv => whnf); (repeat (refine ⟨by kernel_rfl, ?_⟩; (conv => whnf))))
  (refine ⟨fun h => ?_, fun h => ?_⟩ <;> ((conv => whnf); (repeat (refine ⟨by kernel_rfl, ?_⟩; (conv => whnf)))))
  have hi : i < s.size := by omega
  (refine ⟨(i, s[i]), ⟨rfl, by simp [hi]⟩, ?_⟩; (conv => whnf); (repeat (refine ⟨by kernel_rfl, ?_⟩; (conv => whnf))))
  by_cases k : LetP s[i].toNat
  (refine ⟨([], _), (isLetter_ok _).t k, ?_⟩; (conv => whnf); (repeat (refine ⟨by kernel_rfl, ?_⟩; (conv => whnf))))
  (refine ⟨m - 1, [], [], [(20, .val false [.f (iL (i + 1))]), (19, .val false [.f (iL s.size)]), (0, .val false [.f (sL s)])], [], by omega, ⟨rfl, ?_, ?_⟩, (i + 1), ?_, ?_, rfl, rfl⟩; rotate_left 4)
  (refine ⟨([], _), (isLetter_ok _).n k, ?_⟩; (conv => whnf); (repeat (refine ⟨by kernel_rfl, ?_⟩; (conv => whnf))))
  (refine ⟨(i, s[i]), ⟨rfl, by simp [hi]⟩, ?_⟩; (conv => whnf); (repeat (refine ⟨by kernel_rfl, ?_⟩; (conv => whnf))))
  (refine ⟨fun h => ?_, fun h => ?_⟩ <;> ((conv => whnf); (repeat (refine ⟨by kernel_rfl, ?_⟩; (conv => whnf)))))
  (refine ⟨[], [], ?_⟩; rotate_left)
  (refine ⟨(i, s[i]), ⟨rfl, by simp [hi]⟩, ?_⟩; (conv => whnf); (repeat (refine ⟨by kernel_rfl, ?_⟩; (conv => whnf))))
  (refine ⟨fun h => ?_, fun h => ?_⟩ <;> ((conv => whnf); (repeat (refine ⟨by kernel_rfl, ?_⟩; (conv => whnf)))))
  (refine ⟨[], [], ?_⟩; rotate_left)
  (refine ⟨m - 1, [], [], [(20, .val false [.f (iL (i + 1))]), (19, .val false [.f (iL s.size)]), (0, .val false [.f (sL s)])], [], by omega, ⟨rfl, ?_, ?_⟩, (i + 1), ?_, ?_, rfl, rfl⟩; rotate_left 4)
  have hi : s.size ≤ i := by omega
  (refine ⟨[], [], ?_⟩; rotate_left)
  (refine ⟨([], _), (isLetter_ok _).n k0, ?_⟩; (conv => whnf); (repeat (refine ⟨by kernel_rfl, ?_⟩; (conv => whnf))))
  (refine ⟨[], [], ?_⟩; rotate_left)
  all_goals (try (repeat' first | exact trivial | exact rfl | exact tl_pv rfl rfl rfl (List.cons_ne_nil _ _) | exact ⟨_, rfl, frzC_map _⟩ | exact tl_ints rfl rfl rfl (by simp) | exact tl_txts rfl rfl rfl (by simp) | exact tl_nds rfl rfl rfl (by simp) | ((conv => whnf); first | exact trivial | exact rfl | exact .inr rfl | exact .inl ⟨rfl, rfl⟩ | apply And.intro) | refine tl_int ?_ | refine tl_bool ?_ | refine tl_str ?_ | refine tl_row rfl ?_ | exact cl_ints _ | exact cl_txts _ | exact cl_nds _ | exact cl_mp _ | exact Nat.succ_pos _ | exact pl_ints _ | exact pl_txts _ | exact pl_nds _ | with_reducible refine tl_f ?_)); all_goals (try first | rfl | assumption | exact q.symm | omega | (rw [IntKind.wrap_i64]; omega) | (simp; done) | (simp; omega))
  all_goals (try dsimp only at *)
  all_goals first
    | exact (dB_no fun w => by have := w.1; omega).symm
    | exact (dB_no fun w => k0 ((w.2 0 (by omega)).elim id fun q => absurd q.1 (by omega))).symm
    | exact (dB_no fun w => by rcases w.2 i hi with q | ⟨_, q⟩; exact k q; unfold DigP at q; omega).symm
    | exact (dB_yes ⟨by omega, fun j hj => hNA1 j hj (by omega)⟩).symm
    | (intro j hj hji; rcases Nat.lt_succ_iff_lt_or_eq.1 hji with q | rfl; exact hNA1 j hj q; exact .inl k)
    | (intro j hj hji; rcases Nat.lt_succ_iff_lt_or_eq.1 hji with q | rfl; exact hNA1 j hj q; refine .inr ⟨?_, by unfold DigP; omega⟩; rcases Nat.eq_zero_or_pos j with rfl | q; exact absurd k0 k; exact q)
theorem l00Word_ok (s : ByteArray) (hs : s.size < 2 ^ 62) : FC Tryz.prog 221 [(false, [sL s])] [] [(false, [.f (bL (dB (WordP s)))])] := by
  refine gcalls_run tbl_ok mixed Tryz.func221 rfl Tryz.ntmps221 (by kernel_rfl) (Nat.le_of_ble_eq_true rfl) rfl rfl trivial ?_; (conv => whnf); (repeat (refine ⟨by kernel_rfl, ?_⟩; (conv => whnf)))
  (refine ⟨fun h => ?_, fun h => ?_⟩ <;> ((conv => whnf); (repeat (refine ⟨by kernel_rfl, ?_⟩; (conv => whnf)))))
  (refine ⟨[], [], ?_⟩; rotate_left)
  (refine ⟨fun h => ?_, fun h => ?_⟩ <;> ((conv => whnf); (repeat (refine ⟨by kernel_rfl, ?_⟩; (conv => whnf)))))
  (refine ⟨[], [], ?_⟩; rotate_left)
  have h0 : 0 < s.size := by omega
  (refine ⟨(0, s[0]), ⟨rfl, by simp [h0]⟩, ?_⟩; (conv => whnf); (repeat (refine ⟨by kernel_rfl, ?_⟩; (conv => whnf))))
  by_cases k0 : LetP s[0].toNat
  (refine ⟨([], _), (l00Letter_ok _).t k0, ?_⟩; (conv => whnf); (repeat (refine ⟨by kernel_rfl, ?_⟩; (conv => whnf))))
  (refine ⟨fun (m : Nat) (es : Es) (hs : Hs) => ∃ (i : Nat), (m + i = s.size) ∧ (1 ≤ i) ∧ (∀ j (h : j < s.size), j < i → LetP s[j].toNat ∨ 0 < j ∧ DigP s[j].toNat) ∧ es = [(3, .val false [.f (iL i)]), (0, .val false [.f (sL s)])] ∧ hs = [], ⟨s.size - 1, [], [], _, _, ⟨rfl, ?_, ?_⟩, 1, ?_, ?_, ?_, rfl, rfl⟩, ?_⟩; rotate_left 5; rintro m es hs ⟨i, hNB0, hNB1, hNB2, rfl, rfl⟩; (conv => whnf); (repeat (refine ⟨by kernel_rfl, ?_⟩; (conv => whnf))))
  (refine ⟨fun h => ?_, fun h => ?_⟩ <;> ((conv => whnf); (repeat (refine ⟨by kernel_rfl, ?_⟩; (conv => whnf)))))
  have hi : i < s.size := by omega
  (refine ⟨(i, s[i]), ⟨rfl, by simp [hi]⟩, ?_⟩; (conv => whnf); (repeat (refine ⟨by kernel_rfl, ?_⟩; (conv => whnf))))
  by_cases k : LetP s[i].toNat
  (refine ⟨([], _), (l00Letter_ok _).t k, ?_⟩; (conv => whnf); (repeat (refine ⟨by kernel_rfl, ?_⟩; (conv => whnf))))
  (refine ⟨m - 1, [], [], [(3, .val false [.f (iL (i + 1))]), (0, .val false [.f (sL s)])], [], by omega, ⟨rfl, ?_, ?_⟩, (i + 1), ?_, ?_, ?_, rfl, rfl⟩; rotate_left 5)
  (refine ⟨([], _), (l00Letter_ok _).n k, ?_⟩; (conv => whnf); (repeat (refine ⟨by kernel_rfl, ?_⟩; (conv => whnf))))
  (refine ⟨(i, s[i]), ⟨rfl, by simp [hi]⟩, ?_⟩; (conv => whnf); (repeat (refine ⟨by kernel_rfl, ?_⟩; (conv => whnf))))
  by_cases k1 : DigP s[i].toNat
  (refine ⟨([], _), (l00Digit_ok _).t k1, ?_⟩; (conv => whnf); (repeat (refine ⟨by kernel_rfl, ?_⟩; (conv => whnf))))
  (refine ⟨m - 1, [], [], [(3, .val false [.f (iL (i + 1))]), (0, .val false [.f (sL s)])], [], by omega, ⟨rfl, ?_, ?_⟩, (i + 1), ?_, ?_, ?_, rfl, rfl⟩; rotate_left 5)
  (refine ⟨([], _), (l00Digit_ok _).n k1, ?_⟩; (conv => whnf); (repeat (refine ⟨by kernel_rfl, ?_⟩; (conv => whnf))))
  (refine ⟨[], [], ?_⟩; rotate_left)
  have hi : s.size ≤ i := by omega
  (refine ⟨[], [], ?_⟩; rotate_left)
  (refine ⟨([], _), (l00Letter_ok _).n k0, ?_⟩; (conv => whnf); (repeat (refine ⟨by kernel_rfl, ?_⟩; (conv => whnf))))
  (refine ⟨[], [], ?_⟩; rotate_left)
  all_goals (try (repeat' first | exact trivial | exact rfl | exact tl_pv rfl rfl rfl (List.cons_ne_nil _ _) | exact ⟨_, rfl, frzC_map _⟩ | exact tl_ints rfl rfl rfl (by simp) | exact tl_txts rfl rfl rfl (by simp) | exact tl_nds rfl rfl rfl (by simp) | ((conv => whnf); first | exact trivial | exact rfl | exact .inr rfl | exact .inl ⟨rfl, rfl⟩ | apply And.intro) | refine tl_int ?_ | refine tl_bool ?_ | refine tl_str ?_ | refine tl_row rfl ?_ | exact cl_ints _ | exact cl_txts _ | exact cl_nds _ | exact cl_mp _ | exact Nat.succ_pos _ | exact pl_ints _ | exact pl_txts _ | exact pl_nds _ | with_reducible refine tl_f ?_)); all_goals (try first | rfl | assumption | exact q.symm | omega | (rw [IntKind.wrap_i64]; omega) | (simp; done) | (simp; omega))
  all_goals (try dsimp only at *)
  all_goals first
    | exact (dB_no fun w => by have := w.1; omega).symm
    | exact (dB_no fun w => k0 ((w.2 0 (by omega)).elim id fun q => absurd q.1 (by omega))).symm
    | exact (dB_no fun w => by rcases w.2 i hi with q | ⟨_, q⟩; exact k q; exact k1 q).symm
    | exact (dB_yes ⟨by omega, fun j hj => hNB2 j hj (by omega)⟩).symm
    | (intro j hj hji; rcases Nat.lt_succ_iff_lt_or_eq.1 hji with q | rfl; exact hNB2 j hj q; exact .inl k)
    | (intro j hj hji; rcases Nat.lt_succ_iff_lt_or_eq.1 hji with q | rfl; exact hNB2 j hj q; exact .inr ⟨by omega, k1⟩)
    | (intro j hj hji; obtain rfl : j = 0 := by omega
       exact .inl k0)
end Go.Proofs.YtchfpgpboifbeaaGreat.Ac
set_option linter.unusedVariables false
set_option linter.unusedSimpArgs false
set_option maxRecDepth 20000
set_option maxHeartbeats 20000000
namespace Go.Proofs.YtchfpgpboifbeaaGreat.Ac
open Go.RowKit
def KindP (rules : Int) (l : List Int) (i : Nat) (h : i < l.length) : Prop := (1 ≤ l[i] ∧ l[i] ≤ rules) ∧ ∀ j (hj : j + 1 = i), l[j] < l[i]
def TermP (rules : Int) (t : Tm) : Prop := (0 < t.kinds.length ∧ ∀ i (h : i < t.kinds.length), KindP rules t.kinds i h) ∧ 0 ≤ t.many ∧ t.many ≤ 3
theorem kinds_low {rules : Int} {l : List Int} (h : ∀ i (h : i < l.length), KindP rules l i h) : ∀ i (hi : i < l.length), (i : Int) + 1 ≤ l[i]
  | 0, hi => by have := (h 0 hi).1.1; omega
  | i + 1, hi => by
    have h1 := kinds_low h i (by omega)
    have h2 := (h (i + 1) hi).2 i rfl
    omega
theorem TermP.short {rules : Int} {t : Tm} (h : TermP rules t) : (t.kinds.length : Int) ≤ rules := by
  have h1 := kinds_low h.1.2 (t.kinds.length - 1) (by have := h.1.1; omega)
  have h2 := (h.1.2 (t.kinds.length - 1) (by have := h.1.1; omega)).1.2
  have := h.1.1
  omega
theorem ge_idx {α : Type} {l : List α} {z : Int} {i : Nat} (hi : i < l.length) (hz : z = (i : Int)) {f : α → List L} : z = (i : Int) ∧ (l.map f)[i]? = some (f l[i]) := ⟨hz, by simp [hi]⟩
theorem wrap_pre {i : Nat} (h : 0 < i) (h2 : i < 2 ^ 62) : IntKind.i64.wrap ((i : Int) - 1) = ((i - 1 : Nat) : Int) := by rw [IntKind.wrap_i64]; omega
theorem lt_suc {p : Nat → Prop} {n i : Nat} (h : ∀ j, j < i → p j) (hi : p i) : ∀ j, j < i + 1 → p j := fun j hj => by
  rcases Nat.lt_succ_iff_lt_or_eq.1 hj with q | rfl
  · exact h j q
  · exact hi
theorem kind_step {rules : Int} {l : List Int} {i : Nat} (hi : i < l.length) (k : 1 ≤ l[i] ∧ l[i] ≤ rules) (h : 0 < i → l[i - 1] < l[i]) : KindP rules l i hi := ⟨k, fun j hj => by
  have e : j = i - 1 := by omega
  subst e
  exact h (by omega)⟩
theorem isTerm_ok (t : Tm) (rules : Int) (hl : t.kinds.length < 2 ^ 62) : FC Tryz.prog 279 [(true, tmL t), (false, [iL rules])] [] [(false, [.f (bL (dB (TermP rules t)))])] := by
  refine gcalls_run tbl_ok mixed Tryz.func279 rfl Tryz.ntmps279 (by kernel_rfl) (Nat.le_of_ble_eq_true rfl) rfl rfl trivial ?_; (conv => whnf); (repeat (refine ⟨by kernel_rfl, ?_⟩; (conv => whnf)))
  (refine ⟨fun (m : Nat) (es : Es) (hs : Hs) => ∃ (i : Nat), (m + i = t.kinds.length) ∧ (∀ j, j < i → ∀ h : j < t.kinds.length, KindP rules t.kinds j h) ∧ es = [(10, .val false [.f (iL i)]), (9, .val false [.f (iL t.kinds.length)]), (8, .val false [.f (ints t.kinds)]), (2, .val false [.pt 48 0 0]), (1, .val false [.f (iL rules)])] ∧ hs = [(48, some ⟨3, 2, [(tmL t).map .f]⟩)], ⟨t.kinds.length, [], [], _, _, ⟨rfl, ?_, ?_⟩, 0, ?_, ?_, rfl, rfl⟩, ?_⟩; rotate_left 4; rintro m es hs ⟨i, hTA0, hTA1, rfl, rfl⟩; (conv => whnf); (repeat (refine ⟨by kernel_rfl, ?_⟩; (conv => whnf))))
  (refine ⟨fun h => ?_, fun h => ?_⟩ <;> ((conv => whnf); (repeat (refine ⟨by kernel_rfl, ?_⟩; (conv => whnf)))))
  have hi : i < t.kinds.length := by omega
  (refine ⟨(i, intE t.kinds[i]), ge_idx hi rfl, ?_⟩; (conv => whnf); (repeat (refine ⟨by kernel_rfl, ?_⟩; (conv => whnf))))
  by_cases k : 1 ≤ t.kinds[i] ∧ t.kinds[i] ≤ rules
  (refine ⟨([], _), within_t k, ?_⟩; (conv => whnf); (repeat (refine ⟨by kernel_rfl, ?_⟩; (conv => whnf))))
  (refine ⟨fun h => ?_, fun h => ?_⟩ <;> ((conv => whnf); (repeat (refine ⟨by kernel_rfl, ?_⟩; (conv => whnf)))))
  have hp : i - 1 < t.kinds.length := by omega
  (refine ⟨(i - 1, intE t.kinds[i - 1]), ge_idx hp (wrap_pre (by omega) (by omega)), ?_⟩; (conv => whnf); (repeat (refine ⟨by kernel_rfl, ?_⟩; (conv => whnf))))
  (refine ⟨fun h => ?_, fun h => ?_⟩ <;> ((conv => whnf); (repeat (refine ⟨by kernel_rfl, ?_⟩; (conv => whnf)))))
  have q : dB (TermP rules t) = false := dB_no fun w => absurd ((w.1.2 i hi).2 (i - 1) (by omega)) (by omega)
  (refine ⟨[], [], ?_⟩; rotate_left)
  have q := lt_suc (n := 0) hTA1 fun _ => kind_step hi k fun _ => by omega
  (refine ⟨m - 1, [], [], [(10, .val false [.f (iL (i + 1))]), (9, .val false [.f (iL t.kinds.length)]), (8, .val false [.f (ints t.kinds)]), (2, .val false [.pt 48 0 0]), (1, .val false [.f (iL rules)])], [(48, some ⟨3, 2, [(tmL t).map .f]⟩)], by omega, ⟨rfl, ?_, ?_⟩, (i + 1), ?_, ?_, rfl, rfl⟩; rotate_left 4)
  have q := lt_suc (n := 0) hTA1 fun _ => kind_step hi k fun _ => by omega
  (refine ⟨m - 1, [], [], [(10, .val false [.f (iL (i + 1))]), (9, .val false [.f (iL t.kinds.length)]), (8, .val false [.f (ints t.kinds)]), (2, .val false [.pt 48 0 0]), (1, .val false [.f (iL rules)])], [(48, some ⟨3, 2, [(tmL t).map .f]⟩)], by omega, ⟨rfl, ?_, ?_⟩, (i + 1), ?_, ?_, rfl, rfl⟩; rotate_left 4)
  (refine ⟨([], _), within_f k, ?_⟩; (conv => whnf); (repeat (refine ⟨by kernel_rfl, ?_⟩; (conv => whnf))))
  have q : dB (TermP rules t) = false := dB_no fun w => k (w.1.2 i hi).1
  (refine ⟨[], [], ?_⟩; rotate_left)
  have hi : t.kinds.length ≤ i := by omega
  (refine ⟨fun h => ?_, fun h => ?_⟩ <;> ((conv => whnf); (repeat (refine ⟨by kernel_rfl, ?_⟩; (conv => whnf)))))
  by_cases k : 0 ≤ t.many ∧ t.many ≤ 3
  (refine ⟨([], _), within_t k, ?_⟩; (conv => whnf); (repeat (refine ⟨by kernel_rfl, ?_⟩; (conv => whnf))))
  have q : dB (TermP rules t) = true := dB_yes ⟨⟨by rw [List.length_map] at h; omega, fun j hj => hTA1 j (by omega) hj⟩, k⟩
  (refine ⟨[], [], ?_⟩; rotate_left)
  (refine ⟨([], _), within_f k, ?_⟩; (conv => whnf); (repeat (refine ⟨by kernel_rfl, ?_⟩; (conv => whnf))))
  have q : dB (TermP rules t) = false := dB_no fun w => k w.2
  (refine ⟨[], [], ?_⟩; rotate_left)
  have q : dB (TermP rules t) = false := dB_no fun w => by have := w.1.1; rw [List.length_map] at h; omega
  (refine ⟨[], [], ?_⟩; rotate_left)
  all_goals (try (repeat' first | exact trivial | exact rfl | exact tl_pv rfl rfl rfl (List.cons_ne_nil _ _) | exact ⟨_, rfl, frzC_map _⟩ | exact tl_ints rfl rfl rfl (by simp) | exact tl_txts rfl rfl rfl (by simp) | exact tl_nds rfl rfl rfl (by simp) | exact tl_tms rfl rfl rfl (by simp) | exact tl_rus rfl rfl rfl (by simp) | ((conv => whnf); first | exact trivial | exact rfl | exact .inr rfl | exact .inl ⟨rfl, rfl⟩ | apply And.intro) | refine tl_int ?_ | refine tl_bool ?_ | refine tl_str ?_ | refine tl_row rfl ?_ | exact cl_ints _ | exact cl_txts _ | exact cl_nds _ | exact cl_tms _ | exact cl_rus _ | exact cl_mp _ | exact Nat.succ_pos _ | exact pl_ints _ | exact pl_txts _ | exact pl_nds _ | exact pl_tms _ | exact pl_rus _ | with_reducible refine tl_f ?_)); all_goals (try first | rfl | assumption | exact q.symm | omega | (rw [IntKind.wrap_i64]; omega) | (simp; done) | (simp; omega))
theorem l03Many_ok (n : Int) : FC Tryz.prog 273 [(false, [iL n])] [] [(false, [.f (bL (decide (0 ≤ n ∧ n ≤ 3)))])] := by
  by_cases k : 0 ≤ n ∧ n ≤ 3
  · rw [decide_eq_true k]
    refine gcalls_run tbl_ok mixed Tryz.func273 rfl Tryz.ntmps273 (by kernel_rfl) (Nat.le_of_ble_eq_true rfl) rfl rfl trivial ?_; (conv => whnf); (repeat (refine ⟨by kernel_rfl, ?_⟩; (conv => whnf)))
    (refine ⟨([], _), in_t k, ?_⟩; (conv => whnf); (repeat (refine ⟨by kernel_rfl, ?_⟩; (conv => whnf))))
    (refine ⟨[], [], ?_⟩; rotate_left)
    all_goals (try (repeat' first | exact trivial | exact rfl | exact tl_pv rfl rfl rfl (List.cons_ne_nil _ _) | exact ⟨_, rfl, frzC_map _⟩ | exact tl_ints rfl rfl rfl (by simp) | exact tl_txts rfl rfl rfl (by simp) | exact tl_nds rfl rfl rfl (by simp) | exact tl_tms rfl rfl rfl (by simp) | exact tl_rus rfl rfl rfl (by simp) | ((conv => whnf); first | exact trivial | exact rfl | exact .inr rfl | exact .inl ⟨rfl, rfl⟩ | apply And.intro) | refine tl_int ?_ | refine tl_bool ?_ | refine tl_str ?_ | refine tl_row rfl ?_ | exact cl_ints _ | exact cl_txts _ | exact cl_nds _ | exact cl_tms _ | exact cl_rus _ | exact cl_mp _ | exact Nat.succ_pos _ | exact pl_ints _ | exact pl_txts _ | exact pl_nds _ | exact pl_tms _ | exact pl_rus _ | with_reducible refine tl_f ?_)); all_goals (try first | rfl | assumption | exact q.symm | omega | (rw [IntKind.wrap_i64]; omega) | (simp; done) | (simp; omega))
  · rw [decide_eq_false k]
    refine gcalls_run tbl_ok mixed Tryz.func273 rfl Tryz.ntmps273 (by kernel_rfl) (Nat.le_of_ble_eq_true rfl) rfl rfl trivial ?_; (conv => whnf); (repeat (refine ⟨by kernel_rfl, ?_⟩; (conv => whnf)))
    (refine ⟨([], _), in_f k, ?_⟩; (conv => whnf); (repeat (refine ⟨by kernel_rfl, ?_⟩; (conv => whnf))))
    (refine ⟨[], [], ?_⟩; rotate_left)
    all_goals (try (repeat' first | exact trivial | exact rfl | exact tl_pv rfl rfl rfl (List.cons_ne_nil _ _) | exact ⟨_, rfl, frzC_map _⟩ | exact tl_ints rfl rfl rfl (by simp) | exact tl_txts rfl rfl rfl (by simp) | exact tl_nds rfl rfl rfl (by simp) | exact tl_tms rfl rfl rfl (by simp) | exact tl_rus rfl rfl rfl (by simp) | ((conv => whnf); first | exact trivial | exact rfl | exact .inr rfl | exact .inl ⟨rfl, rfl⟩ | apply And.intro) | refine tl_int ?_ | refine tl_bool ?_ | refine tl_str ?_ | refine tl_row rfl ?_ | exact cl_ints _ | exact cl_txts _ | exact cl_nds _ | exact cl_tms _ | exact cl_rus _ | exact cl_mp _ | exact Nat.succ_pos _ | exact pl_ints _ | exact pl_txts _ | exact pl_nds _ | exact pl_tms _ | exact pl_rus _ | with_reducible refine tl_f ?_)); all_goals (try first | rfl | assumption | exact q.symm | omega | (rw [IntKind.wrap_i64]; omega) | (simp; done) | (simp; omega))
theorem l03Term_ok (t : Tm) (rules : Int) (hl : t.kinds.length < 2 ^ 62) : FC Tryz.prog 222 [(true, tmL t), (false, [iL rules])] [] [(false, [.f (bL (dB (TermP rules t)))])] := by
  refine gcalls_run tbl_ok mixed Tryz.func222 rfl Tryz.ntmps222 (by kernel_rfl) (Nat.le_of_ble_eq_true rfl) rfl rfl trivial ?_; (conv => whnf); (repeat (refine ⟨by kernel_rfl, ?_⟩; (conv => whnf)))
  (refine ⟨fun h => ?_, fun h => ?_⟩ <;> ((conv => whnf); (repeat (refine ⟨by kernel_rfl, ?_⟩; (conv => whnf)))))
  have q : dB (TermP rules t) = false := dB_no fun w => by have := w.1.1; simp at h; simp [h] at this
  (refine ⟨[], [], ?_⟩; rotate_left)
  have h0 : 0 < t.kinds.length := by simp at h; exact List.length_pos_iff.2 h
  (refine ⟨fun h => ?_, fun h => ?_⟩ <;> ((conv => whnf); (repeat (refine ⟨by kernel_rfl, ?_⟩; (conv => whnf)))))
  have q : dB (TermP rules t) = false := dB_no fun w => by have := w.short; simp at h; omega
  (refine ⟨[], [], ?_⟩; rotate_left)
  by_cases k3 : 0 ≤ t.many ∧ t.many ≤ 3
  (refine ⟨([], _), (l03Many_ok _).t k3, ?_⟩; (conv => whnf); (repeat (refine ⟨by kernel_rfl, ?_⟩; (conv => whnf))))
  (refine ⟨fun (m : Nat) (es : Es) (hs : Hs) => ∃ (i : Nat), (m + i = t.kinds.length) ∧ (∀ j, j < i → ∀ h : j < t.kinds.length, KindP rules t.kinds j h) ∧ es = [(5, .val false [.f (iL i)]), (2, .val false [.pt 48 0 0]), (1, .val false [.f (iL rules)])] ∧ hs = [(48, some ⟨3, 2, [(tmL t).map .f]⟩)], ⟨t.kinds.length, [], [], _, _, ⟨rfl, ?_, ?_⟩, 0, ?_, ?_, rfl, rfl⟩, ?_⟩; rotate_left 4; rintro m es hs ⟨i, hTB0, hTB1, rfl, rfl⟩; (conv => whnf); (repeat (refine ⟨by kernel_rfl, ?_⟩; (conv => whnf))))
  (refine ⟨fun h => ?_, fun h => ?_⟩ <;> ((conv => whnf); (repeat (refine ⟨by kernel_rfl, ?_⟩; (conv => whnf)))))
  have hi : i < t.kinds.length := by simpa using h
  (refine ⟨(i, intE t.kinds[i]), ge_idx hi rfl, ?_⟩; (conv => whnf); (repeat (refine ⟨by kernel_rfl, ?_⟩; (conv => whnf))))
  by_cases k : 1 ≤ t.kinds[i] ∧ t.kinds[i] ≤ rules
  (refine ⟨([], _), in_t k, ?_⟩; (conv => whnf); (repeat (refine ⟨by kernel_rfl, ?_⟩; (conv => whnf))))
  (refine ⟨fun h => ?_, fun h => ?_⟩ <;> ((conv => whnf); (repeat (refine ⟨by kernel_rfl, ?_⟩; (conv => whnf)))))
  have hp : i - 1 < t.kinds.length := by omega
  (refine ⟨(i, intE t.kinds[i]), ge_idx hi rfl, ?_⟩; (conv => whnf); (repeat (refine ⟨by kernel_rfl, ?_⟩; (conv => whnf))))
  (refine ⟨(i - 1, intE t.kinds[i - 1]), ge_idx hp (wrap_pre (by omega) (by omega)), ?_⟩; (conv => whnf); (repeat (refine ⟨by kernel_rfl, ?_⟩; (conv => whnf))))
  (refine ⟨fun h => ?_, fun h => ?_⟩ <;> ((conv => whnf); (repeat (refine ⟨by kernel_rfl, ?_⟩; (conv => whnf)))))
  have q : dB (TermP rules t) = false := dB_no fun w => absurd ((w.1.2 i hi).2 (i - 1) (by omega)) (by omega)
  (refine ⟨[], [], ?_⟩; rotate_left)
  have q := lt_suc (n := 0) hTB1 fun _ => kind_step hi k fun _ => by omega
  (refine ⟨m - 1, [], [], [(5, .val false [.f (iL (i + 1))]), (2, .val false [.pt 48 0 0]), (1, .val false [.f (iL rules)])], [(48, some ⟨3, 2, [(tmL t).map .f]⟩)], by omega, ⟨rfl, ?_, ?_⟩, (i + 1), ?_, ?_, rfl, rfl⟩; rotate_left 4)
  have q := lt_suc (n := 0) hTB1 fun _ => kind_step hi k fun _ => by omega
  (refine ⟨m - 1, [], [], [(5, .val false [.f (iL (i + 1))]), (2, .val false [.pt 48 0 0]), (1, .val false [.f (iL rules)])], [(48, some ⟨3, 2, [(tmL t).map .f]⟩)], by omega, ⟨rfl, ?_, ?_⟩, (i + 1), ?_, ?_, rfl, rfl⟩; rotate_left 4)
  (refine ⟨([], _), in_f k, ?_⟩; (conv => whnf); (repeat (refine ⟨by kernel_rfl, ?_⟩; (conv => whnf))))
  have q : dB (TermP rules t) = false := dB_no fun w => k (w.1.2 i hi).1
  (refine ⟨[], [], ?_⟩; rotate_left)
  have hi : t.kinds.length ≤ i := by simpa using h
  have q : dB (TermP rules t) = true := dB_yes ⟨⟨h0, fun j hj => hTB1 j (by omega) hj⟩, k3⟩
  (refine ⟨[], [], ?_⟩; rotate_left)
  (refine ⟨([], _), (l03Many_ok _).n k3, ?_⟩; (conv => whnf); (repeat (refine ⟨by kernel_rfl, ?_⟩; (conv => whnf))))
  have q : dB (TermP rules t) = false := dB_no fun w => k3 w.2
  (refine ⟨[], [], ?_⟩; rotate_left)
  all_goals (try (repeat' first | exact trivial | exact rfl | exact tl_pv rfl rfl rfl (List.cons_ne_nil _ _) | exact ⟨_, rfl, frzC_map _⟩ | exact tl_ints rfl rfl rfl (by simp) | exact tl_txts rfl rfl rfl (by simp) | exact tl_nds rfl rfl rfl (by simp) | exact tl_tms rfl rfl rfl (by simp) | exact tl_rus rfl rfl rfl (by simp) | ((conv => whnf); first | exact trivial | exact rfl | exact .inr rfl | exact .inl ⟨rfl, rfl⟩ | apply And.intro) | refine tl_int ?_ | refine tl_bool ?_ | refine tl_str ?_ | refine tl_row rfl ?_ | exact cl_ints _ | exact cl_txts _ | exact cl_nds _ | exact cl_tms _ | exact cl_rus _ | exact cl_mp _ | exact Nat.succ_pos _ | exact pl_ints _ | exact pl_txts _ | exact pl_nds _ | exact pl_tms _ | exact pl_rus _ | with_reducible refine tl_f ?_)); all_goals (try first | rfl | assumption | exact q.symm | omega | (rw [IntKind.wrap_i64]; omega) | (simp; done) | (simp; omega))
end Go.Proofs.YtchfpgpboifbeaaGreat.Ac
