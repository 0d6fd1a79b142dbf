/- Several of our texts, one behind the other, without what this claim does not need: Le. -/
import Derived.Test.YtecnmodeggnjoaaGreatZe2002630
import Derived.Test.YtecnmodeggnjoaaGreatZe8207cd8
set_option linter.unusedVariables false
set_option linter.unusedSimpArgs false
set_option maxRecDepth 20000
set_option maxHeartbeats 20000000
namespace Go.Proofs.YtecnmodeggnjoaaGreat.Ac
open Go.RowKit
def clashP (d : Dc) (l : List Ho) (x : Ho) (s node : Int) : Prop := ¬ fitP (modeF d l s node) (wantF d l x node)
theorem conflicts11_ok (d : Dc) (hd : DOK d) (l : List Ho) (hl : HoldG d l) (x : Ho) (h1 : (ndAt d.nodes x.node).isSome) (s node : Int) :
    FC Tryz.prog 318 [(false, [iL node]), (false, [.pv [.pv (dcL d)]]), (false, [.pv [hos l]]), (false, [.pv [iL s]]), (false, [.pv (hoL x)])] [] [(false, [.f (bL (dB (clashP d l x s node)))])] := by
  have hc := compatible_ok (modeF d l s node) (wantF d l x node)
  by_cases k : fitP (modeF d l s node) (wantF d l x node)
  · have q : dB (clashP d l x s node) = false := dB_no fun w => w k
    refine gr Tryz.func318 Tryz.ntmps318 trivial ?_
    refine ⟨([], _), mode_ok d hd l hl s node, nx ?_⟩
    refine ⟨([], _), wanted_ok d hd l hl x h1 node, nx ?_⟩
    refine ⟨([], _), hc.y k, nx ?_⟩
    exact ⟨[], [], don⟩
  · have q : dB (clashP d l x s node) = true := dB_yes k
    refine gr Tryz.func318 Tryz.ntmps318 trivial ?_
    refine ⟨([], _), mode_ok d hd l hl s node, nx ?_⟩
    refine ⟨([], _), wanted_ok d hd l hl x h1 node, nx ?_⟩
    refine ⟨([], _), hc.x k, nx ?_⟩
    exact ⟨[], [], don⟩
def confP (d : Dc) (l : List Ho) (x : Ho) (s : Int) : Prop := s ≠ x.session ∧ ∃ y ∈ pathF d x.node, ¬ fitP (modeF d l s y) (wantF d l x y)
theorem conflicts1_ok (d : Dc) (hd : DOK d) (l : List Ho) (hl : HoldG d l) (x : Ho) (h1 : (ndAt d.nodes x.node).isSome) (s : Int) :
    FC Tryz.prog 316 [(false, [iL s]), (false, [.pv (hoL x)]), (false, [.pv [.pv (dcL d)]]), (false, [.pv [hos l]])] [] [(false, [.f (bL (!dB (confP d l x s)))])] := by
  have hpl := path_len d x.node
  have hco := cofI4_ok (pathF d x.node) 318 (.pv [.pv (dcL d)]) (.pv [hos l]) (.pv [iL s]) (.pv (hoL x)) (fun y => dB (clashP d l x s y)) (by omega) fun y hy => conflicts11_ok d hd l hl x h1 s y
  by_cases ks : s = x.session
  · have q : (!dB (confP d l x s)) = true := by rw [dB_no fun w => w.1 ks]; rfl
    refine gr Tryz.func316 Tryz.ntmps316 trivial ?_
    refine ⟨fun h => nx ?_, fun h => absurd h (fun w => w ks)⟩
    exact ⟨[], [], don⟩
  cases ka : (pathF d x.node).any (fun y => dB (clashP d l x s y)) with
  | true =>
    have q : (!dB (confP d l x s)) = false := by
      rw [List.any_eq_true] at ka
      obtain ⟨y, hy, hc⟩ := ka
      rw [dB_yes ⟨ks, y, hy, dB_iff.1 hc⟩]; rfl
    rw [ka] at hco
    refine gr Tryz.func316 Tryz.ntmps316 trivial ?_
    refine ⟨fun h => absurd h (ks), fun h => nx ?_⟩
    refine ⟨(_, _), path7_ok d hd x.node h1, nx ?_⟩
    refine ⟨⟨true, [], _, _, _, _⟩, hco, cd ?_⟩
    exact ⟨[], [], don⟩
  | false =>
    have q : (!dB (confP d l x s)) = true := by
      rw [dB_no]
      · rfl
      · rintro ⟨_, y, hy, hc⟩
        have : (pathF d x.node).any (fun y => dB (clashP d l x s y)) = true := List.any_eq_true.2 ⟨y, hy, dB_yes hc⟩
        rw [ka] at this; cases this
    rw [ka] at hco
    refine gr Tryz.func316 Tryz.ntmps316 trivial ?_
    refine ⟨fun h => absurd h (ks), fun h => nx ?_⟩
    refine ⟨(_, _), path7_ok d hd x.node h1, nx ?_⟩
    refine ⟨⟨true, [], _, _, _, _⟩, hco, cd ?_⟩
    exact ⟨[], [], don⟩
noncomputable def confT (d : Dc) (l : List Ho) (x : Ho) : List Int := List.replicate ((sessF l).length - (confF d l x).length) 0 ++ sessT l
theorem sess_len (l : List Ho) : (sessF l).length ≤ l.length := by have := ded_len (l.map (·.session)); rw [List.length_map] at this; exact this
theorem conf_len (d : Dc) (l : List Ho) (x : Ho) : (confF d l x).length ≤ l.length := by
  have h1 := List.length_filter_le (fun s => dB (s ≠ x.session ∧ ∃ y ∈ pathF d x.node, ¬ fitP (modeF d l s y) (wantF d l x y))) (sessF l)
  have h2 := sess_len l
  unfold confF; omega
theorem conflicts_ok (d : Dc) (hd : DOK d) (l : List Ho) (hl : HoldG d l) (hr : RiseH l) (x : Ho) (h1 : (ndAt d.nodes x.node).isSome) :
    FC Tryz.prog 254 [(false, [.pv (dcL d)]), (false, [hos l]), (true, hoL x)] [(1000, some ⟨0, 1, (confF d l x ++ confT d l x).map intW⟩)] [(false, [.row 1000 0 (confF d l x).length])] := by
  have hlen := hl.len
  have hsl := sess_len l
  have hdl := dlfI3_ok (sessF l) 316 (.pv (hoL x)) (.pv [.pv (dcL d)]) (.pv [hos l]) (fun s => !dB (confP d l x s)) (by omega) (fun s hs => conflicts1_ok d hd l hl x h1 s) (sessT l)
  have hfe : (sessF l).filter (fun s => !(!dB (confP d l x s))) = confF d l x := by simp only [Bool.not_not]; rfl
  rw [hfe] at hdl
  unfold confT
  refine gr Tryz.func254 Tryz.ntmps254 (⟨cl_ints _, trivial⟩) ?_
  refine ⟨(_, _), sessionsOf_ok l (by omega) hr, nx ?_⟩
  refine ⟨⟨true, [(1, 144)], _, _, _, _⟩, hdl, cd ?_⟩
  exact ⟨[], [(1000, 144)], don⟩
theorem upto_next {P : List Int} {p : Int → Prop} {i : Nat} (hi : i < P.length) (h : ∀ j (hj : j < P.length), j < i → p P[j]) (h1 : p P[i]) : ∀ j (hj : j < P.length), j < i + 1 → p P[j] := fun j hj hji => by
  by_cases k : j < i
  · exact h j hj k
  · obtain rfl : j = i := by omega
    exact h1
theorem l07Clash_ok (d : Dc) (hd : DOK d) (l : List Ho) (hl : HoldG d l) (x : Ho) (h1 : (ndAt d.nodes x.node).isSome) (hx : Md x.mode) (s : Int) :
    FC Tryz.prog 309 [(true, dcL d), (false, [hos l]), (true, hoL x), (false, [iL s])] [] [(false, [.f (bL (dB (∃ y ∈ pathF d x.node, ¬ fitP (modeF d l s y) (wantF d l x y))))])] := by
  have hpl := path_len d x.node
  have hp := l02Path_ok d hd x.node h1
  have hon : ∀ i (hi : i < (pathF d x.node).length), _ := fun i hi => need_on (d := d) (h := x) (List.getElem_mem hi)
  generalize hP : pathF d x.node = P at hp hpl hon
  refine gr Tryz.func309 Tryz.ntmps309 trivial ?_
  refine ⟨(_, _), hp, nx ?_⟩
  (refine ⟨fun m es hs => ∃ (i : Nat), (m + i = P.length) ∧ (∀ j (hj : j < P.length), j < i → fitP (modeF d l s P[j]) (wantF d l x P[j])) ∧ es = [(10, .val false [.f (iL i)]), (9, .val false [.row 3 0 P.length]), (6, .val false [.pt 112 0 0]), (4, .val false [.pt 80 0 0]), (3, .val false [.f (iL s)]), (1, .val false [.f (hos l)])] ∧ hs = [(80, some ⟨3, 3, [(dcL d).map .f]⟩), (112, some ⟨3, 3, [(hoL x).map .f]⟩), (3, some ⟨0, 1, P.map intW⟩)], ⟨P.length, [], [(3, 256)], _, _, don, 0, don, don, rfl, rfl⟩, ?_⟩; rintro m _ _ ⟨i, hCLA0, hCLA1, rfl, rfl⟩; refine nx ?_)
  refine ⟨fun h => nx ?_, fun h => nx ?_⟩
  have hi : i < P.length := by omega
  have hwa : joinM (modeF d l x.session P[i]) (if x.node = P[i] then x.mode else intM x.mode) = wantF d l x P[i] := by rw [hon i hi]; rfl
  have hm1 : Md (wantF d l x P[i]) := want_md hl.md hx _
  have hm2 : Md (modeF d l s P[i]) := mode_md hl.md _ _
  have hfi := l07Fits_ok (wantF d l x P[i]) (modeF d l s P[i]) hm1.1 hm2.1
  have hj := l07Join_ok (modeF d l x.session P[i]) (if x.node = P[i] then x.mode else intM x.mode)
  rw [hwa] at hj
  refine ⟨i, ⟨rfl, hi⟩, nx ?_⟩
  refine ⟨intW P[i], by simp [hi], nx ?_⟩
  refine ⟨([], _), l07At_ok d hd l hl x.session P[i], nx ?_⟩
  refine ⟨i, ⟨rfl, hi⟩, nx ?_⟩
  refine ⟨intW P[i], by simp [hi], nx ?_⟩
  refine ⟨([], _), l07Need_ok x P[i], nx ?_⟩
  refine ⟨([], _), hj, nx ?_⟩
  refine ⟨i, ⟨rfl, hi⟩, nx ?_⟩
  refine ⟨intW P[i], by simp [hi], nx ?_⟩
  refine ⟨([], _), l07At_ok d hd l hl s P[i], nx ?_⟩
  by_cases k : fitP (wantF d l x P[i]) (modeF d l s P[i])
  have q := upto_next (p := fun y => fitP (modeF d l s y) (wantF d l x y)) hi hCLA1 (fit_symm.1 k)
  refine ⟨([], _), hfi.y k, nx ?_⟩
  exact ⟨m - 1, [], [], _, _, by omega, don, (i + 1), don, don, rfl, rfl⟩
  have q : dB (∃ y ∈ P, ¬ fitP (modeF d l s y) (wantF d l x y)) = true := dB_yes ⟨P[i], List.getElem_mem hi, fun w => k (fit_symm.1 w)⟩
  refine ⟨([], _), hfi.x k, nx ?_⟩
  exact ⟨[], [], don⟩
  have q : dB (∃ y ∈ P, ¬ fitP (modeF d l s y) (wantF d l x y)) = false := dB_no fun ⟨y, hy, hn⟩ => by
    obtain ⟨j, hj, rfl⟩ := List.mem_iff_getElem.1 hy
    exact hn (hCLA1 j hj (by omega))
  exact ⟨[], [], don⟩
  all_goals intro j hj hji; omega
theorem l07Conflicts_ok (d : Dc) (hd : DOK d) (l : List Ho) (hl : HoldG d l) (x : Ho) (h1 : (ndAt d.nodes x.node).isSome) (hx : Md x.mode) :
    FC Tryz.prog 244 [(true, dcL d), (false, [hos l]), (true, hoL x)] [(1000, some ⟨0, 1, (confF d l x).map intW⟩)] [(false, [.row 1000 0 (confF d l x).length])] := by
  have hlen := hl.len
  have hsl := sess_len l
  have hse := l07Sessions_ok l (by omega)
  have hfe : confF d l x = (sessF l).filter (fun s => dB (confP d l x s)) := rfl
  rw [hfe]
  generalize sessF l = S at hse hsl
  refine gr Tryz.func244 Tryz.ntmps244 (⟨cl_ints _, trivial⟩) ?_
  refine ⟨(_, _), hse, nx ?_⟩
  (refine ⟨fun m es hs => ∃ (i : Nat) (out : List Int), (m + i = S.length) ∧ (out = (S.take i).filter (fun s => dB (confP d l x s))) ∧ es = [(9, .val false [.f (iL i)]), (8, .val false [.row 3 0 S.length]), (7, .val false [.row 4 0 out.length]), (5, .val false [.pt 96 0 0]), (3, .val false [.pt 64 0 0]), (1, .val false [.f (hos l)])] ∧ hs = [(64, some ⟨3, 3, [(dcL d).map .f]⟩), (96, some ⟨3, 3, [(hoL x).map .f]⟩), (3, some ⟨0, 1, S.map intW⟩), (4, some ⟨0, 1, out.map intW⟩)], ⟨S.length, [], [(3, 208), (4, 176)], _, _, don, 0, ([]), don, don, rfl, rfl⟩, ?_⟩; rintro m _ _ ⟨i, out, hCON0, hCON1, rfl, rfl⟩; refine nx ?_)
  refine ⟨fun h => nx ?_, fun h => nx ?_⟩
  have hi : i < S.length := by omega
  have hst := filter_take (p := fun s => dB (confP d l x s)) hi
  have hcl := l07Clash_ok d hd l hl x h1 hx S[i]
  have hol : out.length ≤ i := by rw [hCON1]; exact filter_le (by omega)
  refine ⟨i, ⟨rfl, hi⟩, nx ?_⟩
  refine ⟨intW S[i], by simp [hi], nx ?_⟩
  by_cases ks : S[i] = x.session
  · rw [dB_no fun w => w.1 ks, if_neg (by simp)] at hst
    have q : out = (S.take (i + 1)).filter (fun s => dB (confP d l x s)) := by rw [hst, hCON1]
    refine ⟨fun h => absurd h (fun w => w ks), fun h => nx ?_⟩
    exact ⟨m - 1, [], [], _, _, by omega, don, (i + 1), out, don, don, rfl, rfl⟩
  by_cases kc : ∃ y ∈ pathF d x.node, ¬ fitP (modeF d l S[i] y) (wantF d l x y)
  · rw [dB_yes ⟨ks, kc⟩, if_pos rfl] at hst
    have q : out ++ [S[i]] = (S.take (i + 1)).filter (fun s => dB (confP d l x s)) := by rw [hst, hCON1]
    refine ⟨fun h => nx ?_, fun h => absurd h (fun w => w ks)⟩
    refine ⟨i, ⟨rfl, hi⟩, nx ?_⟩
    refine ⟨intW S[i], by simp [hi], nx ?_⟩
    refine ⟨([], _), hcl.y kc, nx ?_⟩
    refine ⟨i, ⟨rfl, hi⟩, nx ?_⟩
    refine ⟨intW S[i], by simp [hi], nx ?_⟩
    refine ⟨(out ++ [S[i]]).map intW, ⟨app_one intW out _, by simp; omega⟩, nx ?_⟩
    exact ⟨m - 1, [], [(4, 688)], _, _, by omega, don, (i + 1), (out ++ [S[i]]), don, don, rfl, rfl⟩
  · rw [dB_no fun w => kc w.2, if_neg (by simp)] at hst
    have q : out = (S.take (i + 1)).filter (fun s => dB (confP d l x s)) := by rw [hst, hCON1]
    refine ⟨fun h => nx ?_, fun h => absurd h (fun w => w ks)⟩
    refine ⟨i, ⟨rfl, hi⟩, nx ?_⟩
    refine ⟨intW S[i], by simp [hi], nx ?_⟩
    refine ⟨([], _), hcl.x kc, nx ?_⟩
    exact ⟨m - 1, [], [], _, _, by omega, don, (i + 1), out, don, don, rfl, rfl⟩
  have hi : S.length ≤ i := by omega
  rw [List.take_of_length_le hi] at hCON1
  rw [← hCON1]
  exact ⟨[], [(1000, 4)], don⟩
theorem rival1_ok (d : Dc) (hd : DOK d) (l : List Ho) (hl : HoldG d l) (a b : Ho) (ha : (ndAt d.nodes a.node).isSome) (hb : (ndAt d.nodes b.node).isSome) (O : List Int) (hO : O.length < 2 ^ 62) (node : Int) :
    FC Tryz.prog 321 [(false, [iL node]), (false, [.pv [ints O]]), (false, [.pv [.pv (dcL d)]]), (false, [.pv [hos l]]), (false, [.pv (hoL a)]), (false, [.pv (hoL b)])] [] [(false, [.f (bL (dB (node ∈ O ∧ ¬ fitP (wantF d l a node) (wantF d l b node))))])] := by
  have hcn := contains_ok O node hO
  have hcp := compatible_ok (wantF d l a node) (wantF d l b node)
  by_cases kO : node ∈ O
  case neg =>
    have q : dB (node ∈ O ∧ ¬ fitP (wantF d l a node) (wantF d l b node)) = false := dB_no fun w => kO w.1
    refine gr Tryz.func321 Tryz.ntmps321 trivial ?_
    refine ⟨([], _), hcn.n kO, nx ?_⟩
    exact ⟨[], [], don⟩
  by_cases k : fitP (wantF d l a node) (wantF d l b node)
  · have q : dB (node ∈ O ∧ ¬ fitP (wantF d l a node) (wantF d l b node)) = false := dB_no fun w => w.2 k
    refine gr Tryz.func321 Tryz.ntmps321 trivial ?_
    refine ⟨([], _), hcn.t kO, nx ?_⟩
    refine ⟨([], _), wanted_ok d hd l hl a ha node, nx ?_⟩
    refine ⟨([], _), wanted_ok d hd l hl b hb node, nx ?_⟩
    refine ⟨([], _), hcp.y k, nx ?_⟩
    exact ⟨[], [], don⟩
  · have q : dB (node ∈ O ∧ ¬ fitP (wantF d l a node) (wantF d l b node)) = true := dB_yes ⟨kO, k⟩
    refine gr Tryz.func321 Tryz.ntmps321 trivial ?_
    refine ⟨([], _), hcn.t kO, nx ?_⟩
    refine ⟨([], _), wanted_ok d hd l hl a ha node, nx ?_⟩
    refine ⟨([], _), wanted_ok d hd l hl b hb node, nx ?_⟩
    refine ⟨([], _), hcp.x k, nx ?_⟩
    exact ⟨[], [], don⟩
theorem rival_ok (d : Dc) (hd : DOK d) (l : List Ho) (hl : HoldG d l) (a b : Ho) (ha : (ndAt d.nodes a.node).isSome) (hb : (ndAt d.nodes b.node).isSome) :
    FC Tryz.prog 255 [(false, [.pv (dcL d)]), (false, [hos l]), (true, hoL a), (true, hoL b)] [] [(false, [.f (bL (dB (rivalP d l a b)))])] := by
  have hpa := path_len d a.node
  have hpb := path_len d b.node
  have hco := cofI5_ok (pathF d a.node) 321 (.pv [ints (pathF d b.node)]) (.pv [.pv (dcL d)]) (.pv [hos l]) (.pv (hoL a)) (.pv (hoL b)) (fun y => dB (y ∈ pathF d b.node ∧ ¬ fitP (wantF d l a y) (wantF d l b y))) (by omega) fun y hy => rival1_ok d hd l hl a b ha hb (pathF d b.node) (by omega) y
  have q : (pathF d a.node).any (fun y => dB (y ∈ pathF d b.node ∧ ¬ fitP (wantF d l a y) (wantF d l b y))) = dB (rivalP d l a b) := by
    by_cases k : rivalP d l a b
    · rw [dB_yes k, List.any_eq_true]
      obtain ⟨y, y1, y2, y3⟩ := k
      exact ⟨y, y1, dB_yes ⟨y2, y3⟩⟩
    · rw [dB_no k]
      cases e : (pathF d a.node).any (fun y => dB (y ∈ pathF d b.node ∧ ¬ fitP (wantF d l a y) (wantF d l b y))) with
      | false => rfl
      | true =>
        rw [List.any_eq_true] at e
        obtain ⟨y, y1, y2⟩ := e
        exact absurd ⟨y, y1, (dB_iff.1 y2).1, (dB_iff.1 y2).2⟩ k
  rw [q] at hco
  refine gr Tryz.func255 Tryz.ntmps255 trivial ?_
  refine ⟨(_, _), path7_ok d hd b.node hb, nx ?_⟩
  refine ⟨(_, _), path7_ok d hd a.node ha, nx ?_⟩
  refine ⟨⟨true, [], _, _, _, _⟩, hco, cd ?_⟩
  exact ⟨[], [], don⟩
theorem l08Rival_ok (d : Dc) (hd : DOK d) (t : Tb) (hl : HoldG d t.holds) (a b : Ho) (ha : (ndAt d.nodes a.node).isSome) (hb : (ndAt d.nodes b.node).isSome) (hma : Md a.mode) (hmb : Md b.mode) :
    FC Tryz.prog 245 [(true, dcL d), (true, tbL t), (true, hoL a), (true, hoL b)] [] [(false, [.f (bL (dB (rivalP d t.holds a b)))])] := by
  have hpa := path_len d a.node
  have hpb := path_len d b.node
  have pa := l02Path_ok d hd a.node ha
  have pb := l02Path_ok d hd b.node hb
  have ona : ∀ i (hi : i < (pathF d a.node).length), _ := fun i hi => need_on (d := d) (h := a) (List.getElem_mem hi)
  have onb : ∀ i (hi : i < (pathF d b.node).length), _ := fun i hi => need_on (d := d) (h := b) (List.getElem_mem hi)
  have hrc := rival_common hd (l := t.holds) ha hb
  generalize pathF d a.node = P at hpa pa ona hrc
  generalize pathF d b.node = O at hpb pb onb hrc
  have no : ∀ i : Nat, (∀ j, j < i → ∃ y, P[j]? = some y ∧ O[j]? = some y ∧ fitP (wantF d t.holds a y) (wantF d t.holds b y)) → (∀ y, ¬ (P[i]? = some y ∧ O[i]? = some y)) → dB (rivalP d t.holds a b) = false := fun i h1 h2 => dB_no fun w => by
    obtain ⟨i0, x, e1, e2, e3⟩ := hrc.1 w
    by_cases k : i0 < i
    · obtain ⟨y, y1, y2, y3⟩ := h1 i0 k
      rw [e1] at y1
      cases y1
      exact e3 y3
    · obtain ⟨y, y1, y2⟩ := e2 i (by omega)
      exact h2 y ⟨y1, y2⟩
  refine gr Tryz.func245 Tryz.ntmps245 trivial ?_
  refine ⟨(_, _), pa, nx ?_⟩
  refine ⟨(_, _), pb, nx ?_⟩
  (refine ⟨fun m es hs => ∃ (i : Nat), (m + i = P.length) ∧ (∀ j, j < i → ∃ y, P[j]? = some y ∧ O[j]? = some y ∧ fitP (wantF d t.holds a y) (wantF d t.holds b y)) ∧ es = [(11, .val false [.f (iL i)]), (10, .val false [.row 4 0 O.length]), (9, .val false [.row 3 0 P.length]), (7, .val false [.pt 128 0 0]), (6, .val false [.pt 112 0 0]), (5, .val false [.pt 96 0 0]), (4, .val false [.pt 80 0 0])] ∧ hs = [(80, some ⟨3, 3, [(dcL d).map .f]⟩), (96, some ⟨3, 2, [(tbL t).map .f]⟩), (112, some ⟨3, 3, [(hoL a).map .f]⟩), (128, some ⟨3, 3, [(hoL b).map .f]⟩), (3, some ⟨0, 1, P.map intW⟩), (4, some ⟨0, 1, O.map intW⟩)], ⟨P.length, [], [(3, 288), (4, 352)], _, _, don, 0, don, don, rfl, rfl⟩, ?_⟩; rintro m _ _ ⟨i, hRVS0, hRVS1, rfl, rfl⟩; refine nx ?_)
  refine ⟨fun h => nx ?_, fun h => nx ?_⟩
  have hi : i < P.length := by omega
  by_cases hiO : i < O.length
  case neg =>
    have q := no i hRVS1 fun y hy => absurd (hy.2.symm.trans (List.getElem?_eq_none (by omega))) (by simp)
    refine ⟨fun h => absurd h (by omega), fun h => nx ?_⟩
    exact ⟨[], [], don⟩
  refine ⟨fun h => nx ?_, fun h => absurd h (by omega)⟩
  refine ⟨i, ⟨rfl, hi⟩, nx ?_⟩
  refine ⟨intW P[i], by simp [hi], nx ?_⟩
  refine ⟨i, ⟨rfl, hiO⟩, nx ?_⟩
  refine ⟨intW O[i], by simp [hiO], nx ?_⟩
  by_cases ke : P[i] = O[i]
  case neg =>
    have q := no i hRVS1 fun y hy => by
      rw [List.getElem?_eq_getElem hi, List.getElem?_eq_getElem hiO] at hy
      exact ke ((Option.some.inj hy.1).trans (Option.some.inj hy.2).symm)
    refine ⟨fun h => absurd h (ke), fun h => nx ?_⟩
    exact ⟨[], [], don⟩
  refine ⟨fun h => nx ?_, fun h => absurd h (fun w => w ke)⟩
  have wa : joinM (modeF d t.holds a.session P[i]) (if a.node = P[i] then a.mode else intM a.mode) = wantF d t.holds a P[i] := by rw [ona i hi]; rfl
  have wb : joinM (modeF d t.holds b.session P[i]) (if b.node = P[i] then b.mode else intM b.mode) = wantF d t.holds b P[i] := by rw [ke, onb i hiO]; rfl
  have m1 : Md (wantF d t.holds a P[i]) := want_md hl.md hma _
  have m2 : Md (wantF d t.holds b P[i]) := want_md hl.md hmb _
  have hfi := l07Fits_ok (wantF d t.holds a P[i]) (wantF d t.holds b P[i]) m1.1 m2.1
  have ja := l07Join_ok (modeF d t.holds a.session P[i]) (if a.node = P[i] then a.mode else intM a.mode)
  have jb := l07Join_ok (modeF d t.holds b.session P[i]) (if b.node = P[i] then b.mode else intM b.mode)
  rw [wa] at ja
  rw [wb] at jb
  refine ⟨i, ⟨rfl, hi⟩, nx ?_⟩
  refine ⟨intW P[i], by simp [hi], nx ?_⟩
  refine ⟨([], _), l07At_ok d hd t.holds hl a.session P[i], nx ?_⟩
  refine ⟨i, ⟨rfl, hi⟩, nx ?_⟩
  refine ⟨intW P[i], by simp [hi], nx ?_⟩
  refine ⟨([], _), l07Need_ok a P[i], nx ?_⟩
  refine ⟨([], _), ja, nx ?_⟩
  refine ⟨i, ⟨rfl, hi⟩, nx ?_⟩
  refine ⟨intW P[i], by simp [hi], nx ?_⟩
  refine ⟨([], _), l07At_ok d hd t.holds hl b.session P[i], nx ?_⟩
  refine ⟨i, ⟨rfl, hi⟩, nx ?_⟩
  refine ⟨intW P[i], by simp [hi], nx ?_⟩
  refine ⟨([], _), l07Need_ok b P[i], nx ?_⟩
  refine ⟨([], _), jb, nx ?_⟩
  by_cases k : fitP (wantF d t.holds a P[i]) (wantF d t.holds b P[i])
  · have q : ∀ j, j < i + 1 → ∃ y, P[j]? = some y ∧ O[j]? = some y ∧ fitP (wantF d t.holds a y) (wantF d t.holds b y) := fun j hj => by
      by_cases kj : j < i
      · exact hRVS1 j kj
      · obtain rfl : j = i := by omega
        exact ⟨P[j], List.getElem?_eq_getElem hi, by rw [List.getElem?_eq_getElem hiO, ke], k⟩
    refine ⟨([], _), hfi.y k, nx ?_⟩
    exact ⟨m - 1, [], [], _, _, by omega, don, (i + 1), don, don, rfl, rfl⟩
  · have q : dB (rivalP d t.holds a b) = true := dB_yes (hrc.2 ⟨i, P[i], List.getElem?_eq_getElem hi, fun j hj => by
      by_cases kj : j < i
      · obtain ⟨y, y1, y2, _⟩ := hRVS1 j kj
        exact ⟨y, y1, y2⟩
      · obtain rfl : j = i := by omega
        exact ⟨P[j], List.getElem?_eq_getElem hi, by rw [List.getElem?_eq_getElem hiO, ke]⟩, k⟩)
    refine ⟨([], _), hfi.x k, nx ?_⟩
    exact ⟨[], [], don⟩
  have q := no i hRVS1 fun y hy => absurd (hy.1.symm.trans (List.getElem?_eq_none (by omega))) (by simp)
  exact ⟨[], [], don⟩
  all_goals intro j hj; omega
structure TabG (d : Dc) (t : Tb) : Prop where
  hg : HoldG d t.holds
  rise : RiseH t.holds
  wl : t.waits.length < 2 ^ 20
  wh : ∀ h ∈ t.waits, (ndAt d.nodes h.node).isSome
  wm : ∀ h ∈ t.waits, Md h.mode
noncomputable def rivL (d : Dc) (t : Tb) (w : Ho) (l : List Ho) : List Int := (l.filter fun a => dB (rivalP d t.holds a w)).map (·.session)
noncomputable def blockT (d : Dc) (t : Tb) (k : Nat) (w : Ho) : List Int := List.replicate ((confF d t.holds w ++ rivF d t k w).length - (blockF d t k w).length) 0 ++ (if rivF d t k w = [] then confT d t.holds w else [])
theorem rivL_take {d : Dc} {t : Tb} {w : Ho} {l : List Ho} {i : Nat} (hi : i < l.length) : rivL d t w (l.take (i + 1)) = if dB (rivalP d t.holds l[i] w) then rivL d t w (l.take i) ++ [l[i].session] else rivL d t w (l.take i) := by
  unfold rivL
  rw [filter_take hi]
  split
  · rw [List.map_append]; rfl
  · rfl
theorem app_oneT {α : Type} (f : α → List A) (l u : List α) (x : α) : ((l ++ u).map f).take l.length ++ [f x] = (l ++ [x] ++ []).map f := by
  rw [List.map_append, List.take_append_of_le_length (by simp), List.take_of_length_le (by simp)]; simp
theorem blockers_ok (d : Dc) (hd : DOK d) (t : Tb) (ht : TabG d t) (k : Nat) (hk : k < t.waits.length) :
    FC Tryz.prog 167 [(false, [.pv (dcL d)]), (false, [.pv (tbL t)]), (false, [iL k])] [(1000, some ⟨0, 1, (blockF d t k t.waits[k] ++ blockT d t k t.waits[k]).map intW⟩)] [(false, [.row 1000 0 (blockF d t k t.waits[k]).length])] := by
  have hwl := ht.wl
  have hcl := conf_len d t.holds t.waits[k]
  have hgl := ht.hg.len
  have hcf := conflicts_ok d hd t.holds ht.hg ht.rise t.waits[k] (ht.wh _ (List.getElem_mem _))
  have hwk := ht.wh t.waits[k] (List.getElem_mem _)
  have hrv : ∀ a ∈ t.waits.take k, _ := fun a ha => rival_ok d hd t.holds ht.hg a t.waits[k] (ht.wh a (List.mem_of_mem_take ha)) hwk
  have hbe : blockF d t k t.waits[k] = dedF (sortI (confF d t.holds t.waits[k] ++ rivL d t t.waits[k] (t.waits.take k))) := rfl
  have hbt : blockT d t k t.waits[k] = List.replicate ((confF d t.holds t.waits[k] ++ rivL d t t.waits[k] (t.waits.take k)).length - (blockF d t k t.waits[k]).length) 0 ++ (if rivL d t t.waits[k] (t.waits.take k) = [] then confT d t.holds t.waits[k] else []) := rfl
  rw [hbt]
  have hWl : (t.waits.take k).length ≤ t.waits.length := by rw [List.length_take]; omega
  obtain ⟨W, hW⟩ : ∃ W, W = t.waits.take k := ⟨_, rfl⟩
  have hWe : ((t.waits.map hoL).take k).drop 0 = W.map hoL := by rw [List.drop_zero, ← List.map_take, hW]
  have hWk : W.length = k := by rw [hW]; simp; omega
  rw [← hW] at hrv hbe hWl ⊢
  rw [hbe]
  generalize hw : t.waits[k] = w at hcf hwk hrv hcl
  refine gr Tryz.func167 Tryz.ntmps167 (⟨cl_ints _, trivial⟩) ?_
  refine ⟨(k, hoL w), ⟨rfl, by simp [hk, hw]⟩, nx ?_⟩
  refine ⟨(_, _), hcf, nx ?_⟩
  refine ⟨(0, k, W.map hoL), ⟨rfl, rfl, Nat.zero_le _, by simp; omega, hWe⟩, nx ?_⟩
  rw [show ((W.map hoL).length : Int) = W.length by rw [List.length_map]]
  (refine ⟨fun m es hs => ∃ (i : Nat) (out tl : List Int), (m + i = W.length) ∧ (out = confF d t.holds w ++ rivL d t w (W.take i)) ∧ (tl = if rivL d t w (W.take i) = [] then confT d t.holds w else []) ∧ es = [(32, .val false [.f (iL i)]), (31, .val false [.f (iL W.length)]), (30, .val false [.f (hos W)]), (8, .val false [.row 3 0 out.length]), (7, .val false [.pt 128 0 0]), (1, .val false [.f (.pv (tbL t))]), (0, .val false [.f (.pv (dcL d))])] ∧ hs = [(128, some ⟨3, 3, [(hoL w).map .f]⟩), (3, some ⟨0, 1, (out ++ tl).map intW⟩)], ⟨W.length, [], [(3, 400)], _, _, ⟨rfl, ?_, ?_⟩, 0, (confF d t.holds w), (confT d t.holds w), ?_, ?_, ?_, rfl, rfl⟩, ?_⟩; rotate_left 5; rintro m _ _ ⟨i, out, tl, hBLK0, hBLK1, hBLK2, rfl, rfl⟩; refine nx ?_)
  refine ⟨fun h => nx ?_, fun h => nx ?_⟩
  have hi : i < W.length := by omega
  have hst := rivL_take (d := d) (t := t) (w := w) hi
  have hri := hrv W[i] (List.getElem_mem _)
  have hrl : (rivL d t w (W.take i)).length ≤ i := by
    unfold rivL; rw [List.length_map]; exact filter_le (by omega)
  have hol : out.length < 2 ^ 22 := by rw [hBLK1, List.length_append]; omega
  refine ⟨(i, hoL W[i]), ⟨rfl, by simp [hi]⟩, nx ?_⟩
  by_cases kr : rivalP d t.holds W[i] w
  · rw [dB_yes kr, if_pos rfl] at hst
    have q : out ++ [W[i].session] = confF d t.holds w ++ rivL d t w (W.take (i + 1)) := by rw [hst, hBLK1, List.append_assoc]
    have q2 : ([] : List Int) = if rivL d t w (W.take (i + 1)) = [] then confT d t.holds w else [] := by rw [if_neg (by rw [hst]; simp)]
    refine ⟨([], _), hri.y kr, nx ?_⟩
    refine ⟨(out ++ [W[i].session] ++ []).map intW, ⟨app_oneT intW out tl _, by simp; omega⟩, nx ?_⟩
    (refine ⟨m - 1, [], [(3, 784)], [(32, .val false [.f (iL (i + 1))]), (31, .val false [.f (iL W.length)]), (30, .val false [.f (hos W)]), (8, .val false [.row 3 0 (out ++ [W[i].session]).length]), (7, .val false [.pt 128 0 0]), (1, .val false [.f (.pv (tbL t))]), (0, .val false [.f (.pv (dcL d))])], [(128, some ⟨3, 3, [(hoL w).map .f]⟩), (3, some ⟨0, 1, ((out ++ [W[i].session]) ++ ([])).map intW⟩)], by omega, ⟨rfl, ?_, ?_⟩, (i + 1), (out ++ [W[i].session]), ([]), ?_, ?_, ?_, rfl, rfl⟩; rotate_left 5)
    all_goals try exact don
  · rw [dB_no kr, if_neg (by simp)] at hst
    have q : out = confF d t.holds w ++ rivL d t w (W.take (i + 1)) := by rw [hst, hBLK1]
    have q2 : tl = if rivL d t w (W.take (i + 1)) = [] then confT d t.holds w else [] := by rw [hst]; exact hBLK2
    refine ⟨([], _), hri.x kr, nx ?_⟩
    (refine ⟨m - 1, [], [], [(32, .val false [.f (iL (i + 1))]), (31, .val false [.f (iL W.length)]), (30, .val false [.f (hos W)]), (8, .val false [.row 3 0 out.length]), (7, .val false [.pt 128 0 0]), (1, .val false [.f (.pv (tbL t))]), (0, .val false [.f (.pv (dcL d))])], [(128, some ⟨3, 3, [(hoL w).map .f]⟩), (3, some ⟨0, 1, (out ++ tl).map intW⟩)], by omega, ⟨rfl, ?_, ?_⟩, (i + 1), out, tl, ?_, ?_, ?_, rfl, rfl⟩; rotate_left 5)
    all_goals try exact don
  have hi : W.length ≤ i := by omega
  rw [List.take_of_length_le hi] at hBLK1 hBLK2
  have hrl : (rivL d t w W).length ≤ W.length := by unfold rivL; rw [List.length_map]; exact List.length_filter_le _ _
  have hol : out.length < 2 ^ 22 := by rw [hBLK1, List.length_append]; omega
  have hsl := sortI_len out
  have hso := sortT_ok out tl (by omega)
  have hco := compact_ok (sortI out) tl (by omega)
  rw [hsl] at hco
  rw [← hBLK1, ← hBLK2]
  (refine ⟨⟨false, [(1, 3)], _, _, _, _⟩, hso, co ?_ ?_ ?_ ?_⟩; rotate_left 3)
  (refine ⟨⟨false, [(1, 3)], _, _, _, _⟩, hco, co ?_ ?_ ?_ ?_⟩; rotate_left 3)
  (refine ⟨[], [(1000, 3)], ?_⟩; rotate_left)
  all_goals try exact don
  all_goals first | (simp [rivL]; done) | (rename_i hh; simp [rivL]; done) | simp
theorem blockS_snoc {d : Dc} {t : Tb} {w : Ho} {l : List Ho} {c : List Int} {i : Nat} (hi : i < l.length) : blockS d t w (l.take (i + 1)) c = if dB (rivalP d t.holds l[i] w) then (if l[i].session ∈ blockS d t w (l.take i) c then blockS d t w (l.take i) c else riseF (blockS d t w (l.take i) c) l[i].session) else blockS d t w (l.take i) c := by
  unfold blockS
  rw [List.take_succ_eq_append_getElem hi, List.foldl_append]; rfl
theorem blockS_len {d : Dc} {t : Tb} {w : Ho} : ∀ (l : List Ho) (c : List Int), (blockS d t w l c).length ≤ c.length + l.length
  | [], c => by simp [blockS]
  | a :: l, c => by
    unfold blockS
    rw [List.foldl_cons]
    have key : ∀ c', c'.length ≤ c.length + 1 → (List.foldl (fun out a => if dB (rivalP d t.holds a w) then (if a.session ∈ out then out else riseF out a.session) else out) c' l).length ≤ c.length + (a :: l).length := fun c' hc' => by
      have := blockS_len (d := d) (t := t) (w := w) l c'
      unfold blockS at this
      simp only [List.length_cons]; omega
    apply key
    split
    · split
      · omega
      · rw [riseF_len]; omega
    · omega
theorem l08Blockers_ok (d : Dc) (hd : DOK d) (t : Tb) (ht : TabG d t) (k : Nat) (hk : k < t.waits.length) :
    FC Tryz.prog 160 [(true, dcL d), (true, tbL t), (false, [iL k])] [(1000, some ⟨0, 1, (blockF d t k t.waits[k]).map intW⟩)] [(false, [.row 1000 0 (blockF d t k t.waits[k]).length])] := by
  have hwl := ht.wl
  have hcl := conf_len d t.holds t.waits[k]
  have hgl := ht.hg.len
  have hwk := ht.wh t.waits[k] (List.getElem_mem _)
  have hwm := ht.wm t.waits[k] (List.getElem_mem _)
  have hcf := l07Conflicts_ok d hd t.holds ht.hg t.waits[k] hwk hwm
  have hrv : ∀ a ∈ t.waits, _ := fun a ha => l08Rival_ok d hd t ht.hg t.waits[k] a hwk (ht.wh a ha) hwm (ht.wm a ha)
  have hbe := block_eq (d := d) (t := t) ht.rise k t.waits[k]
  generalize hw : t.waits[k] = w at hcf hwk hrv hcl hbe hwm
  rw [← hbe]
  refine gr Tryz.func160 Tryz.ntmps160 (⟨cl_ints _, trivial⟩) ?_
  refine ⟨(k, hoL w), ⟨rfl, by simp [hk, hw]⟩, nx ?_⟩
  refine ⟨(_, _), hcf, nx ?_⟩
  (refine ⟨fun m es hs => ∃ (i : Nat) (out : List Int), (m + i = k) ∧ (out = blockS d t w (t.waits.take i) (confF d t.holds w)) ∧ es = [(9, .val false [.f (iL i)]), (8, .val false [.row 3 0 out.length]), (7, .val false [.pt 128 0 0]), (4, .val false [.pt 80 0 0]), (3, .val false [.pt 64 0 0]), (2, .val false [.f (iL k)])] ∧ hs = [(64, some ⟨3, 3, [(dcL d).map .f]⟩), (80, some ⟨3, 2, [(tbL t).map .f]⟩), (128, some ⟨3, 3, [(hoL w).map .f]⟩), (3, some ⟨0, 1, out.map intW⟩)], ⟨k, [], [(3, 320)], _, _, don, 0, (confF d t.holds w), don, don, rfl, rfl⟩, ?_⟩; rintro m _ _ ⟨i, out, hBLS0, hBLS1, rfl, rfl⟩; refine nx ?_)
  refine ⟨fun h => nx ?_, fun h => nx ?_⟩
  have hi : i < t.waits.length := by omega
  have hst := blockS_snoc (d := d) (t := t) (w := w) (c := confF d t.holds w) hi
  have hri := hrv t.waits[i] (List.getElem_mem _)
  have hol : out.length < 2 ^ 22 := by
    have := blockS_len (d := d) (t := t) (w := w) (t.waits.take i) (confF d t.holds w)
    rw [hBLS1]; simp at this; omega
  rw [← hBLS1] at hst
  refine ⟨(i, hoL t.waits[i]), ⟨rfl, by simp [hi]⟩, nx ?_⟩
  by_cases kr : rivalP d t.holds t.waits[i] w
  case neg =>
    rw [dB_no kr, if_neg (by simp)] at hst
    have q := hst.symm
    refine ⟨([], _), hri.x fun v => kr (rival_symm.1 v), nx ?_⟩
    exact ⟨m - 1, [], [], _, _, by omega, don, (i + 1), out, don, don, rfl, rfl⟩
  rw [dB_yes kr, if_pos rfl] at hst
  refine ⟨([], _), hri.y (rival_symm.1 kr), nx ?_⟩
  refine ⟨(i, hoL t.waits[i]), ⟨rfl, by simp [hi]⟩, nx ?_⟩
  by_cases km : t.waits[i].session ∈ out
  · rw [if_pos km] at hst
    have q := hst.symm
    refine ⟨⟨true, [], _, _, _, _⟩, (l02Has_ok out t.waits[i].session (by omega)).t km, cd ?_⟩
    exact ⟨m - 1, [], [], _, _, by omega, don, (i + 1), out, don, don, rfl, rfl⟩
  · rw [if_neg km] at hst
    have q := hst.symm
    refine ⟨⟨true, [], _, _, _, _⟩, (l02Has_ok out t.waits[i].session (by omega)).n km, cd ?_⟩
    refine ⟨(i, hoL t.waits[i]), ⟨rfl, by simp [hi]⟩, nx ?_⟩
    refine ⟨⟨true, [], _, _, _, _⟩, rise_ok out t.waits[i].session (by omega), cd ?_⟩
    exact ⟨m - 1, [], [(3, 848)], _, _, by omega, don, (i + 1), (riseF out t.waits[i].session), don, don, rfl, rfl⟩
  have hi : i = k := by omega
  subst hi
  rw [← hBLS1]
  exact ⟨[], [(1000, 3)], don⟩
end Go.Proofs.YtecnmodeggnjoaaGreat.Ac
