/- Several of our texts, one behind the other, without what this claim does not need: Tr. -/
import Derived.Test.YtchfpgpboifbeaaGreatZ54989d6e
set_option linter.unusedVariables false
set_option linter.unusedSimpArgs false
namespace Go.Proofs.YtchfpgpboifbeaaGreat.Ac
def NodeOK (next : Int) (x : Nd) : Prop := (1 ≤ x.id ∧ x.id ≤ next - 1) ∧ (1 ≤ x.kind ∧ x.kind ≤ 8) ∧ (0 ≤ x.attr ∧ x.attr ≤ 99) ∧ x.text.size ≤ 20 ∧ x.kids.length ≤ 12
def StepOK (next : Int) (l : List Nd) (i : Nat) (h : i < l.length) : Prop := NodeOK next l[i] ∧ ∀ j (hj : j + 1 = i), l[j].id < l[i].id
def kidsAll (l : List Nd) : List Int := l.flatMap (·.kids)
def SetOK (root : Int) (l : List Nd) (ks : List Int) : Prop := ks.Nodup ∧ ∀ k ∈ ks, k ≠ root ∧ (ndAt l k).isSome
def DOK (d : Dc) : Prop :=
  (1 ≤ d.nodes.length ∧ d.nodes.length ≤ 40) ∧ (2 ≤ d.next ∧ d.next ≤ 999999) ∧ (∀ i (h : i < d.nodes.length), StepOK d.next d.nodes i h) ∧ SetOK d.root d.nodes (kidsAll d.nodes) ∧
    ((ndAt d.nodes d.root).isSome ∧ (kidsAll d.nodes).length + 1 = d.nodes.length ∧ depthF d.nodes 7 d.root ≤ 6) ∧ (orderF d.nodes 6 d.root).length = d.nodes.length
noncomputable def dokB (d : Dc) : Bool := @decide (DOK d) (Classical.propDecidable _)
theorem dokB_iff {d : Dc} : dokB d = true ↔ DOK d := by unfold dokB; exact @decide_eq_true_iff _ (Classical.propDecidable _)
theorem dokB_yes {d : Dc} (h : DOK d) : dokB d = true := dokB_iff.2 h
theorem dokB_no {d : Dc} (h : ¬ DOK d) : dokB d = false := by
  cases e : dokB d with
  | false => rfl
  | true => exact absurd (dokB_iff.1 e) h
def Dc64 (d : Dc) : Prop := I64 d.root ∧ ∀ n ∈ d.nodes, ∀ k ∈ n.kids, I64 k
theorem prev_lt {l : List Nd} {t j : Nat} (hj : j + 1 = t) (ht : t < l.length) (h1 : t - 1 < l.length) (h : ¬ l[t - 1].id ≥ l[t].id) : l[j].id < l[t].id := by
  subst hj
  simpa using Int.not_le.1 h
theorem rise_of {next : Int} {l : List Nd} (hn : next ≤ 999999) (h : ∀ i (h : i < l.length), StepOK next l i h) : Rise l := by
  refine ⟨fun n hm => ?_, List.pairwise_iff_getElem.2 fun i j hi hj hij => ?_⟩
  · obtain ⟨i, hi, rfl⟩ := List.mem_iff_getElem.1 hm
    have := (h i hi).1.1; omega
  · induction j with
    | zero => omega
    | succ j ih =>
      have h1 := (h (j + 1) hj).2 j rfl
      by_cases q : i = j
      · subst q; exact h1
      · exact Int.lt_trans (ih (by omega) (by omega)) h1
def kidsTo (l : List Nd) (j : Nat) : List Int := (l.take j).flatMap (·.kids)
theorem kidsTo_all (l : List Nd) : kidsTo l l.length = kidsAll l := by unfold kidsTo kidsAll; rw [List.take_length]
theorem kidsTo_step {l : List Nd} {j : Nat} (h : j < l.length) : kidsTo l (j + 1) = kidsTo l j ++ l[j].kids := by
  unfold kidsTo
  rw [List.take_succ_eq_append_getElem h, List.flatMap_append]; simp
theorem kids_split {l : List Nd} {j i : Nat} (h : j < l.length) (hi : i < l[j].kids.length) : ∃ rest, kidsAll l = (kidsTo l j ++ l[j].kids.take i) ++ l[j].kids[i] :: rest := by
  refine ⟨l[j].kids.drop (i + 1) ++ (l.drop (j + 1)).flatMap (·.kids), ?_⟩
  have e1 : kidsAll l = kidsTo l (j + 1) ++ (l.drop (j + 1)).flatMap (·.kids) := by
    unfold kidsTo kidsAll
    rw [← List.flatMap_append, List.take_append_drop]
  rw [e1, kidsTo_step h, List.append_assoc, List.append_assoc, ← List.cons_append, ← List.drop_eq_getElem_cons hi, ← List.append_assoc (List.take i _), List.take_append_drop]
theorem set_bad {root : Int} {l : List Nd} {acc rest : List Int} {k : Int} (h : SetOK root l (acc ++ k :: rest)) : k ∉ acc ∧ k ≠ root ∧ (ndAt l k).isSome := by
  refine ⟨fun hk => ?_, h.2 k (by simp)⟩
  have := (List.nodup_append.1 h.1).2.2 k hk k (by simp)
  exact this rfl
theorem set_step {root : Int} {l : List Nd} {acc : List Int} {k : Int} (h : SetOK root l acc) (h1 : k ∉ acc) (h2 : k ≠ root) (h3 : (ndAt l k).isSome) : SetOK root l (acc ++ [k]) := by
  refine ⟨List.nodup_append.2 ⟨h.1, by simp, fun a ha b hb => ?_⟩, fun x hx => ?_⟩
  · obtain rfl : b = k := by simpa using hb
    exact fun e => h1 (e ▸ ha)
  · rcases List.mem_append.1 hx with hx | hx
    · exact h.2 x hx
    · obtain rfl : x = k := by simpa using hx
      exact ⟨h2, h3⟩
def setM (acc : List Int) : List (Int × Value) := acc.map fun k => (k, .bool true)
theorem setM_get (acc : List Int) (k : Int) : (mget (setM acc) k).getD (.bool false) = .bool (decide (k ∈ acc)) := by
  induction acc with
  | nil => rfl
  | cons a acc ih =>
    simp only [setM, List.map_cons, mget]
    by_cases h : a = k
    · simp [h]
    · rw [if_neg h]
      have h' : ¬ k = a := fun e => h e.symm
      simpa [setM, h'] using ih
theorem setM_put {acc : List Int} {k : Int} (h : k ∉ acc) : mput (setM acc) k (.bool true) = setM (acc ++ [k]) := by
  induction acc with
  | nil => rfl
  | cons a acc ih =>
    simp only [List.mem_cons, not_or] at h
    have h' : ¬ a = k := fun e => h.1 e.symm
    simp only [setM, List.map_cons, mput, if_neg h', List.cons_append]
    rw [show acc.map (fun k => (k, Value.bool true)) = setM acc from rfl, ih h.2]; rfl
theorem depthF_fits {l : List Nd} (hk : Kids l) : ∀ (k : Nat) (id : Int), (ndAt l id).isSome → depthF l (k + 1) id ≤ k → Fits l k id
  | 0, id, h, hd => by simp [depthF] at hd
  | k + 1, id, h, hd => by
    obtain ⟨n, hn⟩ := Option.isSome_iff_exists.1 h
    refine ⟨n, hn, fun c hc => depthF_fits hk k c (Option.isSome_iff_exists.2 (hk n (ndAt_mem hn).1 c hc)) ?_⟩
    have he : depthF l (k + 1 + 1) id = n.kids.foldl (fun m c => max m (depthF l (k + 1) c)) 0 + 1 := by simp only [depthF, kidsAt, hn, Option.map_some, Option.getD_some]
    have key : ∀ (ks : List Int) (m : Nat), c ∈ ks ∨ depthF l (k + 1) c ≤ m → depthF l (k + 1) c ≤ ks.foldl (fun m c => max m (depthF l (k + 1) c)) m := by
      intro ks
      induction ks with
      | nil => intro m h; rcases h with h | h
               · cases h
               · exact h
      | cons a ks ih =>
        intro m h
        refine ih _ ?_
        rcases h with h | h
        · rcases List.mem_cons.1 h with rfl | h
          · exact .inr (Nat.le_max_right _ _)
          · exact .inl h
        · exact .inr (Nat.le_trans h (Nat.le_max_left _ _))
    have := key n.kids 0 (.inl hc)
    omega
theorem flat_len {f : Int → List Int} {b : Nat} : ∀ (ks : List Int), (∀ k ∈ ks, (f k).length ≤ b) → (ks.flatMap f).length ≤ ks.length * b
  | [], _ => by simp
  | k :: ks, h => by
    have h1 := h k (by simp)
    have h2 := flat_len ks fun c hc => h c (by simp [hc])
    rw [List.flatMap_cons, List.length_append, List.length_cons, Nat.succ_mul]
    omega
theorem orderF_len {l : List Nd} (hk : ∀ n ∈ l, n.kids.length ≤ 12) : ∀ (k : Nat) (id : Int), (orderF l k id).length ≤ 13 ^ k
  | 0, _ => by simp [orderF]
  | k + 1, id => by
    have h0 : (kidsAt l id).length ≤ 12 := by
      unfold kidsAt
      cases hn : ndAt l id with
      | none => simp
      | some n => exact hk n (ndAt_mem hn).1
    have h1 := flat_len (f := orderF l k) (b := 13 ^ k) (kidsAt l id) fun c _ => orderF_len hk k c
    have h2 : (kidsAt l id).length * 13 ^ k ≤ 12 * 13 ^ k := Nat.mul_le_mul_right _ h0
    have h3 : 1 ≤ 13 ^ k := Nat.one_le_pow _ _ (by omega)
    simp only [orderF, List.length_cons]
    rw [Nat.pow_succ]
    omega
theorem DOK.rise {d : Dc} (h : DOK d) : Rise d.nodes := rise_of h.2.1.2 h.2.2.1
theorem DOK.kids {d : Dc} (h : DOK d) : Kids d.nodes := fun n hn c hc => Option.isSome_iff_exists.1 (h.2.2.2.1.2 c (List.mem_flatMap.2 ⟨n, hn, hc⟩)).2
end Go.Proofs.YtchfpgpboifbeaaGreat.Ac
