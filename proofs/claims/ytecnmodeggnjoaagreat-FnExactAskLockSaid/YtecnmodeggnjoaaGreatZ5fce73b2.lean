/- Several of our texts, one behind the other, without what this claim does not need: AcPm, AcQ. -/
import Derived.Test.YtecnmodeggnjoaaGreatZ0c4a7ffd
import Derived.Carry
import Derived.MapKept
set_option linter.unusedVariables false
set_option linter.unusedSimpArgs false
namespace Go.Proofs.YtecnmodeggnjoaaGreat.Ac
open Go.RowKit
section
variable {P : Program} {tb : Tab} {g : Hp} {φ : Phi} {w : World} {h : Array Obj} {H : Hp}
theorem mpR_inj : ∀ {l l' : List (Int × Value)}, mpR l = mpR l' → l = l'
  | [], [], _ => rfl
  | [], _ :: _, h => by cases h
  | _ :: _, [], h => by cases h
  | x :: l, y :: l', h => by
    simp only [mpR, List.map_cons, List.cons.injEq, A.f.injEq, L.v.injEq, Value.int.injEq, true_and, and_true] at h
    obtain ⟨⟨h1, h2⟩, h3⟩ := h
    rw [Prod.ext h1 h2, mpR_inj h3]
theorem findNow_get {i : IntKind} (k : Int) : ∀ (ms : List MapEntry) (l : List (Int × Value)) (n : Nat), ms.map (fun e => (e.key, e.val)) = l.map (fun x => (Value.int .i64 x.1, x.2)) →
    ∃ r, Instr.findNow (.int .i64) (.int .i64 k) ms n = some r ∧ r.map (·.2) = mget l k ∧ ∀ y, r = some y → n ≤ y.1 ∧ (ms[y.1 - n]?).map (·.key) = some (.int .i64 k) ∧ ∀ (v : Value) key', (key' = .int .i64 k) → ((ms.modify (y.1 - n) fun e => { e with key := key', val := v }).map fun e => (e.key, e.val)) = (mput l k v).map fun x => (Value.int .i64 x.1, x.2)
  | [], [], n, _ => ⟨none, rfl, rfl, fun y hy => by cases hy⟩
  | [], _ :: _, _, h => by cases h
  | _ :: _, [], _, h => by cases h
  | m :: ms, x :: l, n, h => by
    simp only [List.map_cons, List.cons.injEq, Prod.mk.injEq] at h
    obtain ⟨⟨h1, h2⟩, h3⟩ := h
    unfold Instr.findNow
    rw [h1]
    simp only [Instr.sameNow, if_true]
    by_cases hk : x.1 = k
    · have : (k == x.1) = true := by simp [hk]
      rw [this]
      refine ⟨_, rfl, ?_, fun y hy => ?_⟩
      · simp [mget, hk, h2]
      · cases hy
        refine ⟨Nat.le_refl _, by simp [h1, hk], fun v key' hkey => ?_⟩
        simp [mput, hk, hkey, h3]
    · have : (k == x.1) = false := by simp; exact fun e => hk e.symm
      rw [this]
      obtain ⟨r, g1, g2, g3⟩ := findNow_get (i := i) k ms l (n + 1) h3
      refine ⟨r, g1, ?_, fun y hy => ?_⟩
      · simp [mget, hk, g2]
      · obtain ⟨a1, a2', a2⟩ := g3 y hy
        rw [show y.1 - n = (y.1 - (n + 1)) + 1 by omega]
        refine ⟨by omega, by simpa using a2', fun v key' hkey => ?_⟩
        simp only [List.modify_succ_cons, List.map_cons, mput, hk, if_false]
        rw [a2 v key' hkey, h1, h2]
theorem mput_none {k : Int} {v : Value} : ∀ {l : List (Int × Value)}, mget l k = none → mput l k v = l ++ [(k, v)]
  | [], _ => rfl
  | x :: l, h => by
    simp only [mget] at h
    by_cases hk : x.1 = k
    · simp [hk] at h
    · simp only [hk, if_false] at h
      simp [mput, hk, mput_none h]
theorem mput_one {k : Int} {v : Value} (hv : v.oneCell' = true) : ∀ {l : List (Int × Value)}, (∀ x ∈ l, x.2.oneCell' = true) → ∀ x ∈ mput l k v, x.2.oneCell' = true
  | [], _, x, hx => by simp [mput] at hx; rw [hx]; exact hv
  | y :: l, h, x, hx => by
    simp only [mput] at hx
    split at hx
    · rcases List.mem_cons.1 hx with rfl | hx
      · exact hv
      · exact h x (List.mem_cons_of_mem _ hx)
    · rcases List.mem_cons.1 hx with rfl | hx
      · exact h _ List.mem_cons_self
      · exact mput_one hv (fun z hz => h z (List.mem_cons_of_mem _ hz)) x hx
theorem mput_len {k : Int} {v : Value} : ∀ (l : List (Int × Value)), l.length ≤ (mput l k v).length
  | [] => Nat.zero_le _
  | x :: l => by
    simp only [mput]
    split
    · exact Nat.le_refl _
    · simpa using mput_len l
theorem mget_one {k : Int} {v : Value} : ∀ {l : List (Int × Value)}, (∀ x ∈ l, x.2.oneCell' = true) → mget l k = some v → v.oneCell' = true
  | [], _, h => by cases h
  | x :: l, hl, h => by
    simp only [mget] at h
    split at h
    · cases h; exact hl x List.mem_cons_self
    · exact mget_one (fun z hz => hl z (List.mem_cons_of_mem _ hz)) h
theorem makeMap_does (ok : HeapOK w.heap g φ) {d : Nat} {t : TypeId} (rs : List Nat) : DoesO P w g φ (do pure (.value (← Instr.makeMap t none))) rs (newO d ⟨4, 2, []⟩ fun m => .val false [.mp m]) := by
  intro k h
  unfold newO at h
  dsimp only [Out.K] at h
  split at h
  · rename_i hn
    obtain ⟨ok', t'⟩ := newG_ok (o := .map #[] 0) (cap := 0) ok hn (ob := ⟨4, 2, []⟩) fun t => ⟨(by decide : 0 < 2), fun h => absurd rfl h, fun _ => ⟨_, #[], 0, [], by rw [set_self]; rfl, by simp, rfl, rfl, fun x hx => by cases hx⟩⟩
    refine ⟨_, h, Does.made (w' := w.alloc (.map #[] 0)) (u := .map (some w.heap.size)) (φ' := φ.set (16 * (d + 1)) fun q => if q = [] then some ⟨w.heap.size, 0, 0⟩ else none) (by simp [Instr.makeMap]) ?_ ?_ ?_ rfl rfl rfl (by simp)⟩
    · rw [putH_one]; exact ok'
    · rw [putH_one]; exact t'
    · rw [putH_one]
      refine ⟨_, rfl, .mp _ _ ⟨rfl, ?_⟩⟩
      rw [put1_self]
      exact ⟨_, by rw [set_self]; rfl, rfl⟩
  · exact h.elim
theorem run_find (hT : TabOK P tb) {kt : TypeId} {zk : A} {bk : Nat} (hk : tb kt = some (.w (.int .i64) zk bk)) (k : Int) {ms : List MapEntry} {r : Option (Nat × Value)} (hf : Instr.findNow (.int .i64) (.int .i64 k) ms 0 = some r) : (Instr.findKey kt (.int .i64 k) ms).run P w = .ok r w := by
  obtain ⟨hu, _⟩ := hT.w kt _ _ _ hk
  unfold Instr.findKey
  simp [run_underlying hu, hf, Result.andThen]
theorem look_does (hT : TabOK P tb) (ok : HeapOK w.heap g φ) {t kt et : TypeId} {zm : A} {bm : Nat} {lk le : Lay} (ht : tb t = some (.w (.map kt et) zm bm)) (hk : tb kt = some lk) (he : tb et = some le)
    {x i : T} {u v : Value} (hx : RepT w.heap g φ x u) (hi : RepT w.heap g φ i v) (rs : List Nat) : DoesO P w g φ (do pure (.value (← Instr.lookup t u v false))) rs (lookO lk le x i) := by
  intro q h
  unfold lookO at h
  split at h
  · rename_i zk bk de z be n k
    obtain ⟨wd, es, hn, h⟩ := map_elim h
    obtain ⟨⟨l, vv⟩, ⟨hes, hvv⟩, h⟩ := h
    dsimp only at hes hvv h
    subst hes hvv
    obtain ⟨hd, ms, ck, l', hp, rfl, hb, hl, hm, h1⟩ := ref_map ok hn (rep_one hx)
    obtain rfl := mpR_inj hl
    have := v_rep hi
    subst this
    obtain ⟨hut, _⟩ := hT.w t _ _ _ ht
    obtain ⟨huk, _⟩ := hT.w kt _ _ _ hk
    obtain ⟨hue, _, inf, zv, he1, he2, he3, he4, he5, _⟩ := hT.w et _ _ _ he
    have hz : zv = z := by
      unfold constA at he5
      split at he5 <;> cases he5
      rfl
    subst hz
    obtain ⟨r, g1, g2, _⟩ := findNow_get (i := .i64) k ms.toList l 0 hm
    have hck : (Instr.checkKey ms.isEmpty 10000 kt (.int .i64 k)).run P w = .ok () w := MapKept.run_checkKey huk (by simp [MapKept.IsKey]) _ _
    refine ⟨_, h, Does.value ok (u := (mget l k).getD zv) ?_ ⟨_, rfl, .f _ _ (.v _ ?_)⟩⟩
    · have hf := run_find (w := w) hT hk k g1
      simp only [Instr.lookup, Sem.run_bind, run_underlying hut, MapKept.run_getObj_map hb, Sem.run_pure, Result.andThen_ok, hck, hf]
      cases r with
      | none => rw [← g2]; simp [zeroValue, typeInfo, he1, he3]
      | some y => rw [← g2]; simp
    · cases hg : mget l k with
      | none => exact he4
      | some v => exact mget_one h1 hg
  · exact h.elim
theorem mupd_does (hT : TabOK P tb) (ok : HeapOK w.heap g φ) {t kt et : TypeId} {zm : A} {bm : Nat} {lk : Lay} (ht : tb t = some (.w (.map kt et) zm bm)) (hk : tb kt = some lk)
    {x i y : T} {u v vy : Value} (hx : RepT w.heap g φ x u) (hi : RepT w.heap g φ i v) (hy : RepT w.heap g φ y vy) (rs : List Nat) : DoesO P w g φ (do Instr.mapUpdate t u v vy; pure .skip) rs (mupdO lk x i y) := by
  intro q h
  unfold mupdO at h
  split at h
  · rename_i zk bk n k y0
    obtain ⟨wd, es, hn, h⟩ := map_elim h
    obtain ⟨l, rfl, h⟩ := h
    obtain ⟨hd, ms, ck, l', hp, rfl, hb, hl, hm, h1⟩ := ref_map ok hn (rep_one hx)
    obtain rfl := mpR_inj hl
    have := v_rep hi
    subst this
    have hvy := v_rep hy
    subst hvy
    have hy1 : vy.oneCell' = true := (rep_one hy).one
    obtain ⟨hut, _⟩ := hT.w t _ _ _ ht
    obtain ⟨huk, _⟩ := hT.w kt _ _ _ hk
    obtain ⟨r, g1, g2, g3⟩ := findNow_get (i := .i64) k ms.toList l 0 hm
    have hck : (Instr.checkKey false 10000 kt (.int .i64 k)).run P w = .ok () w := MapKept.run_checkKey huk (by simp [MapKept.IsKey]) _ _
    have hf := run_find (w := w) hT hk k g1
    have fin : ∀ (ms' : Array MapEntry) (ck' : Nat), ms'.toList.map (fun e => (e.key, e.val)) = (mput l k vy).map (fun x => (Value.int .i64 x.1, x.2)) →
        (Instr.mapUpdate t (.map (some hd.b)) (.int .i64 k) vy).run P w = .ok () { w with heap := w.heap.setIfInBounds hd.b (.map ms' ck') } → ∃ ε, q ε ∧ Does P w g φ (do Instr.mapUpdate t (.map (some hd.b)) (.int .i64 k) vy; pure .skip) ε := by
      intro ms' ck' hm' hrun
      have hlt : hd.b < w.heap.size := lt_of_get hb
      obtain ⟨ok', t'⟩ := updG_ok (h' := w.heap.setIfInBounds hd.b (.map ms' ck')) (ob' := ⟨4, wd, mpR (mput l k vy)⟩) ok hn hp (fun m hm => Array.getElem?_setIfInBounds_ne (Ne.symm hm)) (o := .map ms' ck') (by simp [hlt]) rfl (by simpa [mpR] using mput_len l)
        fun t other => ⟨(ok.ob n _ hn).1, fun h => absurd rfl h, fun _ => ⟨hd, ms', ck', mput l k vy, hp, by simp [hlt], rfl, hm', mput_one hy1 h1⟩⟩
      refine ⟨_, h, Does.skip (φ' := φ) (w' := { w with heap := w.heap.setIfInBounds hd.b (.map ms' ck') }) (by simp [hrun]) ?_ ?_ rfl rfl rfl (by simp)⟩
      · rw [putH_one]; exact ok'
      · rw [putH_one]; exact t'
    cases r with
    | none =>
      refine fin (ms.push ⟨.int .i64 k, vy, ck⟩) (ck + 1) ?_ ?_
      · rw [mput_none g2.symm]; simp [hm]
      · simp only [Instr.mapUpdate, Sem.run_bind, run_underlying hut, MapKept.run_getObj_map hb, Result.andThen_ok, hck, hf, MapKept.run_setObj_map _ hb]
    | some y =>
      obtain ⟨_, g5, g4⟩ := g3 y rfl
      have hkey : (Instr.keyThatStays (((ms[y.1]?).map (·.key)).getD (.int .i64 k)) (.int .i64 k)).run P w = .ok (.int .i64 k) w := by
        have : (ms[y.1]?).map (·.key) = some (.int .i64 k) := by simpa using g5
        rw [this]
        simp [Instr.keyThatStays, Instr.sameBits]
      refine fin (ms.modify y.1 fun e => { e with key := .int .i64 k, val := vy }) ck ?_ ?_
      · have := g4 vy _ rfl
        simpa using this
      · simp only [Instr.mapUpdate, Sem.run_bind, run_underlying hut, MapKept.run_getObj_map hb, Result.andThen_ok, hck, hf, MapKept.run_setObj_map _ hb, hkey]
  · exact h.elim
end
end Go.Proofs.YtecnmodeggnjoaaGreat.Ac
set_option linter.unusedVariables false
set_option linter.unusedSimpArgs false
namespace Go.Proofs.YtecnmodeggnjoaaGreat.Ac
open Go.RowKit
section
variable {P : Program} {tb : Tab} {w₀ : World} {H₀ : Hp} {φ₀ : Phi} {N : Nat} {e : Env} {g : Hp} {φ : Phi} {a : Act} {w : World}
theorem fold_push : ∀ (l : List UInt8) (r : ByteArray), ((l.map fun b => (b.toNat : Int)).foldl (fun r n => r.push (UInt8.ofNat n.toNat)) r).data.toList = r.data.toList ++ l
  | [], r => by simp
  | b :: l, r => by
    rw [List.map_cons, List.foldl_cons, fold_push l]
    simp [ByteArray.push]
theorem bytes_does (hT : TabOK P tb) (ok : HeapOK w.heap g φ) {s t el : TypeId} {z z' : A} {bt bt' : Nat} (hs : tb s = some (.w (.slice el) z bt)) (ht : tb t = some (.w .string z' bt')) {x : T} {u : Value} (hx : RepT w.heap g φ x u) (rs : List Nat) :
    DoesO P w g φ (do pure (.value (← convert s t u))) rs (bytesO (tb el) x) := by
  obtain ⟨hu, _⟩ := hT.w s _ z bt hs
  obtain ⟨hv, _⟩ := hT.w t _ z' bt' ht
  intro k h
  unfold bytesO at h
  split at h
  · rename_i z1 b1 hel
    obtain ⟨he, _⟩ := hT.w el _ z1 b1 hel
    split at h
    · rename_i n lo hi
      obtain ⟨fl, wd, es, hn, hf4, hA⟩ := alive_elim h
      clear h
      obtain ⟨h0, hA⟩ := cond_K hA
      have := Nat.eq_of_beq_eq_true h0
      subst this
      obtain ⟨str, hstr, h⟩ := hA
      obtain ⟨m, news, ⟨ad, cap, rfl, hf⟩, hm, h1, h2, _, _, h5, _, h7⟩ := src_row (P := P) ok hn hf4 (rep_one hx)
      refine ⟨_, h, Does.value ok (u := .string str) ?_ (tS_rep _)⟩
      have hnews : news = (str.data.toList.map fun b => (b.toNat : Int)).map (Value.int .u8) := by
        rw [hstr] at hm h7
        rw [List.length_map] at hm
        apply List.ext_getElem?
        intro q
        by_cases hq : q < news.length
        · have hq2 : q < str.data.toList.length := by omega
          have := h7 q (byteL (str.data.toList[q])) 0 _ (by rw [List.getElem?_map, List.getElem?_eq_getElem hq2]; rfl) rfl
          simp only [Nat.mul_one, Nat.add_zero, cpA] at this
          have := v_rep (v := news.getD q undef) ⟨_, rfl, this⟩
          rw [List.getElem?_eq_getElem hq, List.map_map, List.getElem?_map, List.getElem?_eq_getElem hq2]
          rw [List.getD_eq_getElem?_getD, List.getElem?_eq_getElem hq] at this
          simpa using this
        · rw [List.getElem?_eq_none (by omega), List.getElem?_eq_none (by simp at hm ⊢; omega)]
      cases ad with
      | none =>
        have : m = 0 := by
          have h3 := (hf w rfl).1
          simp only [Builtin.firstCells] at h3
          have h4 : (#[] : Array Value) = news.toArray := by simpa using h3
          have : news = [] := by simpa using h4.symm
          rw [this] at h5; simp at h5; omega
        subst this
        have hn0 : news = [] := List.eq_nil_of_length_eq_zero (by omega)
        rw [hn0] at hnews
        have h9 : str.data.toList = [] := by simpa using hnews.symm
        have : str = .empty := by
          apply ByteArray.ext
          have := congrArg List.toArray h9
          simpa using this
        subst this
        simp [convert, run_underlying hu, run_underlying hv, run_underlying he, Conv.bytesToString]
      | some ad =>
        have h3 := (hf w rfl).1
        simp only [Builtin.firstCells, Nat.mul_one] at h3
        rw [hnews] at h3
        have h4 := run_bytesToString (P := P) w ad m cap _ h3
        have h5 : (str.data.toList.map fun b => (b.toNat : Int)).foldl (fun r n => r.push (UInt8.ofNat n.toNat)) ByteArray.empty = str := by
          apply ByteArray.ext
          have := fold_push str.data.toList ByteArray.empty
          apply Array.ext'
          rw [this]; rfl
        rw [h5] at h4
        simp [convert, run_underlying hu, run_underlying hv, run_underlying he, h4]
    · have r := rep_one hx
      cases r with
      | nl ad =>
        refine ⟨_, h, Does.value ok (u := .string .empty) ?_ (tS_rep _)⟩
        cases ad with
        | none => simp [convert, run_underlying hu, run_underlying hv, run_underlying he, Conv.bytesToString]
        | some ad =>
          have h4 := run_bytesToString (P := P) w ad 0 0 [] (by
            have := run_loadCells_list (P := P) w ad [] (by simp)
            simpa using this)
          simp [convert, run_underlying hu, run_underlying hv, run_underlying he, h4]
    · exact h.elim
  · exact h.elim
theorem map_one {α β : Type} {f : α → β} {l : List α} {y : β} (h : l.map f = [y]) : ∃ x, l = [x] ∧ y = f x := by
  cases l with
  | nil => cases h
  | cons x l =>
    cases l with
    | nil => cases h; exact ⟨x, rfl, rfl⟩
    | cons z l => cases h
theorem map_two {α β : Type} {f : α → β} {l : List α} {y z : β} (h : l.map f = [y, z]) : ∃ x x', l = [x, x'] ∧ y = f x ∧ z = f x' := by
  cases l with
  | nil => cases h
  | cons x l =>
    simp only [List.map_cons, List.cons.injEq] at h
    obtain ⟨x', rfl, hz⟩ := map_one h.2
    exact ⟨x, x', rfl, h.1.symm, hz⟩
theorem arr_of {α : Type} {a : Array α} {l : List α} (h : a.toList = l) : a = l.toArray := by rw [← h]
theorem bilt_does (hT : TabOK P tb) (s : Sim w₀ H₀ φ₀ N e g φ a w) {c : Call} {b : Builtin} (hb : c.callee = .builtin b) {ty : TypeId} {d : Nat} (hc : c.operands.all operOK = true) (rs : List Nat) :
    DoesO P w g φ (do let d ← resolve a.eval c ty; invoke d.target d.args) rs (biltO tb b c.argTypes.toList (c.args.toList.map (evT e)) d) := by
  obtain ⟨cal, args, argTypes⟩ := c
  dsimp only at hb ⊢
  subst hb
  intro k h
  have hop : ∀ x ∈ args.toList, operOK x = true := fun x hx => by
    simp only [Call.operands] at hc
    exact Array.all_eq_true_iff_forall_mem.1 hc x (by simpa using hx)
  generalize hts : argTypes.toList = ts at h
  generalize hxs : args.toList.map (evT e) = xs at h
  have hta := arr_of hts
  have e1 : ∀ b, (do let d ← resolve a.eval { callee := .builtin b, args := args, argTypes := argTypes } ty; invoke d.target d.args : Sem Next) = builtin b argTypes ty (args.map fun | .const _ => true | _ => false) (args.map a.eval) := fun b => rfl
  rw [e1]
  have m1 : ∀ x0, ([x0].toArray.map a.eval) = #[a.eval x0] := fun x0 => by simp
  have m2 : ∀ x0 x1, ([x0, x1].toArray.map a.eval) = #[a.eval x0, a.eval x1] := fun x0 x1 => by simp
  unfold biltO at h
  split at h
  · obtain ⟨x0, hx0, rfl⟩ := map_one hxs
    have ha := arr_of hx0
    subst ha hta
    split at h
    · rename_i l hl
      rw [m1]; exact len_does hT s.ok hl (ev_ok s (hop x0 (by simp))) ty _ rs k h
    · exact h.elim
  · obtain ⟨x0, hx0, rfl⟩ := map_one hxs
    have ha := arr_of hx0
    subst ha hta
    split at h
    · rename_i l hl
      rw [m1]; exact cap_does hT s.ok hl (ev_ok s (hop x0 (by simp))) ty _ rs k h
    · exact h.elim
  · obtain ⟨x0, x1, hx0, rfl, rfl⟩ := map_two hxs
    have ha := arr_of hx0
    subst ha hta
    split at h
    · rename_i hl1 hl2
      split at h
      · rename_i l hl
        rw [m2]; exact append_does hT s.ok hl1 hl2 hl (ev_ok s (hop x0 (by simp))) (ev_ok s (hop x1 (by simp))) ty _ rs k h
      · exact h.elim
    · rename_i hl1 hl2
      split at h
      · rename_i l hl
        rw [m2]; exact appendZ_does hT s.ok hl1 hl2 hl (ev_ok s (hop x0 (by simp))) (ev_ok s (hop x1 (by simp))) ty _ rs (fun n zv h1 h2 => src_zero h1 h2) k h
      · exact h.elim
    · exact h.elim
  · obtain ⟨x0, x1, hx0, rfl, rfl⟩ := map_two hxs
    have ha := arr_of hx0
    subst ha hta
    split at h
    · rename_i hl1
      split at h
      · rename_i l hl
        obtain ⟨hpos, h⟩ := cond_K h
        rw [m2]; exact copy_does hT s.ok hl1 hl (by simpa [Nat.blt, Nat.lt_iff_add_one_le] using hpos) (ev_ok s (hop x0 (by simp))) (ev_ok s (hop x1 (by simp))) _ (by simp) ty _ rs k h
      · exact h.elim
    · exact h.elim
  · obtain ⟨x0, hx0, rfl⟩ := map_one hxs
    have ha := arr_of hx0
    subst ha hta
    split at h
    · rename_i hl1
      split at h
      · rename_i l hl
        rw [m1]; exact clear_does hT s.ok hl1 hl (ev_ok s (hop x0 (by simp))) ty _ rs k h
      · exact h.elim
    · exact h.elim
  · obtain ⟨x0, x1, hx0, rfl, rfl⟩ := map_two hxs
    have ha := arr_of hx0
    subst ha
    rw [m2]; exact mm_does (mx := true) s.ok (ev_ok s (hop x0 (by simp))) (ev_ok s (hop x1 (by simp))) rs k h
  · obtain ⟨x0, x1, hx0, rfl, rfl⟩ := map_two hxs
    have ha := arr_of hx0
    subst ha
    rw [m2]; exact mm_does (mx := false) s.ok (ev_ok s (hop x0 (by simp))) (ev_ok s (hop x1 (by simp))) rs k h
  · exact h.elim
theorem opt_ev (s : Sim w₀ H₀ φ₀ N e g φ a w) {o : Option Operand} (hop : ∀ x, o = some x → operOK x = true) : (∀ x, o.map (evT e) = some x → ∃ u, o.map a.eval = some u ∧ RepT w.heap g φ x u) ∧ (o.map (evT e) = none → o.map a.eval = none) := by
  cases o with
  | none => exact ⟨fun x h => (by cases h), fun _ => rfl⟩
  | some y => exact ⟨fun x h => by cases h; exact ⟨_, rfl, ev_ok s (hop y rfl)⟩, fun h => by cases h⟩
theorem parts_ev (s : Sim w₀ H₀ φ₀ N e g φ a w) {ps : List (Nat × Operand)} (hop : ∀ p ∈ ps, operOK p.2 = true) : (ps.map fun p => (p.1, evT e p.2)).map (·.1) = (ps.map fun p => (p.1, a.eval p.2)).map (·.1) ∧
    ∀ (i : Nat) (x : Nat × T) (y : Nat × Value), (ps.map fun p => (p.1, evT e p.2))[i]? = some x → (ps.map fun p => (p.1, a.eval p.2))[i]? = some y → RepT w.heap g φ x.2 y.2 := by
  refine ⟨by simp, fun i x y h1 h2 => ?_⟩
  rw [List.getElem?_map] at h1 h2
  cases hp : ps[i]? with
  | none => rw [hp] at h1; cases h1
  | some p =>
    rw [hp] at h1 h2
    cases h1; cases h2
    exact ev_ok s (hop p (List.mem_of_getElem? hp))
theorem biN_does (hT : TabOK P tb) (ok : HeapOK w.heap g φ) {op : BinOp} {t : TypeId} {ox oy : Operand} {x y : T} {u v : Value} (hx : RepT w.heap g φ x u) (hy : RepT w.heap g φ y v) (rs : List Nat) :
    DoesO P w g φ (do pure (.value (← (do eqGuard op t ox oy u v; binOp op t u v)))) rs (biN op x y) := by
  intro k h
  unfold biN at h
  split at h
  · exact bi_does hT ok hx hy (fun p q hp hq => by rw [v_rep hx] at hp; cases hp) rs k h
  · exact bi_does hT ok hx hy (fun p q hp hq => by rw [v_rep hx] at hp; cases hp) rs k h
  · exact h.elim
theorem opO_does (hT : TabOK P tb) (s : Sim w₀ H₀ φ₀ N e g φ a w) {o : Oper} {d : Nat} (hc : o.op.operands.all operOK = true) (rs : List Nat) : DoesO P w g φ (execOp a.eval o) rs (opO tb o.op d (evT e)) := by
  have op : ∀ x ∈ o.op.operands, operOK x = true := fun x hx => Array.all_eq_true_iff_forall_mem.1 hc x hx
  intro k h
  unfold execOp
  generalize hop : o.op = q at h hc op ⊢
  cases q <;> first | exact h.elim | skip
  case move x => exact move_does s.ok (ev_ok s (op x (by simp [Op.operands]))) rs k h
  case assign x => exact move_does s.ok (ev_ok s (op x (by simp [Op.operands]))) rs k h
  case pick c x y => exact pick_does s.ok (ev_ok s (op c (by simp [Op.operands]))) (ev_ok s (op x (by simp [Op.operands]))) (ev_ok s (op y (by simp [Op.operands]))) rs k h
  case alloc t =>
    simp only [opO] at h
    split at h
    · rename_i heq; exact alloc_does hT s.ok heq rs k h
    · exact h.elim
  case box t x =>
    simp only [opO] at h
    split at h
    · rename_i heq; exact box_does hT s.ok heq (ev_ok s (op x (by simp [Op.operands]))) rs k h
    · exact h.elim
  case build t ps =>
    simp only [opO] at h
    split at h
    · rename_i heq
      obtain ⟨h1, h2⟩ := parts_ev s (ps := ps.toList) fun p hp => op p.2 (show p.2 ∈ (ps.toList.map (·.2)).toArray from List.mem_toArray.2 (List.mem_map.2 ⟨p, hp, rfl⟩))
      have := struct_does hT s.ok heq h1 h2 rs k h
      have e1 : (ps.toList.map fun p => (p.1, a.eval p.2)).toArray = ps.map fun p => (p.1, a.eval p.2) := by rw [← Array.toList_map]
      rw [e1] at this
      exact this
    · exact h.elim
  case buildSlice t n ps =>
    simp only [opO] at h
    split at h
    · rename_i heq
      split at h
      · rename_i hl
        obtain ⟨h1, h2⟩ := parts_ev s (ps := ps.toList) fun p hp => op p.2 (show p.2 ∈ (ps.toList.map (·.2)).toArray from List.mem_toArray.2 (List.mem_map.2 ⟨p, hp, rfl⟩))
        have := rows_does hT s.ok heq hl h1 h2 rs k h
        have e1 : (ps.toList.map fun p => (p.1, a.eval p.2)).toArray = ps.map fun p => (p.1, a.eval p.2) := by rw [← Array.toList_map]
        rw [e1] at this
        exact this
      · exact h.elim
    · exact h.elim
  case load t x =>
    simp only [opO] at h
    split at h
    · rename_i heq; exact load_does hT s.ok heq (ev_ok s (op x (by simp [Op.operands]))) rs k h
    · exact h.elim
  case store t x y =>
    simp only [opO] at h
    split at h
    · rename_i heq; exact store_does hT s.ok heq (ev_ok s (op x (by simp [Op.operands]))) (ev_ok s (op y (by simp [Op.operands]))) rs k h
    · exact h.elim
  case nilCheck x =>
    have r := ev_ok s (op x (by simp [Op.operands]))
    simp only [opO, nilO] at h
    split at h
    · rename_i y heq
      rw [heq] at r
      have r2 := rep_one r
      obtain ⟨b, p, hu⟩ : ∃ b p, a.eval x = .pointer (some ⟨b, p, none⟩) := by
        generalize a.eval x = u at r2
        cases r2 with
        | f _ _ r2 => cases r2; exact ⟨_, _, rfl⟩
      exact ⟨_, h, Does.value s.ok (u := a.eval x) (by simp only [hu]; rfl) r⟩
    · rename_i n i off heq
      rw [heq] at r
      obtain ⟨fl, wd, es, hn, hf4, h⟩ := alive_elim h
      obtain ⟨b, p, hu, _⟩ := pt_add (o := 0) s.ok hn hf4 (rep_one r)
      exact ⟨_, h, Does.value s.ok (u := a.eval x) (by simp only [hu]; rfl) r⟩
    · rename_i heq
      rw [heq] at r
      have r2 := rep_one r
      obtain ⟨f, cap, hu⟩ : ∃ f cap, a.eval x = .func (.func f) #[] cap := by
        generalize a.eval x = u at r2
        cases r2 with
        | f _ _ r2 => cases r2; exact ⟨_, _, rfl⟩
      exact ⟨_, h, Does.value s.ok (u := a.eval x) (by simp only [hu]; rfl) r⟩
    · rename_i heq
      rw [heq] at r
      have r2 := rep_one r
      obtain ⟨f, cap, hu⟩ : ∃ f cap, a.eval x = .func (.func f) #[] cap := by
        generalize a.eval x = u at r2
        cases r2; exact ⟨_, _, rfl⟩
      exact ⟨_, h, Does.value s.ok (u := a.eval x) (by simp only [hu]; rfl) r⟩
    · exact h.elim
  case fieldAddr t x f =>
    simp only [opO] at h
    split at h
    · rename_i hl
      split at h
      · rename_i hf; exact addr_does hT s.ok hl hf (ev_ok s (op x (by simp [Op.operands]))) rs k h
      · exact h.elim
    · exact h.elim
  case field t x f =>
    simp only [opO] at h
    split at h
    · rename_i hl
      split at h
      · rename_i hf; exact field_does hT s.ok hl hf (ev_ok s (op x (by simp [Op.operands]))) rs k h
      · exact h.elim
    · exact h.elim
  case indexAddr t x i =>
    simp only [opO] at h
    split at h
    · rename_i ht
      split at h
      · rename_i hl; exact idx_does hT s.ok ht hl (ev_ok s (op x (by simp [Op.operands]))) (ev_ok s (op i (by simp [Op.operands]))) rs k h
      · exact h.elim
    · exact h.elim
  case index t x i =>
    simp only [opO] at h
    split at h
    · rename_i ht; exact chr_does hT s.ok ht (ev_ok s (op x (by simp [Op.operands]))) (ev_ok s (op i (by simp [Op.operands]))) rs k h
    · exact h.elim
  case binOp op' t x y yt =>
    have rx := ev_ok s (op x (by simp [Op.operands]))
    have ry := ev_ok s (op y (by simp [Op.operands]))
    simp only [opO] at h
    split at h
    · rename_i heq; exact eq_does hT s.ok heq rx ry rs k h
    · exact h.elim
    · rename_i elm z b heq
      obtain ⟨hu, _⟩ := hT.w t _ _ _ heq
      exact bi_does hT s.ok rx ry (fun _ _ _ _ => ⟨elm, hu⟩) rs k h
    · rename_i elm z b heq
      obtain ⟨hu, _⟩ := hT.w t _ _ _ heq
      split at h
      · exact nilS_does s.ok hu rx rs k h
      · exact h.elim
    · rename_i hne1 hne2 hne3 hne4
      exact biN_does hT s.ok rx ry rs k h
  case unOp u t x => exact un_does s.ok (ev_ok s (op x (by simp [Op.operands]))) rs k h
  case extract x i => exact extr_does s.ok (ev_ok s (op x (by simp [Op.operands]))) rs k h
  case convert s' t x =>
    have rx := ev_ok s (op x (by simp [Op.operands]))
    simp only [opO] at h
    split at h
    · rename_i h1 h2; exact bytes_does hT s.ok h1 h2 rx rs k h
    · rename_i _ h1 h2; exact conv_does hT s.ok h1 h2 rx rs k h
    · exact h.elim
  case makeFunc f fst cs =>
    cases f <;> first | exact h.elim | skip
    simp only [opO] at h
    obtain ⟨h0, h⟩ := cond_K h
    have hz : fst = #[] := by have := Nat.eq_of_beq_eq_true h0; exact Array.eq_empty_of_size_eq_zero this
    subst hz
    have := func_does (P := P) s.ok (us := cs.toList.map a.eval) (fun i x hi => by
      rw [List.getElem?_map] at hi
      cases hq : cs.toList[i]? with
      | none => rw [hq] at hi; cases hi
      | some y =>
        rw [hq] at hi
        cases hi
        exact ⟨a.eval y, by rw [List.getElem?_map, hq]; rfl, ev_ok s (op y (show y ∈ (#[] ++ cs : Array Operand) by have := List.mem_of_getElem? hq; simpa using this))⟩) (by simp) rs k h
    have e1 : (cs.toList.map a.eval).toArray = cs.map a.eval := by rw [← Array.toList_map]
    have e2 : (#[] : Array Operand).map a.eval = #[] := by simp
    rw [e1] at this
    rw [← e2] at this
    exact this
  case makeMap t r =>
    simp only [opO] at h
    cases r with
    | none => exact makeMap_does s.ok rs k h
    | some r => exact h.elim
  case lookup t x i ok =>
    simp only [opO] at h
    split at h
    · rename_i ht
      split at h
      · rename_i hk he; exact look_does hT s.ok ht hk he (ev_ok s (op x (by simp [Op.operands]))) (ev_ok s (op i (by simp [Op.operands]))) rs k h
      · exact h.elim
    · exact h.elim
  case mapUpdate t x i y =>
    simp only [opO] at h
    split at h
    · rename_i ht
      split at h
      · rename_i hk; exact mupd_does hT s.ok ht hk (ev_ok s (op x (by simp [Op.operands]))) (ev_ok s (op i (by simp [Op.operands]))) (ev_ok s (op y (by simp [Op.operands]))) rs k h
      · exact h.elim
    · exact h.elim
  case makeSlice t x y =>
    simp only [opO] at h
    split at h
    · rename_i ht
      split at h
      · rename_i hl; exact makeSlice_does hT s.ok ht hl (ev_ok s (op x (by simp [Op.operands]))) (ev_ok s (op y (by simp [Op.operands]))) rs k h
      · exact h.elim
    · exact h.elim
  case slice t x lo hi mx =>
    simp only [opO] at h
    split at h
    · rename_i l hl
      obtain ⟨a1, a2⟩ := opt_ev s (o := lo) fun y hy => op y (by simp [Op.operands, hy])
      obtain ⟨b1, b2⟩ := opt_ev s (o := hi) fun y hy => op y (by simp [Op.operands, hy])
      obtain ⟨c1, c2⟩ := opt_ev s (o := mx) fun y hy => op y (by simp [Op.operands, hy])
      exact slice_does hT s.ok hl (ev_ok s (op x (by simp [Op.operands]))) a1 a2 b1 b2 c1 c2 rs (fun el z bt h => by subst h; rfl) k h
    · exact h.elim
  case call c =>
    simp only [opO] at h
    split at h
    · rename_i b hb; exact bilt_does hT s hb hc rs k h
    · exact h.elim
end
end Go.Proofs.YtecnmodeggnjoaaGreat.Ac
