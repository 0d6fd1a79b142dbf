/- Several of our texts, one behind the other, without what this claim does not need: AcPm, AcQ, AcR. -/
import Derived.Test.YtchfpgpboifbeaaGreatZ8ea52e25
import Derived.Carry
import Derived.MapKept
set_option linter.unusedVariables false
set_option linter.unusedSimpArgs false
namespace Go.Proofs.YtchfpgpboifbeaaGreat.Ac
open Go.RowKit
section
variable {P : Program} {tb : Tab} {g : Hp} {φ : Phi} {w : World} {h : Array Obj} {H : Hp}
theorem mpR_inj : ∀ {l l' : List (Int × Value)}, mpR l = mpR l' → l = l'
  | [], [], _ => rfl
  | [], _ :: _, h => by cases h
  | _ :: _, [], h => by cases h
  | x :: l, y :: l', h => by
    simp only [mpR, List.map_cons, List.cons.injEq, A.f.injEq, L.v.injEq, Value.int.injEq, true_and, and_true] at h
    obtain ⟨⟨h1, h2⟩, h3⟩ := h
    rw [Prod.ext h1 h2, mpR_inj h3]
theorem findNow_get {i : IntKind} (k : Int) : ∀ (ms : List MapEntry) (l : List (Int × Value)) (n : Nat), ms.map (fun e => (e.key, e.val)) = l.map (fun x => (Value.int .i64 x.1, x.2)) →
    ∃ r, Instr.findNow (.int .i64) (.int .i64 k) ms n = some r ∧ r.map (·.2) = mget l k ∧ ∀ y, r = some y → n ≤ y.1 ∧ (ms[y.1 - n]?).map (·.key) = some (.int .i64 k) ∧ ∀ (v : Value) key', (key' = .int .i64 k) → ((ms.modify (y.1 - n) fun e => { e with key := key', val := v }).map fun e => (e.key, e.val)) = (mput l k v).map fun x => (Value.int .i64 x.1, x.2)
  | [], [], n, _ => ⟨none, rfl, rfl, fun y hy => by cases hy⟩
  | [], _ :: _, _, h => by cases h
  | _ :: _, [], _, h => by cases h
  | m :: ms, x :: l, n, h => by
    simp only [List.map_cons, List.cons.injEq, Prod.mk.injEq] at h
    obtain ⟨⟨h1, h2⟩, h3⟩ := h
    unfold Instr.findNow
    rw [h1]
    simp only [Instr.sameNow, if_true]
    by_cases hk : x.1 = k
    · have : (k == x.1) = true := by simp [hk]
      rw [this]
      refine ⟨_, rfl, ?_, fun y hy => ?_⟩
      · simp [mget, hk, h2]
      · cases hy
        refine ⟨Nat.le_refl _, by simp [h1, hk], fun v key' hkey => ?_⟩
        simp [mput, hk, hkey, h3]
    · have : (k == x.1) = false := by simp; exact fun e => hk e.symm
      rw [this]
      obtain ⟨r, g1, g2, g3⟩ := findNow_get (i := i) k ms l (n + 1) h3
      refine ⟨r, g1, ?_, fun y hy => ?_⟩
      · simp [mget, hk, g2]
      · obtain ⟨a1, a2', a2⟩ := g3 y hy
        rw [show y.1 - n = (y.1 - (n + 1)) + 1 by omega]
        refine ⟨by omega, by simpa using a2', fun v key' hkey => ?_⟩
        simp only [List.modify_succ_cons, List.map_cons, mput, hk, if_false]
        rw [a2 v key' hkey, h1, h2]
theorem mput_none {k : Int} {v : Value} : ∀ {l : List (Int × Value)}, mget l k = none → mput l k v = l ++ [(k, v)]
  | [], _ => rfl
  | x :: l, h => by
    simp only [mget] at h
    by_cases hk : x.1 = k
    · simp [hk] at h
    · simp only [hk, if_false] at h
      simp [mput, hk, mput_none h]
theorem mput_one {k : Int} {v : Value} (hv : v.oneCell' = true) : ∀ {l : List (Int × Value)}, (∀ x ∈ l, x.2.oneCell' = true) → ∀ x ∈ mput l k v, x.2.oneCell' = true
  | [], _, x, hx => by simp [mput] at hx; rw [hx]; exact hv
  | y :: l, h, x, hx => by
    simp only [mput] at hx
    split at hx
    · rcases List.mem_cons.1 hx with rfl | hx
      · exact hv
      · exact h x (List.mem_cons_of_mem _ hx)
    · rcases List.mem_cons.1 hx with rfl | hx
      · exact h _ List.mem_cons_self
      · exact mput_one hv (fun z hz => h z (List.mem_cons_of_mem _ hz)) x hx
theorem mput_len {k : Int} {v : Value} : ∀ (l : List (Int × Value)), l.length ≤ (mput l k v).length
  | [] => Nat.zero_le _
  | x :: l => by
    simp only [mput]
    split
    · exact Nat.le_refl _
    · simpa using mput_len l
theorem mget_one {k : Int} {v : Value} : ∀ {l : List (Int × Value)}, (∀ x ∈ l, x.2.oneCell' = true) → mget l k = some v → v.oneCell' = true
  | [], _, h => by cases h
  | x :: l, hl, h => by
    simp only [mget] at h
    split at h
    · cases h; exact hl x List.mem_cons_self
    · exact mget_one (fun z hz => hl z (List.mem_cons_of_mem _ hz)) h
theorem makeMap_does (ok : HeapOK w.heap g φ) {d : Nat} {t : TypeId} (rs : List Nat) : DoesO P w g φ (do pure (.value (← Instr.makeMap t none))) rs (newO d ⟨4, 2, []⟩ fun m => .val false [.mp m]) := by
  intro k h
  unfold newO at h
  dsimp only [Out.K] at h
  split at h
  · rename_i hn
    obtain ⟨ok', t'⟩ := newG_ok (o := .map #[] 0) (cap := 0) ok hn (ob := ⟨4, 2, []⟩) fun t => ⟨(by decide : 0 < 2), fun h => absurd rfl h, fun _ => ⟨_, #[], 0, [], by rw [set_self]; rfl, by simp, rfl, rfl, fun x hx => by cases hx⟩⟩
    refine ⟨_, h, Does.made (w' := w.alloc (.map #[] 0)) (u := .map (some w.heap.size)) (φ' := φ.set (16 * (d + 1)) fun q => if q = [] then some ⟨w.heap.size, 0, 0⟩ else none) (by simp [Instr.makeMap]) ?_ ?_ ?_ rfl rfl rfl (by simp)⟩
    · rw [putH_one]; exact ok'
    · rw [putH_one]; exact t'
    · rw [putH_one]
      refine ⟨_, rfl, .mp _ _ ⟨rfl, ?_⟩⟩
      rw [put1_self]
      exact ⟨_, by rw [set_self]; rfl, rfl⟩
  · exact h.elim
theorem run_find (hT : TabOK P tb) {kt : TypeId} {zk : A} {bk : Nat} (hk : tb kt = some (.w (.int .i64) zk bk)) (k : Int) {ms : List MapEntry} {r : Option (Nat × Value)} (hf : Instr.findNow (.int .i64) (.int .i64 k) ms 0 = some r) : (Instr.findKey kt (.int .i64 k) ms).run P w = .ok r w := by
  obtain ⟨hu, _⟩ := hT.w kt _ _ _ hk
  unfold Instr.findKey
  simp [run_underlying hu, hf, Result.andThen]
theorem look_does (hT : TabOK P tb) (ok : HeapOK w.heap g φ) {t kt et : TypeId} {zm : A} {bm : Nat} {lk le : Lay} (ht : tb t = some (.w (.map kt et) zm bm)) (hk : tb kt = some lk) (he : tb et = some le)
    {x i : T} {u v : Value} (hx : RepT w.heap g φ x u) (hi : RepT w.heap g φ i v) (rs : List Nat) : DoesO P w g φ (do pure (.value (← Instr.lookup t u v false))) rs (lookO lk le x i) := by
  intro q h
  unfold lookO at h
  split at h
  · rename_i zk bk de z be n k
    obtain ⟨wd, es, hn, h⟩ := map_elim h
    obtain ⟨⟨l, vv⟩, ⟨hes, hvv⟩, h⟩ := h
    dsimp only at hes hvv h
    subst hes hvv
    obtain ⟨hd, ms, ck, l', hp, rfl, hb, hl, hm, h1⟩ := ref_map ok hn (rep_one hx)
    obtain rfl := mpR_inj hl
    have := v_rep hi
    subst this
    obtain ⟨hut, _⟩ := hT.w t _ _ _ ht
    obtain ⟨huk, _⟩ := hT.w kt _ _ _ hk
    obtain ⟨hue, _, inf, zv, he1, he2, he3, he4, he5, _⟩ := hT.w et _ _ _ he
    have hz : zv = z := by
      unfold constA at he5
      split at he5 <;> cases he5
      rfl
    subst hz
    obtain ⟨r, g1, g2, _⟩ := findNow_get (i := .i64) k ms.toList l 0 hm
    have hck : (Instr.checkKey ms.isEmpty 10000 kt (.int .i64 k)).run P w = .ok () w := MapKept.run_checkKey huk (by simp [MapKept.IsKey]) _ _
    refine ⟨_, h, Does.value ok (u := (mget l k).getD zv) ?_ ⟨_, rfl, .f _ _ (.v _ ?_)⟩⟩
    · have hf := run_find (w := w) hT hk k g1
      simp only [Instr.lookup, Sem.run_bind, run_underlying hut, MapKept.run_getObj_map hb, Sem.run_pure, Result.andThen_ok, hck, hf]
      cases r with
      | none => rw [← g2]; simp [zeroValue, typeInfo, he1, he3]
      | some y => rw [← g2]; simp
    · cases hg : mget l k with
      | none => exact he4
      | some v => exact mget_one h1 hg
  · exact h.elim
theorem mupd_does (hT : TabOK P tb) (ok : HeapOK w.heap g φ) {t kt et : TypeId} {zm : A} {bm : Nat} {lk : Lay} (ht : tb t = some (.w (.map kt et) zm bm)) (hk : tb kt = some lk)
    {x i y : T} {u v vy : Value} (hx : RepT w.heap g φ x u) (hi : RepT w.heap g φ i v) (hy : RepT w.heap g φ y vy) (rs : List Nat) : DoesO P w g φ (do Instr.mapUpdate t u v vy; pure .skip) rs (mupdO lk x i y) := by
  intro q h
  unfold mupdO at h
  split at h
  · rename_i zk bk n k y0
    obtain ⟨wd, es, hn, h⟩ := map_elim h
    obtain ⟨l, rfl, h⟩ := h
    obtain ⟨hd, ms, ck, l', hp, rfl, hb, hl, hm, h1⟩ := ref_map ok hn (rep_one hx)
    obtain rfl := mpR_inj hl
    have := v_rep hi
    subst this
    have hvy := v_rep hy
    subst hvy
    have hy1 : vy.oneCell' = true := (rep_one hy).one
    obtain ⟨hut, _⟩ := hT.w t _ _ _ ht
    obtain ⟨huk, _⟩ := hT.w kt _ _ _ hk
    obtain ⟨r, g1, g2, g3⟩ := findNow_get (i := .i64) k ms.toList l 0 hm
    have hck : (Instr.checkKey false 10000 kt (.int .i64 k)).run P w = .ok () w := MapKept.run_checkKey huk (by simp [MapKept.IsKey]) _ _
    have hf := run_find (w := w) hT hk k g1
    have fin : ∀ (ms' : Array MapEntry) (ck' : Nat), ms'.toList.map (fun e => (e.key, e.val)) = (mput l k vy).map (fun x => (Value.int .i64 x.1, x.2)) →
        (Instr.mapUpdate t (.map (some hd.b)) (.int .i64 k) vy).run P w = .ok () { w with heap := w.heap.setIfInBounds hd.b (.map ms' ck') } → ∃ ε, q ε ∧ Does P w g φ (do Instr.mapUpdate t (.map (some hd.b)) (.int .i64 k) vy; pure .skip) ε := by
      intro ms' ck' hm' hrun
      have hlt : hd.b < w.heap.size := lt_of_get hb
      obtain ⟨ok', t'⟩ := updG_ok (h' := w.heap.setIfInBounds hd.b (.map ms' ck')) (ob' := ⟨4, wd, mpR (mput l k vy)⟩) ok hn hp (fun m hm => Array.getElem?_setIfInBounds_ne (Ne.symm hm)) (o := .map ms' ck') (by simp [hlt]) rfl (by simpa [mpR] using mput_len l)
        fun t other => ⟨(ok.ob n _ hn).1, fun h => absurd rfl h, fun _ => ⟨hd, ms', ck', mput l k vy, hp, by simp [hlt], rfl, hm', mput_one hy1 h1⟩⟩
      refine ⟨_, h, Does.skip (φ' := φ) (w' := { w with heap := w.heap.setIfInBounds hd.b (.map ms' ck') }) (by simp [hrun]) ?_ ?_ rfl rfl rfl (by simp)⟩
      · rw [putH_one]; exact ok'
      · rw [putH_one]; exact t'
    cases r with
    | none =>
      refine fin (ms.push ⟨.int .i64 k, vy, ck⟩) (ck + 1) ?_ ?_
      · rw [mput_none g2.symm]; simp [hm]
      · simp only [Instr.mapUpdate, Sem.run_bind, run_underlying hut, MapKept.run_getObj_map hb, Result.andThen_ok, hck, hf, MapKept.run_setObj_map _ hb]
    | some y =>
      obtain ⟨_, g5, g4⟩ := g3 y rfl
      have hkey : (Instr.keyThatStays (((ms[y.1]?).map (·.key)).getD (.int .i64 k)) (.int .i64 k)).run P w = .ok (.int .i64 k) w := by
        have : (ms[y.1]?).map (·.key) = some (.int .i64 k) := by simpa using g5
        rw [this]
        simp [Instr.keyThatStays, Instr.sameBits]
      refine fin (ms.modify y.1 fun e => { e with key := .int .i64 k, val := vy }) ck ?_ ?_
      · have := g4 vy _ rfl
        simpa using this
      · simp only [Instr.mapUpdate, Sem.run_bind, run_underlying hut, MapKept.run_getObj_map hb, Result.andThen_ok, hck, hf, MapKept.run_setObj_map _ hb, hkey]
  · exact h.elim
end
end Go.Proofs.YtchfpgpboifbeaaGreat.Ac
set_option linter.unusedVariables false
set_option linter.unusedSimpArgs false
namespace Go.Proofs.YtchfpgpboifbeaaGreat.Ac
open Go.RowKit
section
variable {P : Program} {tb : Tab} {w₀ : World} {H₀ : Hp} {φ₀ : Phi} {N : Nat} {e : Env} {g : Hp} {φ : Phi} {a : Act} {w : World}
theorem fold_push : ∀ (l : List UInt8) (r : ByteArray), ((l.map fun b => (b.toNat : Int)).foldl (fun r n => r.push (UInt8.ofNat n.toNat)) r).data.toList = r.data.toList ++ l
  | [], r => by simp
  | b :: l, r => by
    rw [List.map_cons, List.foldl_cons, fold_push l]
    simp [ByteArray.push]
theorem bytes_does (hT : TabOK P tb) (ok : HeapOK w.heap g φ) {s t el : TypeId} {z z' : A} {bt bt' : Nat} (hs : tb s = some (.w (.slice el) z bt)) (ht : tb t = some (.w .string z' bt')) {x : T} {u : Value} (hx : RepT w.heap g φ x u) (rs : List Nat) :
    DoesO P w g φ (do pure (.value (← convert s t u))) rs (bytesO (tb el) x) := by
  obtain ⟨hu, _⟩ := hT.w s _ z bt hs
  obtain ⟨hv, _⟩ := hT.w t _ z' bt' ht
  intro k h
  unfold bytesO at h
  split at h
  · rename_i z1 b1 hel
    obtain ⟨he, _⟩ := hT.w el _ z1 b1 hel
    split at h
    · rename_i n lo hi
      obtain ⟨fl, wd, es, hn, hf4, hA⟩ := alive_elim h
      clear h
      obtain ⟨h0, hA⟩ := cond_K hA
      have := Nat.eq_of_beq_eq_true h0
      subst this
      obtain ⟨str, hstr, h⟩ := hA
      obtain ⟨m, news, ⟨ad, cap, rfl, hf⟩, hm, h1, h2, _, _, h5, _, h7⟩ := src_row (P := P) ok hn hf4 (rep_one hx)
      refine ⟨_, h, Does.value ok (u := .string str) ?_ (tS_rep _)⟩
      have hnews : news = (str.data.toList.map fun b => (b.toNat : Int)).map (Value.int .u8) := by
        rw [hstr] at hm h7
        rw [List.length_map] at hm
        apply List.ext_getElem?
        intro q
        by_cases hq : q < news.length
        · have hq2 : q < str.data.toList.length := by omega
          have := h7 q (byteL (str.data.toList[q])) 0 _ (by rw [List.getElem?_map, List.getElem?_eq_getElem hq2]; rfl) rfl
          simp only [Nat.mul_one, Nat.add_zero, cpA] at this
          have := v_rep (v := news.getD q undef) ⟨_, rfl, this⟩
          rw [List.getElem?_eq_getElem hq, List.map_map, List.getElem?_map, List.getElem?_eq_getElem hq2]
          rw [List.getD_eq_getElem?_getD, List.getElem?_eq_getElem hq] at this
          simpa using this
        · rw [List.getElem?_eq_none (by omega), List.getElem?_eq_none (by simp at hm ⊢; omega)]
      cases ad with
      | none =>
        have : m = 0 := by
          have h3 := (hf w rfl).1
          simp only [Builtin.firstCells] at h3
          have h4 : (#[] : Array Value) = news.toArray := by simpa using h3
          have : news = [] := by simpa using h4.symm
          rw [this] at h5; simp at h5; omega
        subst this
        have hn0 : news = [] := List.eq_nil_of_length_eq_zero (by omega)
        rw [hn0] at hnews
        have h9 : str.data.toList = [] := by simpa using hnews.symm
        have : str = .empty := by
          apply ByteArray.ext
          have := congrArg List.toArray h9
          simpa using this
        subst this
        simp [convert, run_underlying hu, run_underlying hv, run_underlying he, Conv.bytesToString]
      | some ad =>
        have h3 := (hf w rfl).1
        simp only [Builtin.firstCells, Nat.mul_one] at h3
        rw [hnews] at h3
        have h4 := run_bytesToString (P := P) w ad m cap _ h3
        have h5 : (str.data.toList.map fun b => (b.toNat : Int)).foldl (fun r n => r.push (UInt8.ofNat n.toNat)) ByteArray.empty = str := by
          apply ByteArray.ext
          have := fold_push str.data.toList ByteArray.empty
          apply Array.ext'
          rw [this]; rfl
        rw [h5] at h4
        simp [convert, run_underlying hu, run_underlying hv, run_underlying he, h4]
    · have r := rep_one hx
      cases r with
      | nl ad =>
        refine ⟨_, h, Does.value ok (u := .string .empty) ?_ (tS_rep _)⟩
        cases ad with
        | none => simp [convert, run_underlying hu, run_underlying hv, run_underlying he, Conv.bytesToString]
        | some ad =>
          have h4 := run_bytesToString (P := P) w ad 0 0 [] (by
            have := run_loadCells_list (P := P) w ad [] (by simp)
            simpa using this)
          simp [convert, run_underlying hu, run_underlying hv, run_underlying he, h4]
    · exact h.elim
  · exact h.elim
theorem map_one {α β : Type} {f : α → β} {l : List α} {y : β} (h : l.map f = [y]) : ∃ x, l = [x] ∧ y = f x := by
  cases l with
  | nil => cases h
  | cons x l =>
    cases l with
    | nil => cases h; exact ⟨x, rfl, rfl⟩
    | cons z l => cases h
theorem map_two {α β : Type} {f : α → β} {l : List α} {y z : β} (h : l.map f = [y, z]) : ∃ x x', l = [x, x'] ∧ y = f x ∧ z = f x' := by
  cases l with
  | nil => cases h
  | cons x l =>
    simp only [List.map_cons, List.cons.injEq] at h
    obtain ⟨x', rfl, hz⟩ := map_one h.2
    exact ⟨x, x', rfl, h.1.symm, hz⟩
theorem arr_of {α : Type} {a : Array α} {l : List α} (h : a.toList = l) : a = l.toArray := by rw [← h]
theorem bilt_does (hT : TabOK P tb) (s : Sim w₀ H₀ φ₀ N e g φ a w) {c : Call} {b : Builtin} (hb : c.callee = .builtin b) {ty : TypeId} {d : Nat} (hc : c.operands.all operOK = true) (rs : List Nat) :
    DoesO P w g φ (do let d ← resolve a.eval c ty; invoke d.target d.args) rs (biltO tb b c.argTypes.toList (c.args.toList.map (evT e)) d) := by
  obtain ⟨cal, args, argTypes⟩ := c
  dsimp only at hb ⊢
  subst hb
  intro k h
  have hop : ∀ x ∈ args.toList, operOK x = true := fun x hx => by
    simp only [Call.operands] at hc
    exact Array.all_eq_true_iff_forall_mem.1 hc x (by simpa using hx)
  generalize hts : argTypes.toList = ts at h
  generalize hxs : args.toList.map (evT e) = xs at h
  have hta := arr_of hts
  have e1 : ∀ b, (do let d ← resolve a.eval { callee := .builtin b, args := args, argTypes := argTypes } ty; invoke d.target d.args : Sem Next) = builtin b argTypes ty (args.map fun | .const _ => true | _ => false) (args.map a.eval) := fun b => rfl
  rw [e1]
  have m1 : ∀ x0, ([x0].toArray.map a.eval) = #[a.eval x0] := fun x0 => by simp
  have m2 : ∀ x0 x1, ([x0, x1].toArray.map a.eval) = #[a.eval x0, a.eval x1] := fun x0 x1 => by simp
  unfold biltO at h
  split at h
  · obtain ⟨x0, hx0, rfl⟩ := map_one hxs
    have ha := arr_of hx0
    subst ha hta
    split at h
    · rename_i l hl
      rw [m1]; exact len_does hT s.ok hl (ev_ok s (hop x0 (by simp))) ty _ rs k h
    · exact h.elim
  · obtain ⟨x0, hx0, rfl⟩ := map_one hxs
    have ha := arr_of hx0
    subst ha hta
    split at h
    · rename_i l hl
      rw [m1]; exact cap_does hT s.ok hl (ev_ok s (hop x0 (by simp))) ty _ rs k h
    · exact h.elim
  · obtain ⟨x0, x1, hx0, rfl, rfl⟩ := map_two hxs
    have ha := arr_of hx0
    subst ha hta
    split at h
    · rename_i hl1 hl2
      split at h
      · rename_i l hl
        rw [m2]; exact append_does hT s.ok hl1 hl2 hl (ev_ok s (hop x0 (by simp))) (ev_ok s (hop x1 (by simp))) ty _ rs k h
      · exact h.elim
    · rename_i hl1 hl2
      split at h
      · rename_i l hl
        rw [m2]; exact appendZ_does hT s.ok hl1 hl2 hl (ev_ok s (hop x0 (by simp))) (ev_ok s (hop x1 (by simp))) ty _ rs (fun n zv h1 h2 => src_zero h1 h2) k h
      · exact h.elim
    · exact h.elim
  · obtain ⟨x0, x1, hx0, rfl, rfl⟩ := map_two hxs
    have ha := arr_of hx0
    subst ha hta
    split at h
    · rename_i hl1
      split at h
      · rename_i l hl
        obtain ⟨hpos, h⟩ := cond_K h
        rw [m2]; exact copy_does hT s.ok hl1 hl (by simpa [Nat.blt, Nat.lt_iff_add_one_le] using hpos) (ev_ok s (hop x0 (by simp))) (ev_ok s (hop x1 (by simp))) _ (by simp) ty _ rs k h
      · exact h.elim
    · exact h.elim
  · obtain ⟨x0, hx0, rfl⟩ := map_one hxs
    have ha := arr_of hx0
    subst ha hta
    split at h
    · rename_i hl1
      split at h
      · rename_i l hl
        rw [m1]; exact clear_does hT s.ok hl1 hl (ev_ok s (hop x0 (by simp))) ty _ rs k h
      · exact h.elim
    · exact h.elim
  · obtain ⟨x0, x1, hx0, rfl, rfl⟩ := map_two hxs
    have ha := arr_of hx0
    subst ha
    rw [m2]; exact mm_does (mx := true) s.ok (ev_ok s (hop x0 (by simp))) (ev_ok s (hop x1 (by simp))) rs k h
  · obtain ⟨x0, x1, hx0, rfl, rfl⟩ := map_two hxs
    have ha := arr_of hx0
    subst ha
    rw [m2]; exact mm_does (mx := false) s.ok (ev_ok s (hop x0 (by simp))) (ev_ok s (hop x1 (by simp))) rs k h
  · exact h.elim
theorem opt_ev (s : Sim w₀ H₀ φ₀ N e g φ a w) {o : Option Operand} (hop : ∀ x, o = some x → operOK x = true) : (∀ x, o.map (evT e) = some x → ∃ u, o.map a.eval = some u ∧ RepT w.heap g φ x u) ∧ (o.map (evT e) = none → o.map a.eval = none) := by
  cases o with
  | none => exact ⟨fun x h => (by cases h), fun _ => rfl⟩
  | some y => exact ⟨fun x h => by cases h; exact ⟨_, rfl, ev_ok s (hop y rfl)⟩, fun h => by cases h⟩
theorem parts_ev (s : Sim w₀ H₀ φ₀ N e g φ a w) {ps : List (Nat × Operand)} (hop : ∀ p ∈ ps, operOK p.2 = true) : (ps.map fun p => (p.1, evT e p.2)).map (·.1) = (ps.map fun p => (p.1, a.eval p.2)).map (·.1) ∧
    ∀ (i : Nat) (x : Nat × T) (y : Nat × Value), (ps.map fun p => (p.1, evT e p.2))[i]? = some x → (ps.map fun p => (p.1, a.eval p.2))[i]? = some y → RepT w.heap g φ x.2 y.2 := by
  refine ⟨by simp, fun i x y h1 h2 => ?_⟩
  rw [List.getElem?_map] at h1 h2
  cases hp : ps[i]? with
  | none => rw [hp] at h1; cases h1
  | some p =>
    rw [hp] at h1 h2
    cases h1; cases h2
    exact ev_ok s (hop p (List.mem_of_getElem? hp))
theorem biN_does (hT : TabOK P tb) (ok : HeapOK w.heap g φ) {op : BinOp} {t : TypeId} {ox oy : Operand} {x y : T} {u v : Value} (hx : RepT w.heap g φ x u) (hy : RepT w.heap g φ y v) (rs : List Nat) :
    DoesO P w g φ (do pure (.value (← (do eqGuard op t ox oy u v; binOp op t u v)))) rs (biN op x y) := by
  intro k h
  unfold biN at h
  split at h
  · exact bi_does hT ok hx hy (fun p q hp hq => by rw [v_rep hx] at hp; cases hp) rs k h
  · exact bi_does hT ok hx hy (fun p q hp hq => by rw [v_rep hx] at hp; cases hp) rs k h
  · exact h.elim
theorem opO_does (hT : TabOK P tb) (s : Sim w₀ H₀ φ₀ N e g φ a w) {o : Oper} {d : Nat} (hc : o.op.operands.all operOK = true) (rs : List Nat) : DoesO P w g φ (execOp a.eval o) rs (opO tb o.op d (evT e)) := by
  have op : ∀ x ∈ o.op.operands, operOK x = true := fun x hx => Array.all_eq_true_iff_forall_mem.1 hc x hx
  intro k h
  unfold execOp
  generalize hop : o.op = q at h hc op ⊢
  cases q <;> first | exact h.elim | skip
  case move x => exact move_does s.ok (ev_ok s (op x (by simp [Op.operands]))) rs k h
  case assign x => exact move_does s.ok (ev_ok s (op x (by simp [Op.operands]))) rs k h
  case pick c x y => exact pick_does s.ok (ev_ok s (op c (by simp [Op.operands]))) (ev_ok s (op x (by simp [Op.operands]))) (ev_ok s (op y (by simp [Op.operands]))) rs k h
  case alloc t =>
    simp only [opO] at h
    split at h
    · rename_i heq; exact alloc_does hT s.ok heq rs k h
    · exact h.elim
  case box t x =>
    simp only [opO] at h
    split at h
    · rename_i heq; exact box_does hT s.ok heq (ev_ok s (op x (by simp [Op.operands]))) rs k h
    · exact h.elim
  case build t ps =>
    simp only [opO] at h
    split at h
    · rename_i heq
      obtain ⟨h1, h2⟩ := parts_ev s (ps := ps.toList) fun p hp => op p.2 (show p.2 ∈ (ps.toList.map (·.2)).toArray from List.mem_toArray.2 (List.mem_map.2 ⟨p, hp, rfl⟩))
      have := struct_does hT s.ok heq h1 h2 rs k h
      have e1 : (ps.toList.map fun p => (p.1, a.eval p.2)).toArray = ps.map fun p => (p.1, a.eval p.2) := by rw [← Array.toList_map]
      rw [e1] at this
      exact this
    · exact h.elim
  case buildSlice t n ps =>
    simp only [opO] at h
    split at h
    · rename_i heq
      split at h
      · rename_i hl
        obtain ⟨h1, h2⟩ := parts_ev s (ps := ps.toList) fun p hp => op p.2 (show p.2 ∈ (ps.toList.map (·.2)).toArray from List.mem_toArray.2 (List.mem_map.2 ⟨p, hp, rfl⟩))
        have := rows_does hT s.ok heq hl h1 h2 rs k h
        have e1 : (ps.toList.map fun p => (p.1, a.eval p.2)).toArray = ps.map fun p => (p.1, a.eval p.2) := by rw [← Array.toList_map]
        rw [e1] at this
        exact this
      · exact h.elim
    · exact h.elim
  case load t x =>
    simp only [opO] at h
    split at h
    · rename_i heq; exact load_does hT s.ok heq (ev_ok s (op x (by simp [Op.operands]))) rs k h
    · exact h.elim
  case store t x y =>
    simp only [opO] at h
    split at h
    · rename_i heq; exact store_does hT s.ok heq (ev_ok s (op x (by simp [Op.operands]))) (ev_ok s (op y (by simp [Op.operands]))) rs k h
    · exact h.elim
  case nilCheck x =>
    have r := ev_ok s (op x (by simp [Op.operands]))
    simp only [opO, nilO] at h
    split at h
    · rename_i y heq
      rw [heq] at r
      have r2 := rep_one r
      obtain ⟨b, p, hu⟩ : ∃ b p, a.eval x = .pointer (some ⟨b, p, none⟩) := by
        generalize a.eval x = u at r2
        cases r2 with
        | f _ _ r2 => cases r2; exact ⟨_, _, rfl⟩
      exact ⟨_, h, Does.value s.ok (u := a.eval x) (by simp only [hu]; rfl) r⟩
    · rename_i n i off heq
      rw [heq] at r
      obtain ⟨fl, wd, es, hn, hf4, h⟩ := alive_elim h
      obtain ⟨b, p, hu, _⟩ := pt_add (o := 0) s.ok hn hf4 (rep_one r)
      exact ⟨_, h, Does.value s.ok (u := a.eval x) (by simp only [hu]; rfl) r⟩
    · rename_i heq
      rw [heq] at r
      have r2 := rep_one r
      obtain ⟨f, cap, hu⟩ : ∃ f cap, a.eval x = .func (.func f) #[] cap := by
        generalize a.eval x = u at r2
        cases r2 with
        | f _ _ r2 => cases r2; exact ⟨_, _, rfl⟩
      exact ⟨_, h, Does.value s.ok (u := a.eval x) (by simp only [hu]; rfl) r⟩
    · rename_i heq
      rw [heq] at r
      have r2 := rep_one r
      obtain ⟨f, cap, hu⟩ : ∃ f cap, a.eval x = .func (.func f) #[] cap := by
        generalize a.eval x = u at r2
        cases r2; exact ⟨_, _, rfl⟩
      exact ⟨_, h, Does.value s.ok (u := a.eval x) (by simp only [hu]; rfl) r⟩
    · exact h.elim
  case fieldAddr t x f =>
    simp only [opO] at h
    split at h
    · rename_i hl
      split at h
      · rename_i hf; exact addr_does hT s.ok hl hf (ev_ok s (op x (by simp [Op.operands]))) rs k h
      · exact h.elim
    · exact h.elim
  case field t x f =>
    simp only [opO] at h
    split at h
    · rename_i hl
      split at h
      · rename_i hf; exact field_does hT s.ok hl hf (ev_ok s (op x (by simp [Op.operands]))) rs k h
      · exact h.elim
    · exact h.elim
  case indexAddr t x i =>
    simp only [opO] at h
    split at h
    · rename_i ht
      split at h
      · rename_i hl; exact idx_does hT s.ok ht hl (ev_ok s (op x (by simp [Op.operands]))) (ev_ok s (op i (by simp [Op.operands]))) rs k h
      · exact h.elim
    · exact h.elim
  case index t x i =>
    simp only [opO] at h
    split at h
    · rename_i ht; exact chr_does hT s.ok ht (ev_ok s (op x (by simp [Op.operands]))) (ev_ok s (op i (by simp [Op.operands]))) rs k h
    · exact h.elim
  case binOp op' t x y yt =>
    have rx := ev_ok s (op x (by simp [Op.operands]))
    have ry := ev_ok s (op y (by simp [Op.operands]))
    simp only [opO] at h
    split at h
    · rename_i heq; exact eq_does hT s.ok heq rx ry rs k h
    · exact h.elim
    · rename_i elm z b heq
      obtain ⟨hu, _⟩ := hT.w t _ _ _ heq
      exact bi_does hT s.ok rx ry (fun _ _ _ _ => ⟨elm, hu⟩) rs k h
    · rename_i elm z b heq
      obtain ⟨hu, _⟩ := hT.w t _ _ _ heq
      split at h
      · exact nilS_does s.ok hu rx rs k h
      · exact h.elim
    · rename_i hne1 hne2 hne3 hne4
      exact biN_does hT s.ok rx ry rs k h
  case unOp u t x => exact un_does s.ok (ev_ok s (op x (by simp [Op.operands]))) rs k h
  case extract x i => exact extr_does s.ok (ev_ok s (op x (by simp [Op.operands]))) rs k h
  case convert s' t x =>
    have rx := ev_ok s (op x (by simp [Op.operands]))
    simp only [opO] at h
    split at h
    · rename_i h1 h2; exact bytes_does hT s.ok h1 h2 rx rs k h
    · rename_i _ h1 h2; exact conv_does hT s.ok h1 h2 rx rs k h
    · exact h.elim
  case makeFunc f fst cs =>
    cases f <;> first | exact h.elim | skip
    simp only [opO] at h
    obtain ⟨h0, h⟩ := cond_K h
    have hz : fst = #[] := by have := Nat.eq_of_beq_eq_true h0; exact Array.eq_empty_of_size_eq_zero this
    subst hz
    have := func_does (P := P) s.ok (us := cs.toList.map a.eval) (fun i x hi => by
      rw [List.getElem?_map] at hi
      cases hq : cs.toList[i]? with
      | none => rw [hq] at hi; cases hi
      | some y =>
        rw [hq] at hi
        cases hi
        exact ⟨a.eval y, by rw [List.getElem?_map, hq]; rfl, ev_ok s (op y (show y ∈ (#[] ++ cs : Array Operand) by have := List.mem_of_getElem? hq; simpa using this))⟩) (by simp) rs k h
    have e1 : (cs.toList.map a.eval).toArray = cs.map a.eval := by rw [← Array.toList_map]
    have e2 : (#[] : Array Operand).map a.eval = #[] := by simp
    rw [e1] at this
    rw [← e2] at this
    exact this
  case makeMap t r =>
    simp only [opO] at h
    cases r with
    | none => exact makeMap_does s.ok rs k h
    | some r => exact h.elim
  case lookup t x i ok =>
    simp only [opO] at h
    split at h
    · rename_i ht
      split at h
      · rename_i hk he; exact look_does hT s.ok ht hk he (ev_ok s (op x (by simp [Op.operands]))) (ev_ok s (op i (by simp [Op.operands]))) rs k h
      · exact h.elim
    · exact h.elim
  case mapUpdate t x i y =>
    simp only [opO] at h
    split at h
    · rename_i ht
      split at h
      · rename_i hk; exact mupd_does hT s.ok ht hk (ev_ok s (op x (by simp [Op.operands]))) (ev_ok s (op i (by simp [Op.operands]))) (ev_ok s (op y (by simp [Op.operands]))) rs k h
      · exact h.elim
    · exact h.elim
  case makeSlice t x y =>
    simp only [opO] at h
    split at h
    · rename_i ht
      split at h
      · rename_i hl; exact makeSlice_does hT s.ok ht hl (ev_ok s (op x (by simp [Op.operands]))) (ev_ok s (op y (by simp [Op.operands]))) rs k h
      · exact h.elim
    · exact h.elim
  case slice t x lo hi mx =>
    simp only [opO] at h
    split at h
    · rename_i l hl
      obtain ⟨a1, a2⟩ := opt_ev s (o := lo) fun y hy => op y (by simp [Op.operands, hy])
      obtain ⟨b1, b2⟩ := opt_ev s (o := hi) fun y hy => op y (by simp [Op.operands, hy])
      obtain ⟨c1, c2⟩ := opt_ev s (o := mx) fun y hy => op y (by simp [Op.operands, hy])
      exact slice_does hT s.ok hl (ev_ok s (op x (by simp [Op.operands]))) a1 a2 b1 b2 c1 c2 rs (fun el z bt h => by subst h; rfl) k h
    · exact h.elim
  case call c =>
    simp only [opO] at h
    split at h
    · rename_i b hb; exact bilt_does hT s hb hc rs k h
    · exact h.elim
end
end Go.Proofs.YtchfpgpboifbeaaGreat.Ac
set_option linter.unusedVariables false
set_option linter.unusedSimpArgs false
namespace Go.Proofs.YtchfpgpboifbeaaGreat.Ac
open Go.RowKit
abbrev Es := List (Nat × T)
abbrev Hs := List (Nat × Option Ob)
theorem get_append {α : Type} (u v : List (Nat × α)) (n : Nat) : get (u ++ v) n = match get u n with | some x => some x | none => get v n := by
  induction u with
  | nil => rfl
  | cons x u ih =>
    obtain ⟨m, o⟩ := x
    simp only [List.cons_append, get]
    cases Nat.beq m n <;> simp [ih]
theorem putH_get (u hs : Hs) : putH u (get hs) = get (u ++ hs) := by
  funext n
  rw [get_append]
  simp only [putH]
  cases get u n <;> rfl
def addE (d : Option Tmp) (v : T) (es : Es) : Es := match d with
  | some d => (d, v) :: es
  | none => es
theorem putE_get (d : Option Tmp) (v : T) (es : Es) : putE d v (get es) = get (addE d v es) := by
  cases d <;> rfl
theorem get_mem {α : Type} {l : List (Nat × α)} {n : Nat} {x : α} (hx : get l n = some x) : (n, x) ∈ l := by
  induction l with
  | nil => cases hx
  | cons y l ih =>
    obtain ⟨m, v⟩ := y
    simp only [get] at hx
    cases hb : Nat.beq m n
    · rw [hb] at hx; exact List.mem_cons_of_mem _ (ih hx)
    · rw [hb] at hx
      cases hx
      rw [Nat.eq_of_beq_eq_true hb]; exact List.mem_cons_self
def rn (r : List (Nat × Nat)) (n : Nat) : Nat := (get r n).getD n
mutual
def rnA (r : List (Nat × Nat)) : A → A
  | .f x => .f x
  | .nl => .nl
  | .un k => .un k
  | .row n lo hi => .row (rn r n) lo hi
  | .pt n i off => .pt (rn r n) i off
  | .mp n => .mp (rn r n)
  | .ow wd es => .ow wd (rnR r es)
  | .cl f caps => .cl f (rnP r caps)
def rnC (r : List (Nat × Nat)) : List A → List A
  | [] => []
  | x :: l => rnA r x :: rnC r l
def rnR (r : List (Nat × Nat)) : List (List A) → List (List A)
  | [] => []
  | e :: l => rnC r e :: rnR r l
def rnP (r : List (Nat × Nat)) : List (Bool × List A) → List (Bool × List A)
  | [] => []
  | (ag, cs) :: l => (ag, rnC r cs) :: rnP r l
end
def hasN (hs : Hs) (n : Nat) : Bool := match get hs n with | some _ => true | none => false
mutual
def inA (hs : Hs) : A → Bool
  | .f _ => true
  | .nl => true
  | .un _ => true
  | .row n _ _ => hasN hs n
  | .pt n _ _ => hasN hs n
  | .mp n => hasN hs n
  | .ow _ es => inR hs es
  | .cl _ caps => inP hs caps
def inC (hs : Hs) : List A → Bool
  | [] => true
  | x :: l => inA hs x && inC hs l
def inR (hs : Hs) : List (List A) → Bool
  | [] => true
  | e :: l => inC hs e && inR hs l
def inP (hs : Hs) : List (Bool × List A) → Bool
  | [] => true
  | (_, cs) :: l => inC hs cs && inP hs l
end
mutual
/-- A cell that names no row. -/
def clA : A → Prop
  | .f _ => True
  | .nl => True
  | .un _ => True
  | .row _ _ _ => False
  | .pt _ _ _ => False
  | .mp _ => False
  | .ow _ es => clR es
  | .cl _ _ => False
def clC : List A → Prop
  | [] => True
  | x :: l => clA x ∧ clC l
def clR : List (List A) → Prop
  | [] => True
  | e :: l => clC e ∧ clR l
end
mutual
theorem rn_cl (r : List (Nat × Nat)) : ∀ {x : A}, clA x → rnA r x = x
  | .f _, _ => rfl
  | .nl, _ => rfl
  | .un _, _ => rfl
  | .ow wd es, h => congrArg (A.ow wd) (rnR_cl r h)
  | .row _ _ _, h => h.elim
  | .pt _ _ _, h => h.elim
  | .mp _, h => h.elim
  | .cl _ _, h => h.elim
theorem rnC_cl (r : List (Nat × Nat)) : ∀ {l : List A}, clC l → rnC r l = l
  | [], _ => rfl
  | x :: l, h => by rw [rnC, rn_cl r h.1, rnC_cl r h.2]
theorem rnR_cl (r : List (Nat × Nat)) : ∀ {l : List (List A)}, clR l → rnR r l = l
  | [], _ => rfl
  | e :: l, h => by rw [rnR, rnC_cl r h.1, rnR_cl r h.2]
end
theorem cl_mp : ∀ l : List (Int × Value), clR (mpR l)
  | [] => trivial
  | x :: l => ⟨⟨trivial, trivial, trivial⟩, cl_mp l⟩
mutual
theorem in_cl (hs : Hs) : ∀ {x : A}, clA x → inA hs x = true
  | .f _, _ => rfl
  | .nl, _ => rfl
  | .un _, _ => rfl
  | .ow wd es, h => inR_cl hs h
  | .row _ _ _, h => h.elim
  | .pt _ _ _, h => h.elim
  | .mp _, h => h.elim
  | .cl _ _, h => h.elim
theorem inC_cl (hs : Hs) : ∀ {l : List A}, clC l → inC hs l = true
  | [], _ => rfl
  | x :: l, h => by rw [inC, in_cl hs h.1, inC_cl hs h.2]; rfl
theorem inR_cl (hs : Hs) : ∀ {l : List (List A)}, clR l → inR hs l = true
  | [], _ => rfl
  | e :: l, h => by rw [inR, inC_cl hs h.1, inR_cl hs h.2]; rfl
end
theorem rnC_map (r : List (Nat × Nat)) : ∀ l : List A, rnC r l = l.map (rnA r)
  | [] => rfl
  | x :: l => by rw [rnC, rnC_map r l]; rfl
theorem rnR_map (r : List (Nat × Nat)) : ∀ l : List (List A), rnR r l = l.map (·.map (rnA r))
  | [] => rfl
  | e :: l => by rw [rnR, rnR_map r l, rnC_map]; rfl
theorem rnP_map (r : List (Nat × Nat)) : ∀ l : List (Bool × List A), rnP r l = l.map fun x => (x.1, x.2.map (rnA r))
  | [] => rfl
  | (ag, cs) :: l => by rw [rnP, rnP_map r l, rnC_map]; rfl
theorem inC_all (hs : Hs) : ∀ {l : List A}, inC hs l = true → ∀ x ∈ l, inA hs x = true
  | [], _, x, hx => by cases hx
  | y :: l, h, x, hx => by
    simp only [inC, Bool.and_eq_true] at h
    rcases List.mem_cons.1 hx with rfl | hx
    · exact h.1
    · exact inC_all hs h.2 x hx
theorem inR_all (hs : Hs) : ∀ {l : List (List A)}, inR hs l = true → ∀ e ∈ l, inC hs e = true
  | [], _, x, hx => by cases hx
  | y :: l, h, x, hx => by
    simp only [inR, Bool.and_eq_true] at h
    rcases List.mem_cons.1 hx with rfl | hx
    · exact h.1
    · exact inR_all hs h.2 x hx
theorem inP_all (hs : Hs) : ∀ {l : List (Bool × List A)}, inP hs l = true → ∀ x ∈ l, inC hs x.2 = true
  | [], _, x, hx => by cases hx
  | (ag, cs) :: l, h, x, hx => by
    simp only [inP, Bool.and_eq_true] at h
    rcases List.mem_cons.1 hx with rfl | hx
    · exact h.1
    · exact inP_all hs h.2 x hx
inductive Frz (K : Nat → Ob → Prop) : A → L → Prop
  | f (x : L) : Frz K (.f x) x
  | nl (wd : Nat) : Frz K .nl (.sl wd [])
  | ow (wd : Nat) (es : List (List A)) (ls : List (List L)) (hlen : es.length = ls.length) (hl : ∀ (i : Nat) e l, es[i]? = some e → ls[i]? = some l → e.length = l.length) (h : ∀ (i : Nat) e l (j : Nat) x y, es[i]? = some e → ls[i]? = some l → e[j]? = some x → l[j]? = some y → Frz K x y) : Frz K (.ow wd es) (.sl wd ls)
  | row (m lo hi : Nat) (ob : Ob) (ls : List (List L)) (hm : K m ob) (hlen : ((ob.es.take hi).drop lo).length = ls.length) (hl : ∀ (i : Nat) e l, ((ob.es.take hi).drop lo)[i]? = some e → ls[i]? = some l → e.length = l.length)
      (h : ∀ (i : Nat) e l (j : Nat) x y, ((ob.es.take hi).drop lo)[i]? = some e → ls[i]? = some l → e[j]? = some x → l[j]? = some y → Frz K x y) : Frz K (.row m lo hi) (.sl ob.wd ls)
  | pt (n i off : Nat) (ob : Ob) (e : List A) (ls : List L) (hn : K n ob) (hne : ls ≠ []) (he : ob.es[i]? = some e) (hlen : ls.length ≤ (e.drop off).length) (h : ∀ (j : Nat) x y, (e.drop off)[j]? = some x → ls[j]? = some y → Frz K x y) : Frz K (.pt n i off) (.pv ls)
def FrzR (K : Nat → Ob → Prop) (es : List (List A)) (ls : List (List L)) : Prop := es.length = ls.length ∧ (∀ (i : Nat) e l, es[i]? = some e → ls[i]? = some l → e.length = l.length) ∧ ∀ (i : Nat) e l (j : Nat) x y, es[i]? = some e → ls[i]? = some l → e[j]? = some x → l[j]? = some y → Frz K x y
def kept (r : List (Nat × Nat)) (hs' : Hs) (m : Nat) : Bool := hs'.any fun x => Nat.beq (rn r x.1) m
def gone (r : List (Nat × Nat)) (g : Hp) (hs' : Hs) (m : Nat) (ob : Ob) : Prop := g m = some (some ob) ∧ kept r hs' m = false ∧ Nat.beq ob.fl 4 = false
def FrzN (r : List (Nat × Nat)) (g : Hp) (hs' : Hs) (m lo hi wd : Nat) (ls : List (List L)) : Prop := match g m with
  | some (some ob) => ob.wd = wd ∧ Nat.beq ob.fl 4 = false ∧ FrzR (gone r g hs') ((ob.es.take hi).drop lo) ls ∧ kept r hs' m = false
  | _ => False
def frzC (K : Nat → Ob → Prop) : List A → List L → Prop
  | _, [] => True
  | x :: xs, y :: ys => Frz K x y ∧ frzC K xs ys
  | [], _ :: _ => False
def FrzP (r : List (Nat × Nat)) (g : Hp) (hs' : Hs) (n i off : Nat) (ls : List L) : Prop := match g n with
  | some (some ob) => ls ≠ [] ∧ Nat.beq ob.fl 4 = false ∧ (∃ e, ob.es[i]? = some e ∧ frzC (gone r g hs') (e.drop off) ls) ∧ kept r hs' n = false
  | _ => False
def bzA (r : List (Nat × Nat)) (g : Hp) (hs' : Hs) (x : A) (l : L) : Prop := match x, l with
  | .f y, l => y = l
  | .nl, .sl _ ls => ls = []
  | .row m lo hi, .sl wd ls => FrzN r g hs' m lo hi wd ls
  | .pt n i off, .pv ls => FrzP r g hs' n i off ls
  | _, _ => False
def bzC (r : List (Nat × Nat)) (g : Hp) (hs' : Hs) : List A → List L → Prop
  | [], [] => True
  | x :: xs, y :: ys => bzA r g hs' x y ∧ bzC r g hs' xs ys
  | _, _ => False
def bzP (r : List (Nat × Nat)) (g : Hp) (hs' : Hs) : List (Bool × List A) → List (Bool × List L) → Prop
  | [], [] => True
  | x :: xs, y :: ys => x.1 = y.1 ∧ bzC r g hs' x.2 y.2 ∧ bzP r g hs' xs ys
  | _, _ => False
def tlA (fz : Bool) (r : List (Nat × Nat)) (g : Hp) (hs' : Hs) (x y : A) : Prop := match x, y with
  | _, .un none => True
  | .f z, .f l => z = l
  | .cl f caps, .f (.cl f' ls) => cond fz (f = f' ∧ bzP r g hs' caps ls) False
  | x, .f l => cond fz (bzA r g hs' x l) False
  | .nl, .row n lo hi => lo = 0 ∧ hi = 0 ∧ g (rn r n) = none
  | .row m lo hi, .un (some k) => k = hi - lo ∧ match g m with
    | some (some ob) => Nat.beq ob.fl 4 = false
    | _ => False
  | x, y => x = rnA r y
def tlC (fz : Bool) (r : List (Nat × Nat)) (g : Hp) (hs' : Hs) : List A → List A → Prop
  | [], [] => True
  | x :: xs, y :: ys => tlA fz r g hs' x y ∧ tlC fz r g hs' xs ys
  | _, _ => False
def tlR (fz : Bool) (r : List (Nat × Nat)) (g : Hp) (hs' : Hs) : List (List A) → List (List A) → Prop
  | [], [] => True
  | x :: xs, y :: ys => tlC fz r g hs' x y ∧ tlR fz r g hs' xs ys
  | _, _ => False
def tlVs (fz : Bool) (r : List (Nat × Nat)) (g : Hp) (hs' : Hs) : List (Bool × List A) → List (Bool × List A) → Prop
  | [], [] => True
  | x :: xs, y :: ys => x.1 = y.1 ∧ tlC fz r g hs' x.2 y.2 ∧ tlVs fz r g hs' xs ys
  | _, _ => False
def tlT (fz : Bool) (r : List (Nat × Nat)) (g : Hp) (hs' : Hs) (x y : T) : Prop := match x, y with
  | _, .bot => True
  | .val ag cs, .val ag' cs' => ag = ag' ∧ tlC fz r g hs' cs cs'
  | .tu vs, .tu vs' => tlVs fz r g hs' vs vs'
  | _, _ => False
def inT (hs : Hs) : T → Bool
  | .val _ cs => inC hs cs
  | .tu vs => inP hs vs
  | .bot => true
def inO (hs : Hs) : Option Ob → Bool
  | some ob => cond (Nat.beq ob.fl 3) (inR hs ob.es) true
  | none => true
def subE (fz : Bool) (r : List (Nat × Nat)) (g : Hp) (hs' : Hs) (e : Env) : Es → Prop
  | [] => True
  | (t, y) :: l => (match e t with
    | some x => tlT fz r g hs' x y
    | none => False) ∧ subE fz r g hs' e l
def tlO (fz : Bool) (r : List (Nat × Nat)) (g : Hp) (hs' : Hs) (n : Nat) (o : Option Ob) : Prop := match o with
  | none => True
  | some ob' => match g (rn r n) with
    | some (some ob) => ob.wd = ob'.wd ∧ (ob'.fl = 0 ∧ Nat.beq ob.fl 4 = false ∨ ob'.fl = ob.fl) ∧ cond (Nat.beq ob'.fl 3) (tlR fz r g hs' ob.es ob'.es) (ob.es = ob'.es ∧ clR ob'.es)
    | some none => False
    | none => ob'.es = [] ∧ ob'.fl = 0 ∧ 0 < ob'.wd
def subH (fz : Bool) (r : List (Nat × Nat)) (g : Hp) (hs' : Hs) : Hs → Prop
  | [] => True
  | (n, o) :: l => tlO fz r g hs' n o ∧ subH fz r g hs' l
def subB (fp : List Nat) (r : List (Nat × Nat)) (es' : Es) (hs' : Hs) : Bool := es'.all (fun x => inT hs' x.2) && hs'.all (fun x => inO hs' x.2) && nodupB (hs'.map fun x => rn r x.1) && fp.all (fun n => hasN hs' n && Nat.beq (rn r n) n)
def Sub (fp : List Nat) (r : List (Nat × Nat)) (es' : Es) (hs' : Hs) (e : Env) (g : Hp) : Prop := subB fp r es' hs' = true ∧ subE true r g hs' e es' ∧ subH true r g hs' hs'
section
variable {r : List (Nat × Nat)} {hs' : Hs} {h : Array Obj} {g : Hp} {φ : Phi} {out : Nat → Prop}
noncomputable def ph (r : List (Nat × Nat)) (hs' : Hs) (g : Hp) (φ : Phi) (out : Nat → Prop) : Phi := ⟨fun X => match get hs' X.1, g (rn r X.1) with
  | some (some _), some _ => φ (rn r X.1, X.2)
  | _, _ => none, out⟩
theorem ph_live {n : Nat} {ob ob' : Ob} (h1 : get hs' n = some (some ob')) (h2 : g (rn r n) = some (some ob)) (q : List (Nat × Nat)) : (ph r hs' g φ out) (n, q) = φ (rn r n, q) := by simp [ph, h1, h2]
theorem ph_some {X : Place} {hd : Hd} (hX : (ph r hs' g φ out) X = some hd) : φ (rn r X.1, X.2) = some hd ∧ ∃ ob', get hs' X.1 = some (some ob') := by
  simp only [ph] at hX
  split at hX
  · rename_i ob' _ h1 _; exact ⟨hX, ob', h1⟩
  · cases hX
theorem nodupB_inj {α : Type} {f : Nat → Nat} : ∀ {l : List (Nat × α)}, nodupB (l.map fun x => f x.1) = true → ∀ {m n : Nat} {x y : α}, (m, x) ∈ l → (n, y) ∈ l → f m = f n → m = n
  | [], _, _, _, _, _, hm, _, _ => by cases hm
  | z :: l, hd, m, n, x, y, hm, hn, he => by
    simp only [List.map_cons, nodupB] at hd
    cases hb : memN (f z.1) (l.map fun x => f x.1) with
    | true => rw [hb] at hd; cases hd
    | false =>
      rw [hb] at hd
      have no : ∀ {k : Nat} {v : α}, (k, v) ∈ l → f z.1 ≠ f k := fun hk e => by
        have : f z.1 ∈ l.map fun x => f x.1 := List.mem_map.2 ⟨_, hk, e.symm⟩
        rw [memN_iff.2 this] at hb; cases hb
      rcases List.mem_cons.1 hm with rfl | hm2
      · rcases List.mem_cons.1 hn with h | hn2
        · cases h; rfl
        · exact absurd he (no hn2)
      · rcases List.mem_cons.1 hn with rfl | hn2
        · exact absurd he.symm (no hm2)
        · exact nodupB_inj hd hm2 hn2 he
theorem subH_get {fz : Bool} : ∀ {l : Hs}, subH fz r g hs' l → ∀ {n : Nat} {o : Option Ob}, (n, o) ∈ l → tlO fz r g hs' n o
  | [], _, _, _, hm => by cases hm
  | _ :: l, s, n, o, hm => by
    rcases List.mem_cons.1 hm with rfl | hm
    · exact s.1
    · exact subH_get s.2 hm
theorem own_ph (ho : ∀ b, out b → Own φ b) {b : Nat} (h : Own (ph r hs' g φ out) b) : Own φ b := by
  rcases h with h | ⟨X, hd, hX, rfl⟩
  · exact ho b h
  · exact .inr ⟨_, hd, (ph_some hX).1, rfl⟩
theorem frzRow_core (ok : HeapOK h g φ) {O : Nat → Prop} {m lo hi fl wd : Nat} {es : List (List A)} (hn : g m = some (some ⟨fl, wd, es⟩)) (hf4 : fl ≠ 4) {ls : List (List L)} (hf : ((es.take hi).drop lo).length = ls.length ∧ (∀ (i : Nat) e l, ((es.take hi).drop lo)[i]? = some e → ls[i]? = some l → e.length = l.length) ∧ ∀ (i : Nat) e l (j : Nat) x y, ((es.take hi).drop lo)[i]? = some e → ls[i]? = some l → e[j]? = some x → l[j]? = some y → ∀ {X : Place} {u : Value}, RepA h g φ X x u → (∀ q hd, φ (X.1, q ++ X.2) = some hd → ¬ O hd.b) → RepL h O y u) {u : Value} (r : RefRow g φ m lo hi u) (hno : ∀ q hd, φ (m, q) = some hd → ¬ O hd.b) : RepL h O (.sl wd ls) u := by
  obtain ⟨h1, h2, a, cap, hu⟩ := (by
    have r3 := r.2
    rw [hn] at r3
    obtain ⟨h1, h2, r3⟩ := r3
    refine ⟨h1, h2, ?_⟩
    cases hp : φ (m, []) with
    | none =>
      rw [hp] at r3
      obtain ⟨a', rfl⟩ := r3
      exact ⟨a', 0, rfl⟩
    | some hd =>
      rw [hp] at r3
      obtain ⟨a', rfl, _⟩ := r3
      exact ⟨a', 0, rfl⟩ : lo ≤ hi ∧ hi ≤ es.length ∧ ∃ (a : Option Addr) (cap : Nat), u = u)
  have hlen : ((es.take hi).drop lo).length = hi - lo := by simp; omega
  have hl := hf.1
  rw [hlen] at hl
  have r3 := r.2
  rw [hn] at r3
  obtain ⟨_, _, r3⟩ := r3
  dsimp only at r3
  by_cases hne : ls = []
  · subst hne
    cases hp : φ (m, []) with
    | none => rw [hp] at r3; obtain ⟨a, rfl⟩ := r3; exact .nil _ _ _
    | some hd => rw [hp] at r3; obtain ⟨a, rfl, _⟩ := r3; simp only [List.length_nil] at hl; rw [hl]; exact .nil _ _ _
  · have hpos : lo < hi := by
      have : 0 < ls.length := List.length_pos_iff.2 hne
      omega
    rcases ((ok.ob m _ hn).row hf4) with ⟨h0, _⟩ | ⟨hd, c, ty, g1, g2, g3, g4, g5⟩
    · simp only at h0; subst h0; simp at h2; omega
    · rw [g1] at r3
      obtain ⟨a, rfl, ha⟩ := r3
      dsimp only at g3 g5
      rw [ha (.inr (by have := g3.le; omega)), hl]
      refine .sl wd ls hd.b (hd.off + lo * wd) (hd.cap - lo) c ty (0, 0) g3.wd0 hne g2 (hno [] hd g1) (fun l hm => ?_) ?_ (by have := g3.le; omega) fun i l j y hi' hj => ?_
      · obtain ⟨i, hi', rfl⟩ := List.mem_iff_getElem.1 hm
        have hie : i < ((es.take hi).drop lo).length := by omega
        rw [← hf.2.1 i _ ls[i] (List.getElem?_eq_getElem hie) (List.getElem?_eq_getElem hi')]
        exact g3.len _ (List.mem_of_mem_take (List.mem_of_mem_drop (List.getElem_mem _)))
      · rw [g3.size, ← hl, Nat.add_assoc, ← Nat.add_mul]
        exact Nat.add_le_add_left (Nat.mul_le_mul_right _ (by have := g3.le; omega)) _
      · have hil := (List.getElem?_eq_some_iff.1 hi').1
        have hie : i < ((es.take hi).drop lo).length := by omega
        have he := List.getElem?_eq_getElem hie
        have hel := hf.2.1 i _ _ he hi'
        have hjl := (List.getElem?_eq_some_iff.1 hj).1
        have hx : (((es.take hi).drop lo)[i])[j]? = some ((((es.take hi).drop lo)[i])[j]'(by omega)) := List.getElem?_eq_getElem _
        have he2 : es[lo + i]? = some (((es.take hi).drop lo)[i]) := by
          rw [List.getElem?_drop, List.getElem?_take] at he
          split at he
          · exact he
          · cases he
        have := hf.2.2 i _ _ j _ _ he hi' hx hj (g5 (lo + i) _ j _ he2 hx) fun q hd' hq => hno _ hd' hq
        rw [Nat.add_mul] at this
        rw [show hd.off + lo * wd + i * wd + j = hd.off + (lo * wd + i * wd) + j by omega]
        exact this
theorem frzPt_core (ok : HeapOK h g φ) {O : Nat → Prop} {n fl wd : Nat} {es : List (List A)} (hn : g n = some (some ⟨fl, wd, es⟩)) (hf4 : fl ≠ 4) {i off : Nat} {e : List A} {ls : List L} (hne : ls ≠ []) (he : es[i]? = some e) (hlen : ls.length ≤ (e.drop off).length)
    (hfr : ∀ (j : Nat) x y, (e.drop off)[j]? = some x → ls[j]? = some y → ∀ {X : Place} {u : Value}, RepA h g φ X x u → (∀ q hd, φ (X.1, q ++ X.2) = some hd → ¬ O hd.b) → RepL h O y u) {u : Value} (rx : RepE h g φ (.pt n i off) u) (hno : ∀ q hd, φ (n, q) = some hd → ¬ O hd.b) : RepL h O (.pv ls) u := by
  obtain ⟨hd, hp, rfl, c, ty, hb, hrow, hfl, hcell⟩ := ref_row ok hn hf4 rx
  obtain ⟨hel, hin⟩ := hrow.in he
  rw [List.length_drop] at hlen
  have hpos : 0 < ls.length := List.length_pos_iff.2 hne
  refine .pv ls hd.b (hd.off + i * wd + off) c ty (0, 0) hne hb (hno [] hd hp) (by omega) fun j y hj => ?_
  have hjl := (List.getElem?_eq_some_iff.1 hj).1
  have hx : (e.drop off)[j]? = some (e[off + j]'(by omega)) := by rw [List.getElem?_drop]; exact List.getElem?_eq_getElem _
  have hx2 : e[off + j]? = some (e[off + j]'(by omega)) := List.getElem?_eq_getElem _
  rw [Nat.add_assoc]
  exact hfr j _ _ hx hj (hcell i e (off + j) _ he hx2) fun q hd' hq => hno _ hd' hq
theorem frz_ok (ok : HeapOK h g φ) {O : Nat → Prop} (hO : ∀ b, O b → Own φ b) {K : Nat → Ob → Prop} (hK : ∀ m ob, K m ob → g m = some (some ob) ∧ ob.fl ≠ 4 ∧ ∀ q hd, φ (m, q) = some hd → ¬ O hd.b) : ∀ {x : A} {y : L}, Frz K x y → ∀ {X : Place} {u : Value}, RepA h g φ X x u → (∀ q hd, φ (X.1, q ++ X.2) = some hd → ¬ O hd.b) → RepL h O y u := by
  intro x y hf
  induction hf with
  | f x =>
    intro X u r _
    cases r with
    | e _ _ _ r => cases r with
      | f _ _ r => exact r.less hO
  | nl wd =>
    intro X u r _
    cases r with
    | e _ _ _ r => cases r with
      | nl a => exact .nil _ _ _
  | ow wd es ls hlen hl hh ih =>
    intro X u r hn
    cases r with
    | e _ _ _ r => cases r
    | nilo _ _ a hw hX =>
      have : ls = [] := List.eq_nil_of_length_eq_zero hlen.symm
      subst this; exact .nil _ _ _
    | ow _ _ _ hd c ty hX hb okr hr =>
      by_cases hne : ls = []
      · subst hne
        have : es = [] := List.eq_nil_of_length_eq_zero (by simpa using hlen)
        subst this; exact .nil _ _ _
      · rw [hlen]
        refine .sl wd ls hd.b hd.off hd.cap c ty (0, 0) okr.wd0 hne hb (hn [] hd hX) (fun l hm => ?_) ?_ (by rw [← hlen]; exact okr.le) fun i l j y hi hj => ?_
        · obtain ⟨i, hi, rfl⟩ := List.mem_iff_getElem.1 hm
          have hie : i < es.length := by omega
          rw [← hl i es[i] ls[i] (List.getElem?_eq_getElem hie) (List.getElem?_eq_getElem hi)]
          exact okr.len _ (List.getElem_mem _)
        · rw [okr.size, ← hlen]; exact Nat.add_le_add_left (Nat.mul_le_mul_right _ okr.le) _
        · have hil := (List.getElem?_eq_some_iff.1 hi).1
          have hie : i < es.length := by omega
          have he := List.getElem?_eq_getElem hie
          have hel := hl i _ _ he hi
          have hjl := (List.getElem?_eq_some_iff.1 hj).1
          have hx : (es[i])[j]? = some ((es[i])[j]'(by omega)) := List.getElem?_eq_getElem _
          exact ih i _ _ j _ _ he hi hx hj (hr i _ j _ he hx) fun q hd' hq => hn (q ++ [(i, j)]) hd' (by simpa using hq)
  | row m lo hi ob ls hm hlen hl hh ih =>
    intro X u r _
    obtain ⟨g1, g2, g3⟩ := hK m ob hm
    obtain ⟨fl, wd, es⟩ := ob
    cases r with
    | e _ _ _ r => cases r with
      | row _ _ _ _ r => exact frzRow_core ok g1 g2 ⟨hlen, hl, fun i e l j x y h1 h2 h3 h4 => ih i e l j x y h1 h2 h3 h4⟩ r g3
  | pt n i off ob e ls hn hne he hlen hh ih =>
    intro X u r _
    obtain ⟨g1, g2, g3⟩ := hK n ob hn
    obtain ⟨fl, wd, es⟩ := ob
    cases r with
    | e _ _ _ r => exact frzPt_core ok g1 g2 hne he hlen (fun j x y h1 h2 => ih j x y h1 h2) r g3
theorem frzR_ok (ok : HeapOK h g φ) {O : Nat → Prop} (hO : ∀ b, O b → Own φ b) {K : Nat → Ob → Prop} (hK : ∀ m ob, K m ob → g m = some (some ob) ∧ ob.fl ≠ 4 ∧ ∀ q hd, φ (m, q) = some hd → ¬ O hd.b) {m lo hi fl wd : Nat} {es : List (List A)} (hn : g m = some (some ⟨fl, wd, es⟩)) (hf4 : fl ≠ 4) {ls : List (List L)} (hf : FrzR K ((es.take hi).drop lo) ls) {u : Value} (r : RefRow g φ m lo hi u) (hno : ∀ q hd, φ (m, q) = some hd → ¬ O hd.b) : RepL h O (.sl wd ls) u :=
  frzRow_core ok hn hf4 ⟨hf.1, hf.2.1, fun i e l j x y h1 h2 h3 h4 => frz_ok ok hO hK (hf.2.2 i e l j x y h1 h2 h3 h4)⟩ r hno
end
end Go.Proofs.YtchfpgpboifbeaaGreat.Ac
