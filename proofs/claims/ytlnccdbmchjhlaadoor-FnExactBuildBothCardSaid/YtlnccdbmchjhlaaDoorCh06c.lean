/- A node put among those that the program's builder holds, unless there is an equal one. Conditions: at most 200000 nodes; of a node at most 4000 edges, to places below a million. -/
import Derived.Test.YtlnccdbmchjhlaaDoorCh06a
import Derived.Test.YtlnccdbmchjhlaaDoorCh06b
import Derived.Test.YtlnccdbmchjhlaaDoorFlowM
namespace Go.Proofs.YtlnccdbmchjhlaaDoor
set_option linter.unusedVariables false
set_option linter.unusedSimpArgs false
open Go Go.RowKit
theorem strK6 : Maps.Keyed Tryd.prog 9 := Maps.string_keyed Tryd.underlying9
set_option maxRecDepth 100000 in
set_option maxHeartbeats 4000000 in
theorem node_any (B m mp : Nat) (A : Nat → Prop) (aq : Option Addr) (c : Nat) (L : List NdP) (f : Bool) (s : ByteArray) (a : Option Addr) (cc : Nat) (xs : List Int) (w : World)
    (hM : Mk w B m mp 55 [.map (some mp)] A aq c L) (hmp : mp ≠ m) (hS : MapOk mp w (ndsOf L)) (hL : L.length ≤ 200000) (hr : Rd w a (intsV xs))
    (hp : 0 < xs.length → ∀ q, a = some q → q.block < w.heap.size ∧ q.block ≠ m ∧ q.block ≠ mp ∧ ¬ A q.block ∧ blkA aq ≠ some q.block) (hK : KeyOk ⟨f, s, xs⟩) (hx : xs.length ≤ 4000) (hj : ∀ j ∈ xs, j < 1000000)
    (hA : ∀ b, A b → b < w.heap.size) (hB : B ≤ w.heap.size) (hT : TabF w) :
    Calls Tryd.prog 49 #[.pointer (some ⟨m, 0, none⟩), ndV f s a xs.length cc] w (MkE w B m mp 55 [.map (some mp)] A (MapOk mp) aq (putN (ndsOf L) ⟨f, s, xs⟩)) := by
  have HKO : Hid (∀ w', Ext w w' → Calls Tryd.prog 61 #[ndV f s a xs.length cc] w' (Ret (.string (keyV ⟨f, s, xs⟩)) w')) := hid (fun w' k => keyOf_any ⟨f, s, xs⟩ a cc w' (hr.ext k) hK hx hj (hT.ext k))
  have hvs := keyV_size (n := ⟨f, s, xs⟩) hx hK hj
  have HM : Hid (∀ w', Ext w w' → Mk w' B m mp 55 [.map (some mp)] A aq c L) := hid (fun w' k => hM.ext k)
  have HRD : Hid (∀ w', Ext w w' → Rd w' a (intsV xs)) := hid (fun w' k => hr.ext k)
  have HP := hid hp
  have HA := hid hA
  obtain ⟨n, D, hn, hown, hkm⟩ := hS
  have HOWN : Hid (∀ w', Ext w w' → w'.ownsMap Tryd.prog 9 (plainElem (H := Unit) Tryd.prog 2) mp n D) := hid (fun w' k => (Ch.of_ext (fun _ => False) k).map hown (by simp))
  obtain ⟨hhas, hat⟩ := hkm.2 ⟨f, s, xs⟩ hK
  have HPUT := hid (fun h => hkm.put (n := ⟨f, s, xs⟩) hK h)
  have HKM := hid hkm
  have HN : Hid (n ≤ L.length) := hid (by rw [ndsOf_length] at hn; exact hn)
  have HPN : Hid (putN (ndsOf L) ⟨f, s, xs⟩ = (if (ndsOf L).findIdx (fun x => eqNd x ⟨f, s, xs⟩) < L.length then ndsOf L else ndsOf L ++ [⟨f, s, xs⟩], (ndsOf L).findIdx (fun x => eqNd x ⟨f, s, xs⟩))) := hid (by unfold putN; rw [ndsOf_length])
  have hile : (ndsOf L).findIdx (fun x => eqNd x ⟨f, s, xs⟩) ≤ L.length := by
    have := List.findIdx_le_length (p := fun x => eqNd x ⟨f, s, xs⟩) (xs := ndsOf L)
    rwa [ndsOf_length] at this
  rw [ndsOf_length] at hhas hat HPUT
  obtain ⟨I, hI⟩ : ∃ I, (ndsOf L).findIdx (fun x => eqNd x ⟨f, s, xs⟩) = I := ⟨_, rfl⟩
  rw [hI] at hhas hat HPN hile HPUT
  obtain ⟨V, hV⟩ : ∃ V, keyV ⟨f, s, xs⟩ = V := ⟨_, rfl⟩
  rw [hV] at HKO hhas hat hvs HPUT
  obtain ⟨R, hR⟩ : ∃ R, putN (ndsOf L) ⟨f, s, xs⟩ = R := ⟨_, rfl⟩
  rw [hR] at HPN ⊢
  have c0 := hM.bx.cell (i := 0) rfl
  have c1 := hM.bx.cell (i := 1) rfl
  have hml := hM.bx.lt
  have HSH := hid hM.sh
  have HAQ := hid hM.aqm
  have hkey := WideMaps.keyOf_string_mk (P := Tryd.prog) (s := V) Tryd.underlying9 (by unfold maxLen; omega)
  have HAT := hid hat
  clear hI hV hR hM hr hp hA hown hkm hn hK hj hT hat
  by_cases hlt : I < L.length
  · have HHAS : Hid (Maps.has D (.string V.data.toList) = true) := hid (by rw [hhas]; exact decide_eq_true hlt)
    have HATI := hid (HAT.out hlt)
    rw [if_pos hlt] at HPN
    clear hhas HAT HPUT
    go_enter Tryd.func49, Tryd.ntmps49
    go_wp2_with fail
    with_reducible refine (HKO.out _ ((Ext.refl w).alloc _)).mono ?_
    rintro e w9 ⟨rfl, hx9⟩
    have hE := ((Ext.refl w).alloc (.cells #[.bool f, .string s, .slice a xs.length cc] 65)).trans hx9
    have b0 := hE.cell c0
    have b1 := hE.cell c1
    have HO9 := hid (HOWN.out _ hE)
    clear hx9 c0 c1
    go_wp2_with (at_lookup; refine wpList_lookup_own_ok_int _ rfl _ _ 53 rfl 9 2 .i64 strK6 Tryd.underlying53 Tryd.underlying2 (Tryd.zeroValue2 _) mp n D rfl HO9.out _ _ rfl hkey ?_; intro z hz hzw; rw [HHAS.out]; have HZ : Hid (z = (I : Int)) := hid (by have h := hz.symm.trans HATI.out; injection h with h; injection h); clear hz hzw)
    go_returns
    refine ⟨by rw [HPN.out, HZ.out]; rfl, aq, c, L, by rw [HPN.out], HM.out _ hE, ⟨n, D, by rw [ndsOf_length]; exact HN.out, HO9.out, HKM.out⟩, Mst.of_ext hE m mp aq⟩
  · obtain rfl : I = L.length := by omega
    have HHAS : Hid (Maps.has D (.string V.data.toList) = false) := hid (by rw [hhas]; exact decide_eq_false hlt)
    have HPU := hid (HPUT.out hlt)
    rw [if_neg hlt] at HPN
    clear hhas HAT HPUT hlt hile
    go_enter Tryd.func49, Tryd.ntmps49
    go_wp2_with fail
    with_reducible refine (HKO.out _ ((Ext.refl w).alloc _)).mono ?_
    rintro e w9 ⟨rfl, hx9⟩
    have d0 := hx9.cell (b := w.heap.size) (o := 0) (v := .bool f) (by simp)
    have d1 := hx9.cell (b := w.heap.size) (o := 1) (v := .string s) (by simp)
    have d2 := hx9.cell (b := w.heap.size) (o := 2) (v := .slice a xs.length cc) (by simp)
    have hE := ((Ext.refl w).alloc (.cells #[.bool f, .string s, .slice a xs.length cc] 65)).trans hx9
    have b0 := hE.cell c0
    have b1 := hE.cell c1
    have HO9 := hid (HOWN.out _ hE)
    clear hx9 c0 c1
    go_wp2_with (at_lookup; refine wpList_lookup_own_ok_int _ rfl _ _ 53 rfl 9 2 .i64 strK6 Tryd.underlying53 Tryd.underlying2 (Tryd.zeroValue2 _) mp n D rfl HO9.out _ _ rfl hkey ?_; intro z hz hzw; rw [HHAS.out]; clear hz hzw)
    have HM9 := hid (HM.out _ hE)
    have HNR := hid HM9.out.nrow.1
    have hnb : ¬ blkA aq = some w.heap.size := fun q => by
      cases aq with
      | none => simp [blkA] at q
      | some p =>
        have := (HAQ.out p rfl).1
        have e2 : p.block = w.heap.size := by simpa [blkA] using q
        omega
    have HNB := hid hnb
    have hs9 := hE.size
    have HE9 := hid hE
    have HEX := hid (fun (w' : World) (k : Ext w9.drew w') => HM.out _ (hE.drew.trans k))
    clear hnb hE
    refine wp_region_flagM_at 8 7 (Ch (fun b => blkA aq = some b)) (Ch (fun b => blkA aq = some b)) (fun fl => [fun v _ => v = .pointer (some ⟨m, 0, none⟩), fun v _ => v = .pointer (some ⟨m, 0, none⟩), fun v _ => v = .pointer (some ⟨m, 0, none⟩), fun v _ => v = .pointer (some ⟨m, 0, none⟩), fun v _ => v = .slice aq L.length c, fun v _ => v = .agg #[.bool f, .string s, .slice a xs.length cc], fun v w' => fl = false → ∃ g, v = .slice (some ⟨g, 0, none⟩) 1 1 ∧ Rd w' (some ⟨g, 0, none⟩) [.bool f, .string s, .slice a xs.length cc], fun v w' => fl = true ∧ ∃ g' c', v = .slice (some ⟨g', 0, none⟩) (L.length + 1) c' ∧ Own w' B 65 3 (some ⟨g', 0, none⟩) (L.length + 1) c' (ndsV L ++ [.bool f, .string s, .slice a xs.length cc]) ∧ (blkA aq = some g' ∨ w9.heap.size ≤ g')])
      [[(0, none)], [(0, none)], [(27, some 1)], [(28, some 2)], [(29, some 3)], [(3, none)], [(31, some 5)], [(30, some 4), (32, some 6)]] (by kernel_rfl) (by kernel_rfl) rfl (by omega) (fun x h => Ch.of_ext _ h) (fun x y h k => h.thenExt k) (fun x y h k => (Ch.of_ext _ h).trans k) ?_ ?_ ?_ ?_
    · intro fl i hi
      obtain rfl | rfl | rfl | rfl | rfl | rfl | rfl | rfl : i = 0 ∨ i = 1 ∨ i = 2 ∨ i = 3 ∨ i = 4 ∨ i = 5 ∨ i = 6 ∨ i = 7 := by omega
      · exact fun _ _ _ h _ => h
      · exact fun _ _ _ h _ => h
      · exact fun _ _ _ h _ => h
      · exact fun _ _ _ h _ => h
      · exact fun _ _ _ h _ => h
      · exact fun _ _ _ h _ => h
      · exact fun v x y h k hf => by obtain ⟨g, e1, e2⟩ := h hf; exact ⟨g, e1, e2.ext k⟩
      · exact fun v x y h k => by obtain ⟨hf, g', c', e1, o1, s1⟩ := h; exact ⟨hf, g', c', e1, o1.ext k, s1⟩
    · intro i hi hiM
      obtain rfl | rfl | rfl | rfl | rfl | rfl | rfl | rfl : i = 0 ∨ i = 1 ∨ i = 2 ∨ i = 3 ∨ i = 4 ∨ i = 5 ∨ i = 6 ∨ i = 7 := by omega
      · exact fun _ _ _ _ h _ => h
      · exact fun _ _ _ _ h _ => h
      · exact fun _ _ _ _ h _ => h
      · exact fun _ _ _ _ h _ => h
      · exact fun _ _ _ _ h _ => h
      · exact fun _ _ _ _ h _ => h
      · exact fun v x y _ _ _ hf => by cases hf
      · exact absurd rfl hiM
    · refine ⟨?_, ?_, ?_, ?_, ?_, ?_, ?_, ?_, trivial⟩
      · rw [if_neg (by decide)]
        rintro fl ρ w1 hw hcst hfn hk
        clear hw
        simp only [known, List.getD_cons_zero, List.getD_cons_succ, Nat.reduceAdd] at hk
        simp only [List.getD_cons_zero, List.getD_cons_succ, Nat.reduceAdd, flowAt]
        go_simp
        exact ⟨Ext.refl _, by first | rfl | trivial⟩
      · rw [if_neg (by decide)]
        rintro fl ρ w1 hw hcst hfn hk
        clear hw
        simp only [known, List.getD_cons_zero, List.getD_cons_succ, Nat.reduceAdd] at hk
        simp only [List.getD_cons_zero, List.getD_cons_succ, Nat.reduceAdd, flowAt]
        go_simp
        exact ⟨Ext.refl _, by first | rfl | trivial⟩
      · rw [if_neg (by decide)]
        rintro fl ρ w1 hw hcst hfn hk
        clear hw
        simp only [known, List.getD_cons_zero, List.getD_cons_succ, Nat.reduceAdd] at hk
        simp only [List.getD_cons_zero, List.getD_cons_succ, Nat.reduceAdd, flowAt]
        go_simp
        exact ⟨Ext.refl _, by first | rfl | trivial⟩
      · rw [if_neg (by decide)]
        rintro fl ρ w1 hw hcst hfn hk
        clear hw
        simp only [known, List.getD_cons_zero, List.getD_cons_succ, Nat.reduceAdd] at hk
        simp only [List.getD_cons_zero, List.getD_cons_succ, Nat.reduceAdd, flowAt]
        go_simp
        exact ⟨Ext.refl _, by first | rfl | trivial⟩
      · rw [if_neg (by decide)]
        rintro fl ρ w1 hw hcst hfn hk
        have c0 := hw.cell (b := m) (o := 0) (v := .slice aq L.length c) (by first | (simp [*]; done) | (simp [*, go_sem]; done) | go_cell) (by first | exact HNR.out | exact HNB.out)
        clear hw
        simp only [known, List.getD_cons_zero, List.getD_cons_succ, Nat.reduceAdd] at hk
        simp only [List.getD_cons_zero, List.getD_cons_succ, Nat.reduceAdd, flowAt]
        go_simp
        exact ⟨Ext.refl _, by first | rfl | trivial⟩
      · rw [if_neg (by decide)]
        rintro fl ρ w1 hw hcst hfn hk
        have c0 := hw.cell (b := w.heap.size) (o := 0) (v := .bool f) (by first | (simp [*]; done) | (simp [*, go_sem]; done) | go_cell) (by first | exact HNR.out | exact HNB.out)
        have c1 := hw.cell (b := w.heap.size) (o := 1) (v := .string s) (by first | (simp [*]; done) | (simp [*, go_sem]; done) | go_cell) (by first | exact HNR.out | exact HNB.out)
        have c2 := hw.cell (b := w.heap.size) (o := 2) (v := .slice a xs.length cc) (by first | (simp [*]; done) | (simp [*, go_sem]; done) | go_cell) (by first | exact HNR.out | exact HNB.out)
        clear hw
        simp only [known, List.getD_cons_zero, List.getD_cons_succ, Nat.reduceAdd] at hk
        simp only [List.getD_cons_zero, List.getD_cons_succ, Nat.reduceAdd, flowAt]
        go_simp
        exact ⟨Ext.refl _, by first | rfl | trivial⟩
      · rw [if_neg (by decide)]
        rintro fl ρ w1 hw hcst hfn hk
        simp only [known, List.getD_cons_zero, List.getD_cons_succ, Nat.reduceAdd] at hk
        simp only [List.getD_cons_zero, List.getD_cons_succ, Nat.reduceAdd, flowAt]
        go_simp
        exact ⟨(Ext.refl _).alloc _, fun _ => ⟨w1.heap.size, rfl, rd_of_new rfl [.bool f, .string s, .slice a xs.length cc] _⟩⟩
      · rw [if_pos (by decide)]
        rintro ρ w1 hw hcst hfn hk
        simp only [known, List.getD_cons_zero, List.getD_cons_succ, Nat.reduceAdd] at hk
        simp only [List.getD_cons_zero, List.getD_cons_succ, Nat.reduceAdd]
        (obtain ⟨g, e1, e2⟩ := hk.2.1 (by trivial); exact invAt_appendO (.tmp 30) (.tmp 32) 26 rfl El_nd hk.1 e1 [.bool f, .string s, .slice a xs.length cc] e2 rfl (by omega) (by simp [Value.oneCell']) (HEX.out _ hw).own HSH.out (by have := hw.size; have h0 : w9.drew.heap.size = w9.heap.size := rfl; omega) (by unfold maxLen; omega) (by omega) (fun g' c' w' ho hc hs => ⟨hc, by trivial, g', c', rfl, ho, hs.imp id (fun q => Nat.le_trans hw.size q)⟩))
    intro vs w1 hw hf
    simp only [flowFacts, Nat.reduceAdd] at hf
    obtain ⟨e0, e1, e2, e3, e4, e5, e6, e7, -⟩ := hf
    simp only [List.take_succ_cons, List.take_zero, List.drop_succ_cons, List.drop_zero, putAll, Act.put, Nat.reduceAdd, List.setIfInBounds_toArray, List.set_cons_zero, List.set_cons_succ, e0, e1, e2, e3, e4, e5, e6]
    clear e0 e1 e2 e3 e4 e5 e6
    obtain ⟨-, g8, c8, hg8, ho8, hs8⟩ := e7
    rw [hg8]
    have hc8 : Ch (fun b => blkA aq = some b) w9 w1 := (Ch.of_ext _ (Ext.refl w9).drew).trans hw
    have HO8 := hid ho8
    have HC8 := hid hc8
    have HS8 := hid hs8
    have hb8 := HM9.out.bx.ch hc8 HNR.out
    have e0 := hb8.cell (i := 0) rfl
    have e1 := hb8.cell (i := 1) rfl
    have ef := hb8.free 0
    have HOm8 := hid ((Ch.set _ m 0 (.slice (some ⟨g8, 0, none⟩) (L.length + 1) c8)).map (hc8.map HO9.out HM9.out.nrow.2) hmp)
    have HPS := hid (HM9.out.push (w1 := w1) ⟨⟨f, s, xs⟩, a, cc⟩ (HRD.out _ HE9.out) (fun h1 q h2 => by
      obtain ⟨k1, k2⟩ := HP.out h1 q h2
      exact ⟨by omega, k2⟩) (fun b hb => by have := HA.out b hb; omega) ho8 hc8 hs8)
    clear ho8 hc8 hs8 hb8 hw hg8 b0 b1 d0 d1 d2 HSH HM HEX HNR HNB HO9 HO8 HC8 HS8
    go_wp2_with (at_mapUpdate; refine wpList_mapUpdate_own _ rfl _ _ _ 53 rfl 9 2 strK6 Tryd.underlying53 (plainElem (H := Unit) Tryd.prog 2) mp n D rfl HOm8.out (by unfold maxLen; have := HN.out; omega) _ _ _ rfl rfl hkey _ [] (plainElem_int Tryd.underlying2 (wfN L.length (by omega))) ?_; intro w7 hown7 hgrow7; have HO7 := hid hown7; have HG7 := hid hgrow7; clear hown7 hgrow7)
    go_returns
    have hc7 : Ch (fun b => b = mp) (w1.setCell ⟨m, 0, none⟩ (.slice (some ⟨g8, 0, none⟩) (L.length + 1) c8)) w7 := (Ch.grown HG7.out).mono (fun b _ q => by simpa using q.symm)
    refine ⟨by rw [HPN.out]; rfl, some ⟨g8, 0, none⟩, c8, L ++ [⟨⟨f, s, xs⟩, a, cc⟩], by rw [HPN.out]; simp [ndsOf], HPS.out.1.chMp hc7 hmp, ⟨n + 1, _, by rw [ndsOf_length]; simp; exact HN.out, HO7.out, ?_⟩, (Mst.of_ext HE9.out m mp aq).trans (HPS.out.2.trans ⟨hc7.mono (fun b _ q => .inr (.inl q)), fun b h => .inl h⟩)⟩
    have := HPU.out
    simpa [ndsOf] using this
end Go.Proofs.YtlnccdbmchjhlaaDoor
