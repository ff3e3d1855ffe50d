/- LadderBetween, by the program. Conditions: at most 2^20 words, each of at most 2^20 bytes. -/
import Derived.Test.YtaigabenlccdaaaLad2
import Derived.Test.YtaigabenlccdaaaAppS
import Derived.Test.YtaigabenlccdaaaCh05e
import Derived.Maps.OwnOps
import Derived.Maps.StringElems
namespace Go.Proofs.Ytaigabenlccdaaa
set_option linter.unusedVariables false
set_option linter.unusedSimpArgs false
open Go Go.RowKit Go.Sort
theorem wpList_lookup_own_str {P : Program} (w : World) {ops : Array Oper} {rest : List Oper} {o : Oper} {a : Act} {Q : Exit → Act → World → Prop}
    (hg : o.guard = none) (m x : Operand) (t : TypeId) (hop : o.op = Op.lookup t m x false)
    (k e : TypeId) (K : Maps.Keyed P k) (ht : P.underlying t = some (.map k e)) (he : P.underlying e = some .string) (hz : (zeroValue e).run P w = .ok (.string ⟨#[]⟩) w) (b n : Nat) (D : DataW Unit)
    (hm : a.eval m = .map (some b)) (hown : w.ownsMap P k (plainElem P e) b n D) (key : Value) (kl : Lit) (hx : a.eval x = key) (hkey : keyOf P k key = some kl)
    (s : ByteArray) (hat : D.atKey kl (.lit (.string [])) = .lit (.string s.data.toList))
    (hK : wpList P ops Q rest (a.put o.dst (.string s)) w) :
    wpList P ops Q (o :: rest) a w := by
  refine wpList_plain hg fun K' hK' => ?_
  obtain ⟨v, ps, hrun, hv⟩ := hown.lookup K ht hz (plainElem_string he (by decide)) hkey
  obtain ⟨c, rfl, hc, _⟩ := plainElem_string_inv he hv
  simp only [Prod.mk.injEq] at hc
  have e1 := hat.symm.trans hc.1
  have e2 : s = c := by
    injection e1 with e1
    injection e1 with e1
    exact ByteArray.ext (Array.toList_inj.1 e1)
  subst e2
  unfold Oper.wp
  simp [execOp, hop, hm, hx, hrun, Result.andThen]
  exact hK' _ _ hK
theorem ownsMap_below {w w' : World} {B b n : Nat} {P : Program} {k : TypeId} {R : Value → Option (DataW Unit × List MemPlace)} {D : DataW Unit} (h : w.ownsMap P k R b n D) (hx : Below B w w') (hb : b < B) : w'.ownsMap P k R b n D := by
  obtain ⟨es, clock, hh, F, hs, hD⟩ := h
  exact ⟨es, clock, by rw [hx.block b hb]; exact hh, F, hs, hD⟩
theorem wAt_map (l : List ByteArray) (L : List Nat) (k i : Nat) (h : L[k]? = some i) : wAt (L.map (wAt l)) k = wAt l i := by
  show (L.map (wAt l)).getD k ⟨#[]⟩ = wAt l i
  rw [List.getD_eq_getElem?_getD, List.getElem?_map, h]
  rfl
theorem lvl_zero {l : List ByteArray} {b : Nat} (hb : b < l.length) : (lvl l b 0).Perm [b] := by
  rw [List.perm_ext_iff_of_nodup (lvl_nodup l b 0) (by simp)]
  intro j
  rw [mem_lvl, List.mem_singleton]
  constructor
  · rintro ⟨_, h⟩
    unfold lad at h
    split at h
    · assumption
    · simp at h
  · rintro rfl
    exact ⟨hb, by simp [lad]⟩
theorem pmap_start {l : List ByteArray} {b : Nat} (hi : incB l = true) (hb : b < l.length) : PMap ((DataW.map []).put (.string (wAt l b).data.toList) (.lit (.string (⟨#[]⟩ : ByteArray).data.toList))) l (stK l b 0 []) (stV l b 0) := by
  refine ((PMap.nil l).put hi hb ⟨#[]⟩).congr (fun j _ => ?_) (fun j _ hk => ?_)
  · unfold stK lad
    by_cases e : j = b <;> simp [e]
  · have e : j = b := by
      unfold stK lad at hk
      by_cases e : j = b
      · exact e
      · simp [e] at hk
    subst e
    simp [stV, ladV, lad]
/-- The word at hand, when t words are out. -/
def ladN (l : List ByteArray) (b ia E t : Nat) : ByteArray := if t ≤ E then wAt l (pn l b ia t) else ⟨#[]⟩
def lenV : Value → Nat
  | .slice _ n _ => n
  | _ => 0
theorem ne_empty {s : ByteArray} (h : 0 < s.size) : s.toList.isEmpty = false ∧ ¬ s.toList = [] ∧ (s.toList == []) = false ∧ (s.toList != []) = true := by
  have : s.toList ≠ [] := by
    intro e
    have h1 := Go.Lib.toList_data s
    rw [e] at h1
    have h2 : s.data.toList.length = s.size := by simp
    rw [← h1] at h2
    simp at h2
    omega
  exact ⟨by cases hs : s.toList; exact absurd hs this; rfl, this, by simpa using this, by simpa using this⟩
theorem lexOk_long {l : List ByteArray} (h : lexOk l = true) {i : Nat} (hi : i < l.length) : 0 < (wAt l i).size := by
  unfold lexOk at h
  simp only [Bool.and_eq_true] at h
  have h1 := List.all_eq_true.1 h.2.2 _ (wAt_mem l i hi)
  unfold longOk at h1
  simp only [Bool.and_eq_true, decide_eq_true_eq] at h1
  omega
theorem law_strK : Maps.Keyed Try.prog 9 := Maps.string_keyed Try.underlying9
set_option maxRecDepth 100000 in
set_option maxHeartbeats 8000000 in
theorem LadderBetween_any (a : Option Addr) (c : Nat) (l : List ByteArray) (x y : ByteArray) (w : World) (h : Rd w a (strsV l)) (hl : l.length ≤ 1048576) (hs : ∀ s ∈ l, s.size ≤ 1048576) (hx : x.size ≤ 1048576) (hy : y.size ≤ 1048576) :
    Calls Try.prog 8 #[lexV a l.length c, .string x, .string y] w (RetW (ladL l x y) (ladC l x y) w) := by
  have HR : Hid (∀ w', Ext w w' → Rd w' a (strsV l)) := hid (fun w' k => h.ext k)
  have HV := hid (fun w' (k : Ext w w') => ValidLexicon_any a c l w' (h.ext k) hl hs)
  have HC : Hid (ladC l x y = if lexOk l then if hasL l x && hasL l y then if ladI l x y < 0 then 6 else 0 else 3 else 1) := hid rfl
  have HX : Hid (ladL l x y = if ladC l x y = 0 then ladW l x y ((ladI l x y).toNat + 1) else []) := hid rfl
  cases hk : lexOk l
  · rw [hk] at HV HC
    have HC1 : Hid (ladC l x y = 1) := hid HC.out
    have HX1 : Hid (ladL l x y = []) := hid (by rw [HX.out, HC1.out]; rfl)
    clear hk h
    go_enter Try.func8, Try.ntmps8
    go_wp2_with fail
    refine (HV.out _ ((Ext.refl w).alloc _)).mono ?_
    rintro e w1 ⟨rfl, hx1⟩
    have hE := ((Ext.refl w).alloc _).trans hx1
    clear hx1
    go_wp2_with fail
    go_returns
    exact ⟨none, 0, by rw [HX1.out, HC1.out]; rfl, by rw [HX1.out]; exact .inl rfl, hE⟩
  have HA := hid (fun z w' (k : Ext w w') => has_any a c l z w' (h.ext k) hl (lexOk_inc hk))
  cases hxa : hasL l x
  · rw [hk] at HV HC
    rw [hxa] at HC
    have HC1 : Hid (ladC l x y = 3) := hid HC.out
    have HX1 : Hid (ladL l x y = []) := hid (by rw [HX.out, HC1.out]; rfl)
    have HA1 := hid (HA.out x)
    rw [hxa] at HA1
    clear hk hxa h
    go_enter Try.func8, Try.ntmps8
    go_wp2_with fail
    refine (HV.out _ ((Ext.refl w).alloc _)).mono ?_
    rintro e w1 ⟨rfl, hx1⟩
    have b0 := hx1.cell (b := w.heap.size) (o := 0) (v := .slice a l.length c) (by simp)
    have hE := ((Ext.refl w).alloc (.cells #[.slice a l.length c] 28)).trans hx1
    clear hx1
    go_wp2_with fail
    refine (HA1.out _ hE).mono ?_
    rintro e w2 ⟨rfl, hx2⟩
    replace hE := hE.trans hx2
    clear hx2
    go_wp2_with fail
    go_returns
    exact ⟨none, 0, by rw [HX1.out, HC1.out]; rfl, by rw [HX1.out]; exact .inl rfl, hE⟩
  cases hyb : hasL l y
  · rw [hk] at HV HC
    rw [hxa, hyb] at HC
    have HC1 : Hid (ladC l x y = 3) := hid HC.out
    have HX1 : Hid (ladL l x y = []) := hid (by rw [HX.out, HC1.out]; rfl)
    have HA1 := hid (HA.out x)
    rw [hxa] at HA1
    have HA2 := hid (HA.out y)
    rw [hyb] at HA2
    clear hk hxa hyb h
    go_enter Try.func8, Try.ntmps8
    go_wp2_with fail
    refine (HV.out _ ((Ext.refl w).alloc _)).mono ?_
    rintro e w1 ⟨rfl, hx1⟩
    have b0 := hx1.cell (b := w.heap.size) (o := 0) (v := .slice a l.length c) (by simp)
    have hE := ((Ext.refl w).alloc (.cells #[.slice a l.length c] 28)).trans hx1
    clear hx1
    go_wp2_with fail
    with_reducible refine (HA1.out _ hE).mono ?_
    rintro e w2 ⟨rfl, hx2⟩
    replace hE := hE.trans hx2
    replace b0 := hx2.cell b0
    clear hx2
    go_wp2_with fail
    with_reducible refine (HA2.out _ hE).mono ?_
    rintro e w3 ⟨rfl, hx3⟩
    replace hE := hE.trans hx3
    clear hx3
    go_wp2_with fail
    go_returns
    exact ⟨none, 0, by rw [HX1.out, HC1.out]; rfl, by rw [HX1.out]; exact .inl rfl, hE⟩
  · rw [hk] at HV HC
    rw [hxa, hyb] at HC
    have HA1 := hid (HA.out x)
    rw [hxa] at HA1
    have HA2 := hid (HA.out y)
    rw [hyb] at HA2
    have hl2 := lexOk_200 hk
    have hinc := lexOk_inc hk
    obtain ⟨hia, hwa⟩ := hasL_at hxa
    obtain ⟨hib, hwb⟩ := hasL_at hyb
    have HC2 : Hid (ladC l x y = if ladI l x y < 0 then 6 else 0) := hid HC.out
    have HLI : Hid (ladI l x y = far l (posL l y) (posL l x)) := hid rfl
    have HLW : Hid (∀ m, ladW l x y (m + 1) = ladW l x y m ++ [wAt l (pn l (posL l y) (posL l x) m)]) := hid (ladW_succ l x y)
    have HPN := hid (fun E hE => pn_at (l := l) (b := posL l y) (ia := posL l x) (E := E) hia hE)
    have HPN1 : Hid (∀ t, pn l (posL l y) (posL l x) (t + 1) = par l (posL l y) (far l (posL l y) (pn l (posL l y) (posL l x) t)) (pn l (posL l y) (posL l x) t)) := hid (fun t => rfl)
    have HPN0 : Hid (pn l (posL l y) (posL l x) 0 = posL l x) := hid rfl
    have HFL := hid (far_le l (posL l y))
    have HLNG := hid (ladW_length l x y)
    have HW0 : Hid (ladW l x y 0 = []) := hid (by simp [ladW])
    have HLG := hid (fun i hi => @lexOk_long l hk i hi)
    have HZ : Hid (∀ i, i < l.length → (wAt l i).size ≤ 1048576) := hid (fun i hi => hs _ (wAt_mem l i hi))
    have HCH := hid (fun i k w (hi : i < l.length) (hk : k < l.length) => changed_any (wAt l i) (wAt l k) w (hs _ (wAt_mem l i hi)) (hs _ (wAt_mem l k hk)))
    have HNR : Hid (∀ i k, nearB (wAt l i) (wAt l k) = nr l i k) := hid (fun i k => rfl)
    obtain ⟨ia, hia'⟩ : ∃ ia, posL l x = ia := ⟨_, rfl⟩
    obtain ⟨ib, hib'⟩ : ∃ ib, posL l y = ib := ⟨_, rfl⟩
    rw [hia'] at hia HLI HLW HPN HPN1 HPN0 hwa
    rw [hib'] at hib HLI HLW HPN HPN1 HPN0 HFL hwb
    have HWA := hid hwa
    have HWB := hid hwb
    have HINC := hid hinc
    have HPS := hid (pmap_start hinc hib)
    rw [hwb] at HPS
    have HL0 : Hid ([y].Perm ((lvl l ib 0).map (wAt l))) := hid (by
      have := (lvl_zero hib).map (wAt l)
      rw [List.map_cons, List.map_nil, hwb] at this
      exact this.symm)
    have HU0 := hid (unk_zero hib)
    have HRISE := hid (fun d => lvl_rise (Rise.of_inc hinc) ib d)
    have HMEM := hid (fun d i => @mem_lvl l ib d i)
    clear hk hxa hyb hwa hwb hia' hib' HC h hs hinc
    have hmm := @run_makeMap Try.prog
    go_enter Try.func8, Try.ntmps8
    go_wp2_with fail
    refine (HV.out _ ((Ext.refl w).alloc _)).mono ?_
    rintro e w1 ⟨rfl, hx1⟩
    have b0 := hx1.cell (b := w.heap.size) (o := 0) (v := .slice a l.length c) (by simp)
    have hE := ((Ext.refl w).alloc (.cells #[.slice a l.length c] 28)).trans hx1
    clear hx1
    go_wp2_with fail
    with_reducible refine (HA1.out _ hE).mono ?_
    rintro e w2 ⟨rfl, hx2⟩
    replace hE := hE.trans hx2
    replace b0 := hx2.cell b0
    clear hx2
    go_wp2_with fail
    with_reducible refine (HA2.out _ hE).mono ?_
    rintro e wX ⟨rfl, hx3⟩
    replace hE := hE.trans hx3
    replace b0 := hx3.cell b0
    have HEX := hid hE
    have HB0 := hid (fun w' (k : Ext wX w') => k.cell b0)
    clear hx3 hE b0 HV HA1 HA2 HA
    have hkey0 := WideMaps.keyOf_string_mk (P := Try.prog) (s := y) Try.underlying9 (by unfold maxLen; omega)
    have HOM : Hid ((wX.alloc (.map #[] 0)).ownsMap Try.prog 9 (plainElem (H := Unit) Try.prog 9) wX.heap.size 0 (.map [])) := hid (World.ownsMap_made wX Try.prog 9 _)
    obtain ⟨w3, hrun3, hown3, hgrow3⟩ := HOM.out.update (val := .string ⟨#[]⟩) law_strK Try.underlying55 (by unfold maxLen; omega) hkey0 (plainElem_string Try.underlying9 (s := ⟨#[]⟩) (by decide))
    have hext3 : Ext wX w3 := ((Ext.refl wX).alloc (.map #[] 0)).grownBy hgrow3 (fun j hj => by cases hj; exact Nat.le_refl _)
    have hsz3 := hgrow3.size
    rw [World.size_alloc] at hsz3
    have HM3 := hid hown3
    have HE3 := hid hext3
    have HQ0 : Hid (Own ((w3.alloc (.cells #[.string y] 9)).alloc (.cells #[] 9)) w3.heap.size 9 1 (some ⟨w3.heap.size, 0, none⟩) 1 1 (strsV [y])) := hid (Own.ext (.inr ⟨rfl, .inr ⟨w3.heap.size, 1, #[.string y], rfl, Nat.le_refl _, heap_alloc_new w3 _, by omega, by decide, rfl, rfl⟩⟩) ((Ext.refl _).alloc _))
    have HM0 := hid ((HM3.out.alloc (.cells #[.string y] 9)).alloc (.cells #[] 9))
    have HE0 := hid ((HE3.out.alloc (.cells #[.string y] 9)).alloc (.cells #[] 9))
    clear hown3 hgrow3 hext3 HOM HM3 HE3
    go_wp2_with fail
    clear hrun3 hkey0
    go_loopg [9, 10] (l.length + 1) (fun m s9 s10 wr => ∃ (d N nq cq Bq g ml cg : Nat) (D : DataW Unit) (aq : Option Addr) (Lq : List ByteArray) (xs : List Value), s9 = .slice aq nq cq ∧ s10 = .slice (some ⟨g, 0, none⟩) ml cg ∧ Hid (Lq.Perm ((lvl l ib d).map (wAt l))) ∧ Hid (nq = Lq.length) ∧ Hid (Own wr Bq 9 1 aq nq cq (strsV Lq)) ∧ Hid (0 < nq → ∀ q, aq = some ⟨q, 0, none⟩ → q ≠ g) ∧ (cg = 0 ∨ g < Bq) ∧ wX.heap.size < Bq ∧ Bq ≤ wr.heap.size ∧
      Hid (Own wr (wX.heap.size + 1) 9 1 (some ⟨g, 0, none⟩) ml cg xs) ∧ wX.heap.size < g ∧ g < wr.heap.size ∧ Hid (wr.ownsMap Try.prog 9 (plainElem (H := Unit) Try.prog 9) wX.heap.size N D) ∧ Hid (PMap D l (stK l ib d []) (stV l ib d)) ∧ Hid (N + unk l ib d ≤ l.length) ∧ Hid (Ext wX wr) ∧ Hid (unk l ib d + (if lvl l ib d = [] then 0 else 1) ≤ m))
    case atStart =>
      refine ⟨0, 0 + 1, 1, 1, w3.heap.size, w3.heap.size + 1, 0, 0, _, some ⟨w3.heap.size, 0, none⟩, [y], [], rfl, by simp, HL0, hid rfl, HQ0, hid (fun _ q hq => by cases hq; omega), .inl rfl, by omega, by simp only [World.size_alloc]; omega, hid (Own.empty _ _ _ _ _), by omega, by simp only [World.size_alloc]; omega, HM0, HPS, hid (by have := HU0.out; omega), HE0, hid ?_⟩
      have := HU0.out
      split <;> omega
    case round =>
      clear HQ0 HM0 HE0 HPS HL0 HU0
      obtain ⟨d, N, nq, cq, Bq, g, ml, cg, D, aq, Lq, xs, rfl, rfl, HPERM, HNQ, HQ, HNE, hcg, hBq1, hBq2, HL, hg1, hg2, HM, HPM, HN, HX1, HMS⟩ := hrel
      by_cases hq : 0 < nq
      · obtain ⟨q, rfl, hqB, hqs, -, -⟩ := HQ.out.form hq
        have hqg := HNE.out hq q rfl
        have hql : nq ≤ l.length := by
          have h1 := HPERM.out.length_eq
          have h2 : (lvl l ib d).length ≤ l.length := by
            have := List.length_filter_le (fun i => decide (lad l ib d i = d)) (List.range l.length)
            rw [List.length_range] at this
            exact this
          rw [List.length_map] at h1
          have := HNQ.out
          omega
        have HSRT := hid (sortW_rise HPERM.out (HRISE.out d))
        have HLQ : Hid ((lvl l ib d).length = nq) := hid (by rw [HNQ.out, HPERM.out.length_eq, List.length_map])
        have HSO := hid (SortS_any (some ⟨q, 0, none⟩) cq Bq Lq wr (by have := HQ.out; rw [HNQ.out] at this; exact this) hBq2 (by have := HNQ.out; omega) (fun _ => ⟨q, rfl, hqB, hqs⟩))
        rw [← HNQ.out, HSRT.out] at HSO
        have hml : ml ≤ cg := HL.out.le
        clear HPERM HNQ HNE HSRT
        go_wp2_with fail
        with_reducible refine HSO.out.mono ?_
        rintro e w5 ⟨rfl, ho5, hb5⟩
        have HQ5 := hid ho5.rd
        have HL5 := hid ((HL.out.belowR hb5 hcg).cut)
        have HM5 := hid (ownsMap_below HM.out hb5 hBq1)
        have HX5 := hid (HX1.out.thenBelow hb5 (by omega))
        have hsz5 := hb5.size
        have hq5 : q < w5.heap.size := by omega
        have hg5 : g < w5.heap.size := by omega
        clear ho5 hb5 HSO HQ HL HM HX1
        go_wp2_with fail
        go_loopw [10, 51] (fun lv qi wq => ∃ (qq N g cg : Nat) (D : DataW Unit) (T : List Nat), qi = .int .i64 (qq : Int) ∧ qq ≤ nq ∧ lv = .slice (some ⟨g, 0, none⟩) T.length cg ∧ Hid (Own wq (wX.heap.size + 1) 9 1 (some ⟨g, 0, none⟩) T.length cg (strsV (T.map (wAt l)))) ∧ wX.heap.size < g ∧ g < wq.heap.size ∧ q ≠ g ∧ q < wq.heap.size ∧ Hid (Rd wq (some ⟨q, 0, none⟩) (strsV ((lvl l ib d).map (wAt l)))) ∧
          Hid (wq.ownsMap Try.prog 9 (plainElem (H := Unit) Try.prog 9) wX.heap.size N D) ∧ Hid (PMap D l (stK l ib d T) (stV l ib d)) ∧ Hid (N + unk l ib d ≤ l.length + T.length) ∧ Hid (Prog l ib d qq 0 T) ∧ Hid (Ext wX wq)) (fun _ qi _ => nq - (intOf qi).toNat)
        case atStart => exact ⟨0, N, g, cg, D, [], rfl, by omega, rfl, HL5, hg1, hg5, hqg, hq5, HQ5, HM5, HPM, hid (by simpa using HN.out), hid (Prog.zero l ib d), HX5⟩
        case round =>
          clear HL5 hg5 hq5 HQ5 HM5 HPM HX5 hsz5 hg1 hg2 hqg HN hml hcg
          obtain ⟨qq, N, g, cg, D, T, rfl, hqq, rfl, HL, hg1, hg2, hqg, hqs2, HQ, HM, HPM, HN, HPR, HX1⟩ := hrel
          by_cases hqlt : qq < nq
          · obtain ⟨i, hi⟩ : ∃ i, (lvl l ib d)[qq]? = some i := ⟨_, List.getElem?_eq_getElem (by rw [HLQ.out]; exact hqlt)⟩
            have hil : i < l.length := ((HMEM.out d i).1 (List.mem_of_getElem? hi)).1
            have HI := hid hi
            obtain ⟨b9, o9, he9, hcw⟩ := HQ.out.word (by rw [List.length_map, HLQ.out]; omega)
            simp only [Option.some.injEq, Addr.mk.injEq, and_true] at he9
            obtain ⟨rfl, rfl⟩ := he9
            have hcq := hcw qq (by rw [List.length_map, HLQ.out]; exact hqlt)
            rw [wAt_map l _ _ _ hi, Nat.zero_add] at hcq
            have hb0 := HB0.out _ HX1.out
            have hzi := HZ.out i hil
            have HCHi := hid (fun k w hk => HCH.out i k w hil hk)
            obtain ⟨s1, hs1⟩ : ∃ s, wAt l i = s := ⟨_, rfl⟩
            rw [hs1] at hcq hzi HCHi
            have HS1 := hid hs1
            clear hcw hi hs1
            go_wp2_with fail
            go_loopw [10, 58] (fun lv ki wq => ∃ (k N g cg : Nat) (D : DataW Unit) (T : List Nat), ki = .int .i64 (k : Int) ∧ k ≤ l.length ∧ lv = .slice (some ⟨g, 0, none⟩) T.length cg ∧ Hid (Own wq (wX.heap.size + 1) 9 1 (some ⟨g, 0, none⟩) T.length cg (strsV (T.map (wAt l)))) ∧ wX.heap.size < g ∧ g < wq.heap.size ∧ q ≠ g ∧ q < wq.heap.size ∧ Hid (Rd wq (some ⟨q, 0, none⟩) (strsV ((lvl l ib d).map (wAt l)))) ∧
              Hid (wq.ownsMap Try.prog 9 (plainElem (H := Unit) Try.prog 9) wX.heap.size N D) ∧ Hid (PMap D l (stK l ib d T) (stV l ib d)) ∧ Hid (N + unk l ib d ≤ l.length + T.length) ∧ Hid (Prog l ib d qq k T) ∧ Hid (Ext wX wq)) (fun _ ki _ => l.length - (intOf ki).toNat)
            case atStart => exact ⟨0, N, g, cg, D, T, rfl, by omega, rfl, HL, hg1, hg2, hqg, hqs2, HQ, HM, HPM, HN, HPR, HX1⟩
            case round =>
              clear HL hg1 hg2 hqg hqs2 HQ HM HPM HN HPR HX1 hb0 hcq
              obtain ⟨k, N, g, cg, D, T, rfl, hk, rfl, HL, hg1, hg2, hqg, hqs2, HQ, HM, HPM, HN, HPR, HX1⟩ := hrel
              by_cases hkl : k < l.length
              · obtain ⟨b, o, rfl, hc⟩ := (HR.out _ (HEX.out.trans HX1.out)).word (by omega)
                have c0 := hc k hkl
                have hz2 := HZ.out k hkl
                have HCk := hid (fun w => HCHi.out k w hkl)
                have hNR := HNR.out i k
                rw [HS1.out] at hNR
                obtain ⟨hhas, -⟩ := HPM.out.2 k hkl
                have HPUT := hid (HPM.out.put HINC.out hkl s1)
                have hTl := HPR.out.len
                have HYES := hid (fun h1 h2 => HPR.out.yes HI.out hkl h1 h2)
                have HNO := hid (fun h => HPR.out.no HI.out h)
                have HPAR := hid (fun h1 h2 => HPR.out.par HI.out hkl h1 h2)
                rw [HS1.out] at HPAR
                obtain ⟨s2, hs2⟩ : ∃ s, wAt l k = s := ⟨_, rfl⟩
                rw [hs2] at c0 hz2 HCk hNR hhas HPUT
                rw [hNR] at HCk
                have HS2 := hid hs2
                obtain ⟨KB, hKB⟩ : ∃ B, stK l ib d T k = B := ⟨_, rfl⟩
                rw [hKB] at hhas HYES HNO HPAR
                have HKB := hid hKB
                obtain ⟨NB, hNB⟩ : ∃ B, nr l i k = B := ⟨_, rfl⟩
                rw [hNB] at HCk HYES HNO HPAR
                obtain ⟨p0, hp0⟩ : ∃ p, o + k = p := ⟨_, rfl⟩
                rw [hp0] at c0
                have hkey := WideMaps.keyOf_string_mk (P := Try.prog) (s := s2) Try.underlying9 (by unfold maxLen; omega)
                have HHAS := hid hhas
                have hN400 : N ≤ 400 := by have := HN.out; omega
                clear hc hs2 hKB hNB hNR hhas
                cases KB
                · go_wp2_with (at_lookup; refine wpList_lookup_own_ok _ rfl _ _ 55 rfl 9 9 law_strK Try.underlying55 (plainElem (H := Unit) Try.prog 9) (Try.zeroValue9 _) (.lit (.string [])) [] (plainElem_string Try.underlying9 (s := ⟨#[]⟩) (by decide)) wX.heap.size N D rfl HM.out _ _ rfl hkey ?_; intro vv pv hvv; rw [HHAS.out]; clear hvv)
                  refine (HCk.out _).mono ?_
                  rintro e w6 ⟨rfl, hD⟩
                  have hx6 := hD.ext
                  have HL6 := hid (HL.out.ext hx6)
                  have HQ6 := hid (HQ.out.ext hx6)
                  have HM6 := hid (HM.out.kept hx6.grown (by simp))
                  have HX6 := hid (HX1.out.trans hx6)
                  have hs6 := hx6.size
                  have hg6 : g < w6.heap.size := by omega
                  have hq6 : q < w6.heap.size := by omega
                  clear hD hx6 HL HQ HM HX1 c0
                  cases NB
                  · have HP2 := hid (HNO.out (.inr rfl))
                    go_wp2_with fail
                    go_roundw
                    case rel => exact ⟨k + 1, N, g, cg, D, T, by go_num, by omega, rfl, HL6, hg1, hg6, hqg, hq6, HQ6, HM6, HPM, HN, HP2, HX6⟩
                    case measure => simp [intOf]; omega
                  · have HP2 := hid (HYES.out (by first | rfl | trivial) (by first | rfl | trivial))
                    have HPV := hid (HPAR.out (by first | rfl | trivial) (by first | rfl | trivial))
                    have HPM2 : Hid (PMap (D.put (.string s2.data.toList) (.lit (.string s1.data.toList))) l (stK l ib d (T ++ [k])) (stV l ib d)) := hid (HPUT.out.congr (fun j _ => by
                      unfold stK
                      by_cases e : j = k
                      · simp [e]
                      · simp [e]) (fun j _ _ => by
                      show (if j = k then s1 else stV l ib d j) = stV l ib d j
                      by_cases e : j = k
                      · rw [if_pos e, e, HPV.out]
                      · rw [if_neg e]))
                    have HN2 : Hid (N + 1 + unk l ib d ≤ l.length + (T ++ [k]).length) := hid (by have := HN.out; simp; omega)
                    clear HPUT HYES HNO HPAR HPM HN
                    go_wp2_with (first
                      | (at_mapUpdate; refine wpList_mapUpdate_own _ rfl _ _ _ 55 rfl 9 9 law_strK Try.underlying55 (plainElem (H := Unit) Try.prog 9) wX.heap.size N _ rfl HM6.out (by unfold maxLen; omega) _ _ _ rfl rfl hkey _ [] (plainElem_string Try.underlying9 (s := s1) (by unfold maxLen; omega)) ?_; intro w7 hown7 hgrow7; have HM7 := hid hown7; have HG7 := hid hgrow7; have HL7 := hid (HL6.out.grownBy hgrow7 (by simp; omega)); have hs7 := hgrow7.size; clear hown7 hgrow7)
                      | (at_builtin; refine wpList_pushS rfl _ _ 22 rfl El_str rfl [_] rfl rfl (by simp [Value.oneCell']) HL7.out (by omega) (by unfold maxLen; omega) (by omega) ?_; intro g8 c8 w8 hown8 hgrow8 hsep8; have HO8 := hid hown8; have HG8 := hid hgrow8; clear hown8 hgrow8))
                    obtain ⟨g9, hg9, -, hg9s, -, -⟩ := HO8.out.form (by omega)
                    simp only [Option.some.injEq, Addr.mk.injEq, and_true] at hg9
                    obtain rfl := hg9
                    have hs8 := HG8.out.size
                    have HL8 : Hid (Own w8 (wX.heap.size + 1) 9 1 (some ⟨g8, 0, none⟩) (T ++ [k]).length c8 (strsV ((T ++ [k]).map (wAt l)))) := hid (by
                      rw [List.map_append, List.map_cons, List.map_nil, HS2.out, strsV_append, List.length_append]
                      exact HO8.out)
                    have HQ8 := hid ((HQ6.out.grownBy HG7.out hq6 (by simp; omega)).grownBy HG8.out (by omega) (by simpa using hqg))
                    have HM8 := hid (HM7.out.kept HG8.out (by simp; omega))
                    have HX8 := hid ((HX6.out.grownBy HG7.out (fun j hj => by cases hj; exact Nat.le_refl _)).grownBy HG8.out (fun j hj => by cases hj; omega))
                    have hqq8 : q ≠ g8 := by rcases hsep8 with h | h <;> omega
                    have hgg8 : wX.heap.size < g8 := by rcases hsep8 with h | h <;> omega
                    clear HO8 HG7 HG8 HM6 HM7 HL6 HL7 HQ6 HX6 hsep8
                    go_roundw
                    case rel => exact ⟨k + 1, N + 1, g8, c8, _, T ++ [k], by go_num, by omega, by simp, HL8, hgg8, hg9s, hqq8, by omega, HQ8, HM8, HPM2, HN2, HP2, HX8⟩
                    case measure => simp [intOf]; omega
                · have HP2 := hid (HNO.out (.inl rfl))
                  go_wp2_with (at_lookup; refine wpList_lookup_own_ok _ rfl _ _ 55 rfl 9 9 law_strK Try.underlying55 (plainElem (H := Unit) Try.prog 9) (Try.zeroValue9 _) (.lit (.string [])) [] (plainElem_string Try.underlying9 (s := ⟨#[]⟩) (by decide)) wX.heap.size N D rfl HM.out _ _ rfl hkey ?_; intro vv pv hvv; rw [HHAS.out]; clear hvv)
                  go_roundw
                  case rel => exact ⟨k + 1, N, g, cg, D, T, by go_num, by omega, rfl, HL, hg1, hg2, hqg, hqs2, HQ, HM, HPM, HN, HP2, HX1⟩
                  case measure => simp [intOf]; omega
              · obtain rfl : k = l.length := by omega
                have HP2 := hid (HPR.out.next (by rw [HLQ.out]; exact hqlt))
                go_wp2_with fail
                go_roundw
                case rel => exact ⟨qq + 1, N, g, cg, D, T, by go_num, by omega, rfl, HL, hg1, hg2, hqg, hqs2, HQ, HM, HPM, HN, HP2, HX1⟩
                case measure => simp [intOf]; omega
          · obtain rfl : qq = nq := by omega
            have hPF : Prog l ib d (lvl l ib d).length 0 T := by rw [HLQ.out]; exact HPR.out
            have HPF := hid hPF.perm
            have HPM2 : Hid (PMap D l (stK l ib (d + 1) []) (stV l ib (d + 1))) := hid (HPM.out.congr (fun j hj => hPF.known hj) (fun j _ hK => (stV_next (by unfold stK at hK; simpa using hK)).symm))
            have HTL : Hid (T.length = (lvl l ib (d + 1)).length) := hid hPF.perm.length_eq
            have HUS := hid (unk_succ l ib d)
            have HN2 : Hid (N + unk l ib (d + 1) ≤ l.length) := hid (by have := HN.out; have := HTL.out; have := HUS.out; omega)
            have HTN := HPR.out.len
            have HCL := hid (Clone_any (some ⟨g, 0, none⟩) cg (T.map (wAt l)) wr HL.out.rd (by rw [List.length_map]; omega))
            rw [List.length_map] at HCL
            have HMS2 : Hid (unk l ib (d + 1) + (if lvl l ib (d + 1) = [] then 0 else 1) < gk) := hid (by
              have h1 := HMS.out
              have h2 := HUS.out
              have h3 : lvl l ib d ≠ [] := fun e => by have := HLQ.out; rw [e] at this; simp at this; omega
              rw [if_neg h3] at h1
              split
              · omega
              · rename_i hne
                have : 0 < (lvl l ib (d + 1)).length := List.length_pos_iff.2 hne
                omega)
            clear hPF HPM HN HPR HMS
            go_wp2_with fail
            refine HCL.out.mono ?_
            rintro e w9 ⟨a9, c9, rfl, ho9, hx9⟩
            have HO9 := hid ho9
            have HL9 := hid (HL.out.ext hx9)
            have HM9 := hid (HM.out.kept hx9.grown (by simp))
            have HX9 := hid (HX1.out.trans hx9)
            have hs9 := hx9.size
            have hg9 : g < w9.heap.size := by omega
            have HNE9 : Hid (0 < T.length → ∀ q, a9 = some ⟨q, 0, none⟩ → q ≠ g) := hid (fun h q hq => by
              obtain ⟨q', e', hq1, _⟩ := HO9.out.form h
              rw [hq] at e'
              simp only [Option.some.injEq, Addr.mk.injEq, and_true] at e'
              omega)
            clear ho9 hx9 HL HM HX1 HCL
            go_wp2_with fail
            go_roundg (unk l ib (d + 1) + (if lvl l ib (d + 1) = [] then 0 else 1))
            case measure => exact HMS2.out
            case rel => exact ⟨d + 1, N, T.length, c9, wr.heap.size, g, T.length, cg, D, a9, T.map (wAt l), strsV (T.map (wAt l)), rfl, rfl, hid (HPF.out.map _), hid (by simp), HO9, HNE9, .inr hg2, by omega, hs9, HL9, hg1, hg9, HM9, HPM2, HN2, HX9, hid (Nat.le_refl _)⟩
      · obtain rfl : nq = 0 := by omega
        have hlv : lvl l ib d = [] := by
          have h1 := HPERM.out.length_eq
          rw [← HNQ.out, List.length_map] at h1
          exact List.eq_nil_of_length_eq_zero h1.symm
        have HFAR := hid (fun k => far_of_stop hib hlv k)
        have hhas := (HPM.out.2 ia hia).1
        rw [HWA.out] at hhas
        unfold stK at hhas
        rw [HFAR.out, ← HLI.out] at hhas
        have hkeyx := WideMaps.keyOf_string_mk (P := Try.prog) (s := x) Try.underlying9 (by unfold maxLen; omega)
        have hm1 : wX.heap.size < wr.heap.size := by omega
        have HXw := hid (HEX.out.trans HX1.out)
        have hszw := HXw.out.size
        clear HPERM HNQ HQ HNE HL hlv HMS HN hg1 hg2 hcg hBq1 hBq2
        by_cases hneg : ladI l x y < 0
        · have HC1 : Hid (ladC l x y = 6) := hid (by rw [HC2.out, if_pos hneg])
          have HX2 : Hid (ladL l x y = []) := hid (by rw [HX.out, HC1.out]; rfl)
          have HHAS : Hid (Maps.has D (.string x.data.toList) = false) := hid (by rw [hhas, decide_eq_false (by omega)]; rfl)
          clear hhas hneg
          go_wp2_with (at_lookup; refine wpList_lookup_own_ok _ rfl _ _ 55 rfl 9 9 law_strK Try.underlying55 (plainElem (H := Unit) Try.prog 9) (Try.zeroValue9 _) (.lit (.string [])) [] (plainElem_string Try.underlying9 (s := ⟨#[]⟩) (by decide)) wX.heap.size N D rfl HM.out _ _ rfl hkeyx ?_; intro vv pv hvv; rw [HHAS.out]; clear hvv)
          go_returns
          exact ⟨none, 0, by rw [HX2.out, HC1.out]; rfl, by rw [HX2.out]; exact .inl rfl, HXw.out⟩
        · obtain ⟨E, hEE⟩ : ∃ E : Nat, ladI l x y = (E : Int) := ⟨(ladI l x y).toNat, by omega⟩
          have HC1 : Hid (ladC l x y = 0) := hid (by rw [HC2.out, if_neg hneg])
          have HX2 : Hid (ladL l x y = ladW l x y (E + 1)) := hid (by rw [HX.out, HC1.out, if_pos rfl, hEE]; rfl)
          have HHAS : Hid (Maps.has D (.string x.data.toList) = true) := hid (by rw [hhas, decide_eq_true (by omega)]; rfl)
          rw [HLI.out] at hEE
          have HPA := hid (HPN.out E hEE)
          have hE200 : E ≤ l.length := by have := HFL.out ia; omega
          have HAT : Hid (∀ t, t ≤ E → D.atKey (.string (wAt l (pn l ib ia t)).data.toList) (.lit (.string [])) = .lit (.string (ladN l ib ia E (t + 1)).data.toList)) := hid (fun t ht => by
            obtain ⟨p1, p2⟩ := HPA.out t ht
            have h1 := (HPM.out.2 _ p1).2 (by unfold stK; rw [HFAR.out, p2, decide_eq_true (Int.natCast_nonneg _)]; rfl)
            rw [h1]
            congr 4
            have hv : stV l ib d (pn l ib ia t) = ladV l ib ((E - t : Nat) : Int) (pn l ib ia t) := by unfold stV; rw [HFAR.out, p2, if_pos (Int.natCast_nonneg _)]
            rw [hv]
            unfold ladV ladN
            by_cases e : t = E
            · rw [if_pos (by omega), if_neg (by omega)]
            · rw [if_neg (by omega), if_pos (by omega), HPN1.out, p2])
          have HD1 : Hid (∀ t, t ≤ E → ladN l ib ia E t = wAt l (pn l ib ia t)) := hid (fun t ht => by unfold ladN; rw [if_pos ht])
          have HD2 : Hid (ladN l ib ia E (E + 1) = ⟨#[]⟩) := hid (by unfold ladN; rw [if_neg (by omega)])
          have HD0 : Hid (ladN l ib ia E 0 = x) := hid (by rw [HD1.out 0 (by omega), HPN0.out, HWA.out])
          have HM2 := hid (HM.out.alloc (.cells #[] 9))
          clear hhas hneg hEE HPM HFAR
          go_wp2_with (at_lookup; refine wpList_lookup_own_ok _ rfl _ _ 55 rfl 9 9 law_strK Try.underlying55 (plainElem (H := Unit) Try.prog 9) (Try.zeroValue9 _) (.lit (.string [])) [] (plainElem_string Try.underlying9 (s := ⟨#[]⟩) (by decide)) wX.heap.size N D rfl HM.out _ _ rfl hkeyx ?_; intro vv pv hvv; rw [HHAS.out]; clear hvv)
          go_loopw [19, 20] (fun v wd wq => ∃ (t cap : Nat) (a' : Option Addr), t ≤ E + 1 ∧ v = .slice a' t cap ∧ wd = .string (ladN l ib ia E t) ∧ Hid (Own wq (wr.heap.size + 1) 9 1 a' t cap (strsV (ladW l x y t))) ∧ Hid (wq.ownsMap Try.prog 9 (plainElem (H := Unit) Try.prog 9) wX.heap.size N D) ∧ Hid (Ext wr wq) ∧ wr.heap.size + 1 ≤ wq.heap.size) (fun v _ _ => E + 1 - lenV v)
          case atStart => exact ⟨0, 0, some ⟨wr.heap.size, 0, none⟩, by omega, rfl, by rw [HD0.out], hid (by rw [HW0.out]; exact Own.empty _ _ _ _ _), HM2, hid ((Ext.refl wr).alloc _), by simp⟩
          case round =>
            clear HM HM2
            obtain ⟨t, cap, a', ht, rfl, rfl, HOW, HM, HXr, hsr⟩ := hrel
            by_cases hte : t ≤ E
            · obtain ⟨p1, -⟩ := HPA.out t hte
              have hsp := HLG.out _ p1
              have hsz := HZ.out _ p1
              have hat := HAT.out t hte
              have hwl := HLW.out t
              rw [← HD1.out t hte] at hsp hsz hat hwl
              obtain ⟨s, hs⟩ : ∃ s, ladN l ib ia E t = s := ⟨_, rfl⟩
              obtain ⟨s', hs'⟩ : ∃ s, ladN l ib ia E (t + 1) = s := ⟨_, rfl⟩
              rw [hs] at hsp hsz hat hwl ⊢
              rw [hs'] at hat
              have HS' := hid hs'
              have HATK := hid hat
              have HWL := hid hwl
              obtain ⟨e1, e2, e3, e4⟩ := ne_empty hsp
              have hkey := WideMaps.keyOf_string_mk (P := Try.prog) (s := s) Try.underlying9 (by unfold maxLen; omega)
              have hown := HOW.out
              clear hs hs' hat hwl HOW
              go_wp2_with (first
                | (at_builtin; refine wpList_push rfl _ _ 22 rfl El_str rfl [_] rfl rfl (by simp [Value.oneCell']) hown (by omega) (by unfold maxLen; omega) (by omega) ?_; intro a2 c2 w8 hown2 hbl2; have HO8 := hid hown2; have HM8 := hid (ownsMap_below HM.out hbl2 (by omega)); have HX8 := hid (HXr.out.thenBelow hbl2 (by omega)); have hs8 := hbl2.size; clear hown2 hbl2)
                | (at_lookup; refine wpList_lookup_own_str _ rfl _ _ 55 rfl 9 9 law_strK Try.underlying55 Try.underlying9 (Try.zeroValue9 _) wX.heap.size N D rfl HM8.out _ _ rfl hkey s' HATK.out ?_))
              go_roundw
              case rel => exact ⟨t + 1, c2, a2, by omega, rfl, by rw [HS'.out], hid (by rw [HWL.out, strsV_append]; exact HO8.out), HM8, HX8, by omega⟩
              case measure => simp [lenV]; omega
            · obtain rfl : t = E + 1 := by omega
              rw [HD2.out]
              go_wp2_with fail
              go_returns
              exact ⟨a', cap, by rw [HX2.out, HC1.out, HLNG.out]; rfl, by rw [HX2.out]; exact HOW.out.ownR.mono (by omega), HXw.out.trans HXr.out⟩
end Go.Proofs.Ytaigabenlccdaaa
