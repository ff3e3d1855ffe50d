/- The forms of all words, sorted, by the program. Conditions: a valid lexicon. -/
import Derived.Test.YtabljchbchjjcaaGreatDoorMg19
import Derived.Test.YtabljchbchjjcaaGreatDoorDwF
import Derived.Maps.OwnIn
namespace Go.Proofs.YtabljchbchjjcaaGreatDoor
set_option linter.unusedVariables false
set_option linter.unusedSimpArgs false
open Go Go.RowKit Go.Shelf Go.Sort
attribute [local go_sem] Oper.semAt_some
/-- A block stays as it is. -/
structure KpB (Bn : Nat) (W W' : World) : Prop where
  size : W.heap.size ≤ W'.heap.size
  same : Bn < W.heap.size → W'.heap[Bn]? = W.heap[Bn]?
theorem KpB.trans {Bn : Nat} {A B C : World} (h : KpB Bn A B) (k : KpB Bn B C) : KpB Bn A C := ⟨Nat.le_trans h.size k.size, fun hb => (k.same (Nat.lt_of_lt_of_le hb h.size)).trans (h.same hb)⟩
theorem KpB.cell {Bn : Nat} {W W' : World} (h : KpB Bn W W') {v : Value} (hv : W.cell? ⟨Bn, 0, none⟩ = some v) : W'.cell? ⟨Bn, 0, none⟩ = some v := by
  have := h.same (World.block_lt_of_cell? _ _ hv)
  simpa only [World.cell?, this] using hv
theorem KpB.put {Bn : Nat} {w : World} (hn : Bn < w.heap.size) (W : World) (l : Nat) (o o' : Obj) (hl : w.heap.size ≤ l) (h : W.heap[l]? = some o) (_ : o.isCells = false) (_ : o.isWalk = false) : KpB Bn W (W.putObj l o') := by
  have hg := grownBy_putObj' W l o'
  exact ⟨hg.size, fun hb => hg.block Bn hb (by intro e; cases e; omega)⟩
set_option maxRecDepth 100000 in
set_option maxHeartbeats 2000000 in
theorem forms2_in (n : Nat) (hn : 1 ≤ n) (l Bn n₀ B : Nat) (x : ByteArray) (hx : x.size ≤ 1048576) (hBn : Bn < n₀) (J Jx : List ByteArray → World → Prop) (hJ : AbidesFrom B J)
    (hY : ∀ pre s W, J pre W → pre.length < x.size → YieldAt Fence.wide (n - 1) Tryz.prog l #[.string s] W fun e W' =>
      (e = .returned (.bool true) ∧ J (pre ++ [s]) W' ∧ KpB Bn W W') ∨ (e = .returned (.bool false) ∧ Jx (pre ++ [s]) W'))
    (W : World) (hn₀ : n₀ ≤ W.heap.size) (hb : W.cell? ⟨Bn, 0, none⟩ = some (.string x)) (h0 : J [] W) :
    CallsIn Fence.wide n Tryz.prog 87 #[.func (.yield l) #[] #[], .pointer (some ⟨Bn, 0, none⟩)] W fun e W' => (∃ v, e = .returned v) ∧
      ((∃ ys, ys = formL x x.size ∧ J ys W') ∨ (∃ pre, Jx pre W')) := by
  have HFS := hid (formL_succ x)
  have HFM := hid (formS_mid x)
  have HFL := hid (formS_last x)
  have HAL := hid (extract_all x)
  have HLE := hid (formL_length x)
  have HRV : Hid (∀ k w', Calls Tryz.prog 36 #[.string (x.extract 0 k)] w' (Ret (.string (revS (x.extract 0 k))) w')) := hid (fun k w' => reversed_any _ _ (by rw [ByteArray.size_extract]; omega))
  have HY := hid hY
  have HJ := hid (fun (s : List ByteArray) (W W' : World) (h : J s W) (hx : Ext W W') => abides_ext hJ h hx)
  clear hY hJ
  refine callsIn_of_wp Tryz.func87 rfl trivial ?_ rfl
  simp only [Tryz.ntmps87, List.size_toArray, List.length_cons, List.length_nil, Nat.reduceAdd, Nat.reduceSub, Array.replicate_succ, Array.replicate_zero, List.push_toArray, List.append_toArray, List.nil_append, List.cons_append]
  gi_wp2
  gi_loopw [3] (fun i wr => ∃ k j : Nat, k + 1 = j ∧ k ≤ x.size ∧ i = .int .i64 (j : Int) ∧ wr.cell? ⟨Bn, 0, none⟩ = some (.string x) ∧ n₀ ≤ wr.heap.size ∧ Hid (J (formL x k) wr)) (fun i _ => x.size + 1 - (intOf i).toNat)
  case atStart => exact ⟨0, 1, rfl, by omega, rfl, hb, hn₀, hid h0⟩
  case round =>
    clear hb h0 hn₀
    obtain ⟨k, j, hkj, hk, rfl, hb, hn₀, hJs⟩ := hrel
    by_cases hlt : j ≤ x.size
    · have HR := hid (fun w' => HRV.out j w')
      have HL := hid (show (formL x k).length < x.size by rw [HLE.out]; omega)
      have HS := hid (HFS.out k)
      rw [hkj] at HS
      obtain ⟨R, hR⟩ : ∃ R, revS (x.extract 0 j) = R := ⟨_, rfl⟩
      have sR : R.size = j := by rw [← hR, revS_size, ByteArray.size_extract]; omega
      rw [hR] at HR
      obtain ⟨A, hA⟩ : ∃ A, x.extract 0 j = A := ⟨_, rfl⟩
      rw [hA] at HR
      have HRE := hid hR
      clear hR
      have hk1 : 1 ≤ n := hn
      by_cases he : j = x.size
      · have HR := hid (fun w' => reversed_any x w' hx)
        have HRx : Hid (revS x = R) := hid (by rw [← HRE.out, he, HAL.out])
        rw [HRx.out] at HR
        have HF : Hid (formS x j = R) := hid (by rw [he, HFL.out, HRx.out])
        rw [HF.out] at HS
        clear HRE hA
        gi_wp2
        refine And.intro ?_ ?_
        exact trivial
        gi_at_call 36
        refine (callsIn_wide.2 (HR.out _)).mono ?_
        rintro e w2 ⟨rfl, hx2⟩
        have hb2 := hx2.cell hb
        have hJ2 := hid (HJ.out _ _ _ hJs.out hx2)
        obtain ⟨fn, tmps, assign, body, hy, hRR⟩ := HY.out (formL x k) R w2 hJ2.out HL.out
        have hz2 := hx2.size
        gi_wp2
        refine hRR.mono ?_
        rintro e W3 (⟨rfl, hJ3, hk3⟩ | ⟨rfl, hJx3⟩)
        · have hb3 := hk3.cell hb2
          have hz3 := hk3.size
          have HJ3 := hid hJ3
          gi_wp2
          go_roundw
          case rel => exact ⟨k + 1, j + 1, by omega, by omega, by go_num, hb3, by omega, hid (by rw [hkj, HS.out]; exact HJ3.out)⟩
          case measure => simp [intOf]; omega
        · gi_wp2
          refine bodyPost_ret (results_none rfl _ _ _) rfl ?_
          exact ⟨⟨_, rfl⟩, .inr ⟨_, hJx3⟩⟩
      · have HF : Hid (formS x j = R ++ (⟨#[62]⟩ ++ x.extract j x.size)) := hid (by rw [HFM.out j he, HRE.out])
        obtain ⟨E, hE⟩ : ∃ E, x.extract j x.size = E := ⟨_, rfl⟩
        have sE : E.size ≤ 1048576 := by rw [← hE, ByteArray.size_extract]; omega
        rw [hE] at HF
        rw [HF.out] at HS
        have hnl : (j : Int) < (x.size : Int) := by omega
        have hle : (j : Int) ≤ (x.size : Int) := by omega
        gi_wp2
        refine And.intro ?_ ?_
        exact trivial
        gi_at_call 36
        refine (callsIn_wide.2 (HR.out _)).mono ?_
        rintro e w2 ⟨rfl, hx2⟩
        have hb2 := hx2.cell hb
        have hJ2 := hid (HJ.out _ _ _ hJs.out hx2)
        obtain ⟨fn, tmps, assign, body, hy, hRR⟩ := HY.out (formL x k) (R ++ (⟨#[62]⟩ ++ E)) w2 hJ2.out HL.out
        have hz2 := hx2.size
        gi_wp2
        refine hRR.mono ?_
        rintro e W3 (⟨rfl, hJ3, hk3⟩ | ⟨rfl, hJx3⟩)
        · have hb3 := hk3.cell hb2
          have hz3 := hk3.size
          have HJ3 := hid hJ3
          gi_wp2
          go_roundw
          case rel => exact ⟨k + 1, j + 1, by omega, by omega, by go_num, hb3, by omega, hid (by rw [hkj, HS.out]; exact HJ3.out)⟩
          case measure => simp [intOf]; omega
        · gi_wp2
          refine bodyPost_ret (results_none rfl _ _ _) rfl ?_
          exact ⟨⟨_, rfl⟩, .inr ⟨_, hJx3⟩⟩
    · obtain rfl : k = x.size := by omega
      gi_wp2
      go_end0
      exact ⟨⟨_, rfl⟩, .inl ⟨_, rfl, hJs.out⟩⟩
theorem formsSeq2 (n : Nat) (hn : 1 ≤ n) (Bn n₀ : Nat) (x : ByteArray) (hx : x.size ≤ 1048576) (hBn : Bn < n₀) (w : World) (hn₀ : n₀ ≤ w.heap.size) (hb : w.cell? ⟨Bn, 0, none⟩ = some (.string x)) :
    SeqStopsK Fence.wide n Tryz.prog 87 #[.pointer (some ⟨Bn, 0, none⟩)] (fun s : ByteArray => #[Value.string s]) (KpB Bn) (fun ys => ys = formL x x.size) (fun _ => True) x.size w := fun l J Jx W hW hJ _ hY h0 =>
  (forms2_in n hn l Bn n₀ _ x hx hBn J Jx hJ hY W (Nat.le_trans hn₀ hW.size) ((hW.cell (p := ⟨Bn, 0, none⟩) (by show Bn < w.heap.size; omega)).trans hb) h0).mono fun e W' ⟨h1, h2⟩ => ⟨h1, h2.imp id fun ⟨pre, h⟩ => ⟨pre, trivial, h⟩⟩
/-- slices.Sort, with the one block that it turns. -/
theorem SortS_ch (g c : Nat) (l : List ByteArray) (w : World) (h : World.ownsRow w 0 9 1 (.slice (some ⟨g, 0, none⟩) l.length c) l.length (strsV l)) (B : Nat) (hB : B ≤ g) (hl : l.length ≤ 1048576) :
    Calls Tryz.prog 37 #[.slice (some ⟨g, 0, none⟩) l.length c] w fun e w' => e = .returned (.tuple #[]) ∧ w'.ownsRow B 9 1 (.slice (some ⟨g, 0, none⟩) l.length c) l.length (strsV (sortW l)) ∧ Ch (fun b => b = g) w w' := by
  have hr : (rawL l).length = l.length := by simp [rawL]
  rcases h.2 with ⟨hv, n0⟩ | ⟨g', cap, cur, hv, hbase, hb, h1, h2, h3, h4⟩
  · cases hv
  · simp only [Value.slice.injEq, Option.some.injEq, Addr.mk.injEq, and_true, true_and] at hv
    obtain ⟨rfl, rfl⟩ := hv
    have hH : Holds encStr w g 0 (rawL l).toArray := holds_of_block hb (by rw [rawL_enc, hr]; simpa using h4)
    have hc := Any.slices_Sort_string Tryz.laysH190 g 0 c (rawL l) w hH (Array.getElem?_eq_some_iff.1 hb).1 (by omega)
    rw [hr] at hc
    refine hc.mono ?_
    rintro e w' ⟨rfl, n, os, rfl⟩
    refine ⟨rfl, ?_, (Ch.grown (grownBy_sorted _)).mono (fun b _ e => by simpa using e.symm)⟩
    have := ownsRow_sorted (n := n) (os := os) (ss := rawL l) (ts := (rawL l).mergeSort fun x y => decide (x ≤ y)) (List.length_mergeSort _) hB hb (by rw [hr]; exact h1) h2 (by simpa using h3)
    rw [hr, ← sortW_enc] at this
    exact this
theorem own_lt {w : World} {B : Nat} {e : TypeId} {size : Nat} {v : Value} {n : Nat} {xs : List Value} (h : w.ownsRow B e size v n xs) {b : Nat} (hb : v.ownBlock = some b) : b < w.heap.size := by
  rcases h.2 with ⟨rfl, _⟩ | ⟨g, cap, cur, rfl, _, hg, _⟩
  · simp [Value.ownBlock] at hb
  · obtain rfl : g = b := by simpa [Value.ownBlock] using hb
    exact (Array.getElem?_eq_some_iff.1 hg).1
/-- Marks of loops that have ended are taken off. -/
theorem leaves_marks {F : Fence} {n : Nat} {P : Program} {fn : Func} {tmps : Array Value} {R : Ending → World → Prop} : ∀ (Ds : List Nat) (W : World), Ds.Nodup → (∀ D ∈ Ds, W.heap[D]? = some (.deferred (some []))) → (∀ W', Ch (fun b => b ∈ Ds) W W' → LeavesInM F n P fn tmps R [] .returning W') →
    LeavesInM F n P fn tmps R (Ds.map fun D => ({ target := .collected D, args := #[] } : Deferred)) .returning W
  | [], W, _, _, k => k W (Ch.refl _ _)
  | D :: Ds, W, hn, h, k => by
    rw [List.nodup_cons] at hn
    have hg := grownBy_putObj' W D (.deferred none)
    refine ⟨by simp, .inl ⟨D, W.putObj D (.deferred none), rfl, run_takeDeferred (h D (by simp)), leaves_marks Ds _ hn.2 (fun E hE => ?_) (fun W' hc => k W' ?_)⟩⟩
    · have hne : E ≠ D := fun e => hn.1 (e ▸ hE)
      have h0 := h E (List.mem_cons_of_mem _ hE)
      exact (hg.block E (Array.getElem?_eq_some_iff.1 h0).1 (by intro e; cases e; exact hne rfl)).trans h0
    · exact ((Ch.grown hg).mono (fun b _ e => by simp only [Option.some.injEq] at e; subst e; simp)).next hc (fun b _ e => List.mem_cons_of_mem _ e)
theorem infoStr2 : (Tryz.prog.info? 9).map (fun i => (i.zero, i.size, i.bytes)) = some (some (.string ⟨#[]⟩), 1, 16) := by kernel_rfl
set_option maxRecDepth 100000 in
set_option maxHeartbeats 4000000 in
theorem allForms_any (a : Option Addr) (c : Nat) (l : List ByteArray) (w : World) (h : Rd w a (strsV l)) (hl : l.length ≤ 200) (hs : ∀ s ∈ l, s.size ≤ 12) :
    Calls Tryz.prog 40 #[lexV a l.length c] w fun e w' => ∃ a' c', e = .returned (.slice a' (srtF l).length c') ∧ (srtF l).length ≤ c' ∧ Rd w' a' (strsV (srtF l)) ∧ Ext w w' := by
  refine (callsIn_wide (n := 6)).1 ?_
  refine callsIn_of_wp_marks Tryz.func40 rfl trivial ?_ rfl
  simp only [Tryz.ntmps40, List.size_toArray, List.length_cons, List.length_nil, Nat.reduceAdd, Nat.reduceSub, Array.replicate_succ, Array.replicate_zero, List.push_toArray, List.append_toArray, List.nil_append, List.cons_append]
  obtain ⟨i0, hi, hz0, hz1, hz2⟩ := info_parts infoStr2
  have HSZ : Hid (∀ i, i < l.length → (wAt l i).size ≤ 12) := hid (fun i hi => hs _ (wAt_mem l i hi))
  have HLN : Hid (∀ i, (allF (l.take i)).length ≤ 2400) := hid (fun i => by
    have := allF_len (b := 12) (l := l.take i) (fun s hh => hs s (List.mem_of_mem_take hh))
    have h2 : (l.take i).length ≤ 200 := by rw [List.length_take]; omega
    omega)
  have HTK := hid (fun i h => @allF_take l i h)
  have HTA : Hid (l.take l.length = l) := hid (List.take_length)
  have HR := hid (fun (w' : World) (k : Ext w w') => h.ext k)
  have HFL := hid formL_length
  clear hs h
  gi_wp2
  obtain ⟨W0, hW0⟩ : ∃ W, (((w.alloc (.cells #[.slice a l.length c] 26)).alloc (.cells #[] 9)).alloc (.cells #[.slice (some ⟨w.heap.size + 1, 0, none⟩) 0 0] 24)) = W := ⟨_, rfl⟩
  have hb0 : Below w.heap.size w W0 := by rw [← hW0]; exact ((((Below.refl _ w).alloc (Nat.le_refl _) _).alloc (by simp) _).alloc (by simp; omega) _)
  have hx0 : Boxed W0 (w.heap.size + 1 + 1) 24 (.slice (some ⟨w.heap.size + 1, 0, none⟩) 0 0) := by
    rw [← hW0]
    have := Boxed.new ((w.alloc (.cells #[.slice a l.length c] 26)).alloc (.cells #[] 9)) 24 (.slice (some ⟨w.heap.size + 1, 0, none⟩) 0 0)
    simpa using this
  have hr0 : W0.ownsRow w.heap.size 9 1 (.slice (some ⟨w.heap.size + 1, 0, none⟩) 0 0) 0 [] := by
    refine ⟨rfl, .inr ⟨w.heap.size + 1, 0, #[], rfl, by omega, ?_, by omega, by decide, rfl, rfl⟩⟩
    rw [← hW0]
    have h1 := World.alloc_heap_new (w.alloc (.cells #[.slice a l.length c] 26)) (.cells #[] 9)
    rw [World.size_alloc] at h1
    have h2 : w.heap.size + 1 < ((w.alloc (.cells #[.slice a l.length c] 26)).alloc (.cells #[] 9)).heap.size := by simp
    exact (Below.heap_alloc _ _ _ h2).trans h1
  rw [hW0]
  clear hW0
  refine wpIn_loop (fun a' w' => ∃ (i : Nat) (u5 u12 u13 u14 u15 u16 u22 : Value) (Ds : List Nat), (i ≤ l.length ∧ (∃ v, Boxed w' (w.heap.size + 1 + 1) 24 v ∧ w'.ownsRow w.heap.size 9 1 v (allF (l.take i)).length (strsV (allF (l.take i))) ∧ v.ownBlock ≠ none) ∧ Below w.heap.size w w' ∧ Ds.Nodup ∧ (∀ D ∈ Ds, w'.heap[D]? = some (.deferred (some []))) ∧ ∀ D ∈ Ds, w.heap.size ≤ D) ∧
    a' = { tmps := #[lexV a l.length c, .pointer (some ⟨w.heap.size, 0, none⟩), .slice none 0 0, .pointer (some ⟨w.heap.size + 1 + 1, 0, none⟩), undef, u5, undef, .slice (some ⟨w.heap.size + 1, 0, none⟩) 0 0, .pointer (some ⟨w.heap.size, 0, none⟩), .slice a l.length c, .int .i64 (l.length : Int), .int .i64 (i : Int), u12, u13, u14, u15, u16, undef, undef, undef, undef, undef, u22, undef, undef, undef], defers := Ds.map fun D => ({ target := .collected D, args := #[] } : Deferred) })
    (fun a' _ => l.length - (intOf (a'.tmps.getD 11 undef)).toNat) ?start ?round
  case start => exact ⟨0, undef, undef, undef, undef, undef, undef, undef, [], ⟨by omega, ⟨_, hx0, hr0, by simp [Value.ownBlock]⟩, hb0, List.nodup_nil, (fun D hD => by simp at hD), fun D hD => by simp at hD⟩, rfl⟩
  case round =>
    clear hb0 hx0 hr0
    rintro a' wr ⟨i, u5, u12, u13, u14, u15, u16, u22, Ds, ⟨hil, ⟨v, hv, hrow, hnn⟩, hB, hnd, hD, hDB⟩, rfl⟩
    by_cases hlt : i < l.length
    · obtain ⟨b1, o1, rfl, hcl⟩ := (HR.out _ (Ext.of hB)).word (by omega)
      have hc1 := hcl i hlt
      have hsz := HSZ.out i hlt
      have HTI := hid (HTK.out i hlt)
      have hln := HLN.out i
      obtain ⟨x, hx⟩ : ∃ x, wAt l i = x := ⟨_, rfl⟩
      rw [hx] at hc1 hsz HTI
      obtain ⟨p, hp⟩ : ∃ p, o1 + i = p := ⟨_, rfl⟩
      rw [hp] at hc1
      obtain ⟨base, hbase⟩ : ∃ b, allF (l.take i) = b := ⟨_, rfl⟩
      rw [hbase] at hrow HTI hln
      have HROW := hid hrow
      have HV := hid hv
      have HD := hid hD
      have HND := hid hnd
      clear hcl hx hbase hrow hv hD hnd
      gi_wp2
      refine And.intro ?_ ?_
      exact trivial
      gi_at_call 62
      refine (callsIn_wide.2 (forms_any x _)).mono ?_
      rintro e w2 ⟨rfl, hw2⟩
      have hBn : w2.heap.size = wr.heap.size + 1 := by rw [hw2]; simp
      have hb : w2.cell? ⟨wr.heap.size, 0, none⟩ = some (.string x) := by rw [hw2]; simp
      have hB2 : Below w.heap.size w w2 := by rw [hw2]; exact hB.alloc hB.size _
      have hv2 : Boxed w2 (w.heap.size + 1 + 1) 24 v := by rw [hw2]; exact HV.out.alloc _
      have hr2 : w2.ownsRow w.heap.size 9 1 v base.length (strsV base) := by rw [hw2]; exact HROW.out.alloc _
      have hne : v.ownBlock ≠ some wr.heap.size := fun e => by have := own_lt HROW.out e; omega
      have hD2 : ∀ D ∈ Ds, D < wr.heap.size ∧ w2.heap[D]? = some (.deferred (some [])) := fun D hD => by
        have h0 := HD.out D hD
        have hlt := (Array.getElem?_eq_some_iff.1 h0).1
        exact ⟨hlt, by rw [hw2]; exact (Below.heap_alloc _ _ _ hlt).trans h0⟩
      have hbk : w.heap.size + 1 + 1 < wr.heap.size := HV.out.lt
      have HND2 := HND
      have hBs := hB.size
      clear hw2 HV HROW HD
      gi_wp2
      have hseq := formsSeq2 5 (by omega) wr.heap.size (wr.heap.size + 1) x (by omega) (by omega) w2 (by omega) hb
      refine wpIn_rangeFunc_ownG rfl (by omega) (gf := 87) (lb := #[.pointer (some ⟨wr.heap.size, 0, none⟩)]) rfl trivial (enters_of Tryz.func87 (by kernel_rfl) rfl)
        hseq (fun h k => KpB.trans h k) (KpB.put (by omega)) (Below.refl _ _) (fun _ => rfl)
        (fun pre W => (∃ v, Boxed W (w.heap.size + 1 + 1) 24 v ∧ W.ownsRow w.heap.size 9 1 v (base.length + pre.length) (strsV (base ++ pre)) ∧ (v.ownBlock ≠ some wr.heap.size ∧ v.ownBlock ≠ none)) ∧ Below w.heap.size w W ∧ w2.heap.size ≤ W.heap.size ∧ ∀ D ∈ Ds, W.heap[D]? = some (.deferred (some [])))
        (fun _ _ _ => False)
        (OwnFrom.and (Own.from (holdsRow_own w.heap.size (w.heap.size + 1 + 1) 24 9 1 (fun pre => base.length + pre.length) (fun pre => strsV (base ++ pre)) (fun pre v => v.ownBlock ≠ some wr.heap.size ∧ v.ownBlock ≠ none)) _) (OwnFrom.and (ownFrom_below (Nat.le_refl _) (by omega)) (fun _ W W' row hs hg hr => ⟨Nat.le_trans hs.1 hg.size, fun D hD => (hg.block D (Array.getElem?_eq_some_iff.1 (hs.2 D hD)).1 (fun e => by have := (hr D e.symm).1; have := (hD2 D hD).1; omega)).trans (hs.2 D hD)⟩)))
        (fun _ _ _ _ _ hs _ _ => hs)
        ⟨⟨v, hv2, by simpa using hr2, hne, hnn⟩, hB2, Nat.le_refl _, fun D hD => (hD2 D hD).2⟩
        (fun s => { tmps := #[lexV (some ⟨b1, o1, none⟩) l.length c, .pointer (some ⟨w.heap.size, 0, none⟩), .slice none 0 0, .pointer (some ⟨w.heap.size + 1 + 1, 0, none⟩), undef, .string x, .string s, .slice (some ⟨w.heap.size + 1, 0, none⟩) 0 0, .pointer (some ⟨w.heap.size, 0, none⟩), .slice (some ⟨b1, o1, none⟩) l.length c, .int .i64 (l.length : Int), .int .i64 (i : Int), .bool true, .pointer (some ⟨b1, p, none⟩), .string x, .string x, .func (.func 87) #[] #[.pointer (some ⟨wr.heap.size, 0, none⟩)], .string s, undef, undef, undef, undef, u22, undef, undef, undef], defers := [] }) ?assign ?body ?done ?stop
      case assign =>
        intro l' s W K hK
        gi_wp2
        exact hK
      case body =>
        rintro l' pre s W ⟨⟨v', hv', hrow', hne', hnn'⟩, hB', hzz, hD'⟩ hlt'
        have hc' := hv'.cell
        have hszW := hB'.size
        gi_wp2_with (gi_at_builtin; refine wpListIn_append_own_at _ rfl _ _ 24 rfl w.heap.size 9 i0 (.string ⟨#[]⟩) 1 16 Tryz.underlying24 hi hz0 hz1 hz2 rfl (by decide) _ _ _ rfl (hrow'.alloc _) ⟨W.heap.size, 0, none⟩ 1 1 [.string s] rfl rfl (cell_one_new _ _ _) (by simp [Value.oneCell']) (by unfold maxLen; omega) (by omega) (by simp; omega) ?_; intro v3 w1 hown' hgrow _ hblk; obtain ⟨g', cap', rfl⟩ := ownsRow_succ hown'; obtain ⟨hv1, hv2', hr2', hk2, hb2⟩ := hv'.appended (by decide) hrow' hszW (by omega) hown' hgrow; have hc1' := hv1.cell; have hf1 := hv1.frozen)
        have hg8 : g' ≠ wr.heap.size := fun e => by
          subst e
          rcases hblk with e | e
          · exact hne' e.symm
          · simp [Value.ownBlock] at e
            omega
        refine ⟨hk2.from _, ⟨hk2.size, fun hlt => ?_⟩, ⟨_, hv2', by rw [List.length_append, ← Nat.add_assoc, ← List.append_assoc, strsV_append]; simpa [strsV] using hr2', ?_, by simp [Value.ownBlock]⟩, hB'.trans hb2, Nat.le_trans hzz hk2.size, fun D hD => hk2.same D _ (hD' D hD) rfl⟩
        · rw [Below.heap_setCell _ _ _ wr.heap.size (by show wr.heap.size ≠ w.heap.size + 1 + 1; omega), hgrow.block wr.heap.size (by simp; omega) (fun e => hne' e.symm)]
          exact Below.heap_alloc _ _ _ hlt
        · simp [Value.ownBlock]
          exact hg8
      case done =>
        rintro D ys W hDlt rfl ⟨⟨v', hv', hrow', hne', hnn'⟩, hB', hzz, hD'⟩ hK
        gi_wp2
        refine ⟨⟨i + 1, _, _, _, _, _, _, _, D :: Ds, ⟨by omega, ⟨v', hv', by rw [HTI.out, List.length_append]; exact hrow', hnn'⟩, hB', ?_, ?_, ?_⟩, rfl⟩, ?_⟩
        · rw [List.nodup_cons]
          exact ⟨fun h => by have := (hD2 D h).1; omega, HND.out⟩
        · intro E hE
          rcases List.mem_cons.1 hE with rfl | hE
          · exact hK
          · exact hD' E hE
        · intro E hE
          rcases List.mem_cons.1 hE with rfl | hE
          · omega
          · exact hDB E hE
        · simp [intOf] <;> omega
      case stop =>
        rintro D c' pre W _ _ h _
        exact h.elim
    · obtain rfl : i = l.length := by omega
      rw [HTA.out] at hrow
      rcases hrow.2 with ⟨rfl, -⟩ | ⟨g, cap, cur, rfl, hgB, hgh, hcap, -⟩
      · exact absurd rfl hnn
      have hln := HLN.out l.length
      rw [HTA.out] at hln
      have hs0 := SortS_ch g cap (allF l) wr (hrow.mono (Nat.zero_le _)) w.heap.size hgB (by omega)
      have hlen : (sortW (allF l)).length = (allF l).length := sortW_length _
      have HSD : Hid (srtF l = sortW (allF l)) := hid rfl
      have hgk : w.heap.size + 1 + 1 ≠ g := fun e => by
        have h1 : wr.heap[w.heap.size + 1 + 1]? = some _ := hv
        rw [e, hgh] at h1
        simp at h1
      have hc0 := hv.cell
      have HS := hid hs0
      have HLE := hid hlen
      have HCAP := hid hcap
      have hvl := hv.lt
      have hgl : g < wr.heap.size := (Array.getElem?_eq_some_iff.1 hgh).1
      have hDg : ∀ D ∈ Ds, D ≠ g := fun D hd e => by
        have h1 := hD D hd
        rw [e, hgh] at h1
        simp at h1
      have HEX := hid (Ext.of hB)
      clear hs0 hlen hcap
      gi_wp2
      refine And.intro trivial ?_
      refine (callsIn_wide.2 HS.out).mono ?_
      rintro e w9 ⟨rfl, ho9, hc9⟩
      have hb9 : Boxed w9 (w.heap.size + 1 + 1) 24 (.slice (some ⟨g, 0, none⟩) (allF l).length cap) := (hc9.block _ hvl hgk).trans hv
      have hc0' := hb9.cell
      have HO9 := hid ho9
      have HC9 := hid hc9
      have hD9 : ∀ D ∈ Ds, w9.heap[D]? = some (.deferred (some [])) := fun D hd => (hc9.block D (Array.getElem?_eq_some_iff.1 (hD D hd)).1 (hDg D hd)).trans (hD D hd)
      clear ho9 hc9 hc0 HS
      gi_wp2
      refine leaves_marks Ds w9 hnd hD9 (fun W2 hc2 => ?_)
      refine ⟨_, results_tmp rfl _ _ _, some ⟨g, 0, none⟩, cap, by rw [HSD.out, HLE.out]; rfl, by rw [HSD.out, HLE.out]; exact HCAP.out, ?_, ?_⟩
      · rw [HSD.out]
        exact (hc2.own (show Own w9 w.heap.size 9 1 (some ⟨g, 0, none⟩) (allF l).length cap (strsV (sortW (allF l))) from .inr HO9.out) (fun p e h => by simp only [Option.some.injEq] at e; subst e; exact hDg _ h rfl)).rd
      · exact (((Ch.of_ext (fun b => b = g ∨ b ∈ Ds) HEX.out).next HC9.out (fun b _ e => .inl e)).next hc2 (fun b _ e => .inr e)).ext (fun b hb e => by
          rcases e with e | e
          · omega
          · have := hDB b e
            omega)
end Go.Proofs.YtabljchbchjjcaaGreatDoor
