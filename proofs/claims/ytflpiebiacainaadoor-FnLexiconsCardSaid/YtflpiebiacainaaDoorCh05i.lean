/- MakeLexicon. Conditions: at most 2^20 bytes in all. -/
import Derived.Test.YtflpiebiacainaaDoorCh05f
import Derived.Test.YtflpiebiacainaaDoorSortS
import Derived.Maps.RangeWalk
import Derived.Maps.OwnSet
namespace Go.Proofs.YtflpiebiacainaaDoor
set_option linter.unusedVariables false
set_option linter.unusedSimpArgs false
open Go Go.RowKit Go.Sort
def makC (l : List ByteArray) : Int := if l.all longOk then if 200 < (makeL l).length then 5 else 0 else 7
def makX (l : List ByteArray) : List ByteArray := if makC l = 0 then makeL l else []
theorem makX_le (l : List ByteArray) (hl : l.length ≤ 1048576) : (makX l).length ≤ 1048576 := by
  unfold makX
  split
  · have := foldl_len l []
    unfold makeL
    simp at this
    omega
  · simp
theorem rawL_snoc (L : List ByteArray) (x : List UInt8) : rawL (L ++ [⟨x.toArray⟩]) = rawL L ++ [x] := by simp [rawL]
theorem sort_made {l L : List ByteArray} (h : (rawL L).Perm (rawL (makeL l))) : sortW L = makeL l := by
  have e := mergeSort_of_perm h
  have e2 := rawL_sorted (makeL_rise l)
  unfold sortW
  rw [show (rawL L).mergeSort (fun x y => decide (x ≤ y)) = (rawL L).mergeSort leB from rfl, e, show (rawL (makeL l)).mergeSort leB = (rawL (makeL l)).mergeSort (fun x y => decide (x ≤ y)) from rfl, e2]
  unfold rawL
  rw [List.map_map]
  conv => rhs; rw [← List.map_id (makeL l)]
  rfl
def ofRaw (ss : List (List UInt8)) : List ByteArray := ss.map fun x => ⟨x.toArray⟩
theorem rawL_ofRaw (ss : List (List UInt8)) : rawL (ofRaw ss) = ss := by
  unfold rawL ofRaw
  rw [List.map_map]
  conv => rhs; rw [← List.map_id ss]
  rfl
/-- The words as a set. -/
def setD (l : List ByteArray) : DataW Unit := Maps.setOf (.lit (.bool true)) ((rawL l).map Lit.string)
theorem setD_nil : setD [] = .map [] := rfl
theorem setD_snoc (l : List ByteArray) (k : Nat) (h : k < l.length) : setD (l.take (k + 1)) = (setD (l.take k)).put (.string (wAt l k).data.toList) (.lit (.bool true)) := by
  unfold setD
  rw [List.take_succ_eq_append_getElem h, wAt_eq l k h, ← Maps.setOf_snoc]
  simp [rawL]
theorem keys_str (l : List (List UInt8)) : ∀ x ∈ l.map Lit.string, WideAt.IsKeyLit x := by
  intro x hx
  obtain ⟨y, _, rfl⟩ := List.mem_map.1 hx
  trivial
theorem setD_has (l : List ByteArray) (x : List UInt8) : Maps.has (setD l) (.string x) = decide (x ∈ rawL l) := by
  unfold setD
  rw [Maps.has_setOf _ _ _ (keys_str _), Bool.eq_iff_iff, List.any_eq_true, decide_eq_true_eq]
  constructor
  · rintro ⟨y, hy, he⟩
    obtain ⟨z, hz, rfl⟩ := List.mem_map.1 hy
    have : z = x := by simpa [Lit.sameKey] using he
    rw [← this]
    exact hz
  · intro h
    exact ⟨.string x, List.mem_map.2 ⟨x, h, rfl⟩, by simp [Lit.sameKey]⟩
theorem law_str : Maps.Keyed Tryd.prog 9 := Maps.string_keyed Tryd.underlying9
set_option maxRecDepth 100000 in
theorem bool_inv {v : Value} {z : DataW Unit × List MemPlace} (h : plainElem Tryd.prog 4 v = some z) : ∃ c, v = .bool c := by
  unfold plainElem at h
  rw [Tryd.underlying4] at h
  cases v <;> simp at h
  exact ⟨_, rfl⟩
theorem setD_perm {w : World} {b n : Nat} {R : Value → Option (DataW Unit × List MemPlace)} (l : List ByteArray) (h : w.ownsMap Tryd.prog 9 R b n (setD l)) : (rawL (makeL l)).Perm (strKeys (setD l)) := by
  obtain ⟨es, he, hk⟩ := h.keysOf
  obtain ⟨es2, he2, hp, _⟩ := h.entries law_str
  rw [he] at he2
  cases he2
  rw [he]
  refine perm_strKeys hp (fun p hp => ?_) (rawL_nodup (makeL_rise l)) fun x => ?_
  · obtain ⟨v, hv⟩ := hk p hp
    obtain ⟨x, _, hx, _⟩ := Maps.keyOf_str Tryd.underlying9 hv
    exact ⟨x, hx⟩
  · rw [← he, setD_has, decide_eq_true_eq, mem_rawL, mem_rawL, makeL_iff]
theorem setD_size {w : World} {b n : Nat} {R : Value → Option (DataW Unit × List MemPlace)} (l : List ByteArray) (h : w.ownsMap Tryd.prog 9 R b n (setD l)) : Maps.size (setD l) = (makeL l).length := by
  have hp := (setD_perm l h).length_eq
  obtain ⟨es, he, _⟩ := h.keysOf
  rw [he] at hp ⊢
  have : (strKeys (DataW.map es)).length = es.length := by simp [strKeys]
  rw [this] at hp
  simp only [Maps.size]
  rw [← hp]
  simp [rawL]
theorem ranges_below {w w' : World} {B b r n : Nat} {k : TypeId} {R : Value → Option (DataW Unit × List MemPlace)} {D : DataW Unit} {left : Lit → Bool} {cnt : Nat} (h : w.ranges Tryd.prog k R b r n D left cnt) (hx : Below B w w') (hb : b < B) (hr : r < B) : w'.ranges Tryd.prog k R b r n D left cnt := by
  unfold World.ranges at h ⊢
  rw [hx.block b hb, hx.block r hr]
  exact h
theorem strsV_snoc (ss : List (List UInt8)) (x : List UInt8) : ss.map encStr ++ [encStr x] = (ss ++ [x]).map encStr := by simp
set_option maxHeartbeats 2000000 in
theorem MakeLexicon_any (a : Option Addr) (c : Nat) (l : List ByteArray) (w : World) (h : Rd w a (strsV l)) (hl : l.length ≤ 1048576) (hs : ∀ s ∈ l, s.size ≤ 1048576) :
    Calls Tryd.prog 7 #[.slice a l.length c] w (RetA (makX l) (makC l) w) := by
  have HR : Hid (∀ w', Ext w w' → Rd w' a (strsV l)) := hid (fun w' k => h.ext k)
  have HC : Hid (makC l = if l.all longOk then if 200 < (makeL l).length then 5 else 0 else 7) := hid rfl
  have HX : Hid (makX l = if makC l = 0 then makeL l else []) := hid rfl
  have HY := hid (@allL_yes l)
  have HN := hid (@allL_no l)
  have HS : Hid (∀ k, k < l.length → (wAt l k).size ≤ 1048576) := hid (fun k hk => hs _ (wAt_mem l k hk))
  have HD := hid (setD_snoc l)
  clear h hs
  have hmm := @run_makeMap Tryd.prog
  go_enter Tryd.func7, Tryd.ntmps7
  go_wp2_with fail
  have box0 : LkT ((w.alloc (.cells #[.slice none 0 0] 26)).alloc (.map #[] 0)) w.heap.size 26 (.slice none 0 0) := (LkT.new w _ _).ext ((Ext.refl _).alloc _)
  go_loopw [12] (fun i wr => ∃ k : Nat, k ≤ l.length ∧ i = .int .i64 k ∧ Hid (∀ j, j < k → longOk (wAt l j) = true) ∧ Hid (wr.ownsMap Tryd.prog 9 (plainElem (H := Unit) Tryd.prog 4) (w.heap.size + 1) k (setD (l.take k))) ∧ Hid (LkT wr w.heap.size 26 (.slice none 0 0)) ∧ Ext w wr) (fun i _ => l.length - (intOf i).toNat)
  case atStart => exact ⟨0, by omega, rfl, hid (fun j hj => by omega), hid (by rw [List.take_zero, setD_nil]; have := World.ownsMap_made (H := Unit) (P := Tryd.prog) (k := 9) (R := plainElem (H := Unit) Tryd.prog 4) (w.alloc (.cells #[.slice none 0 0] 26)); simpa using this), hid box0, ((Ext.refl w).alloc _).alloc _⟩
  case round =>
    clear box0
    obtain ⟨k, hk, rfl, hall, HM, HB, hE⟩ := hrel
    by_cases hlt : k < l.length
    · obtain ⟨b, o, rfl, hc⟩ := (HR.out _ hE).word (by omega)
      have c0 := hc k hlt
      have hz := HS.out k hlt
      have HDk := hid (HD.out k hlt)
      have HNk := hid (HN.out k hlt)
      obtain ⟨s, hs⟩ : ∃ s, wAt l k = s := ⟨_, rfl⟩
      rw [hs] at c0 hz HDk HNk
      have HSS := hid hs
      clear hs hc
      obtain ⟨p0, hp0⟩ : ∃ p0, o + k = p0 := ⟨_, rfl⟩
      rw [hp0] at c0
      go_wp2_with fail
      refine (isLong_any s _ hz).mono ?_
      rintro e w2 ⟨rfl, hx⟩
      have HM2 := hid (HM.out.kept hx.grown (by simp))
      have HB2 := hid (HB.out.ext hx)
      have hE2 := hE.trans hx
      clear hx c0 hp0
      cases hg : longOk s
      · have HG := hid hg
        have HA : Hid (makC l = 7) := hid (by rw [HC.out, HNk.out hg]; rfl)
        have r0 := HB2.out.cell
        have rf := HB2.out.free 0
        clear hg
        go_wp2_with fail
        refine bodyPost_ret (v := .tuple #[lexV none 0 0, .int .i64 7]) (by simp [results, Tryd.results7, go_sem, r0, rf]) rfl ⟨none, 0, by rw [HX.out, HA.out]; rfl, by rw [HX.out, HA.out]; exact .inl rfl, hE2.setCell (by simp) _⟩
      · have HG := hid hg
        clear hg
        have hkey := WideMaps.keyOf_string_mk (P := Tryd.prog) (s := s) Tryd.underlying9 (by unfold maxLen; omega)
        go_wp2_with (at_mapUpdate; refine wpList_mapUpdate_own _ rfl _ _ _ 44 rfl 9 4 law_str Tryd.underlying44 (plainElem (H := Unit) Tryd.prog 4) (w.heap.size + 1) k _ rfl HM2.out (by unfold maxLen; omega) _ _ _ rfl rfl hkey _ [] (plainElem_bool Tryd.underlying4 true) ?_; intro w3 hown3 hgrow3; have HM3 := hid hown3; have HG3 := hid hgrow3; clear hown3 hgrow3)
        go_roundw
        case rel =>
          refine ⟨k + 1, by omega, by go_num, hid (fun j hj => ?_), hid ?_, hid (HB2.out.grownBy HG3.out (by simp)), hE2.grownBy HG3.out (fun j hj => by cases hj; omega)⟩
          · by_cases hjk : j = k
            · subst hjk; rw [HSS.out, HG.out]
            · exact hall.out j (by omega)
          · rw [HDk.out]; exact HM3.out
        case measure => simp [intOf]; omega
    · obtain rfl : k = l.length := by omega
      rw [List.take_length] at HM
      have HL := hid (HY.out hall.out)
      have HSZ := hid (setD_size l HM.out)
      have hm2 := HM.out.size_le
      obtain ⟨z, hz⟩ : ∃ z, Maps.size (setD l) = z := ⟨_, rfl⟩
      have HZ : Hid (z = (makeL l).length) := hid (by rw [← hz]; exact HSZ.out)
      rw [hz] at hm2
      have HZ2 := hid hz
      clear hz
      by_cases hf : 200 < z
      · have HA : Hid (makC l = 5) := hid (by rw [HC.out, HL.out, if_pos rfl, if_pos (by rw [← HZ.out]; exact hf)])
        have hfi : (200 : Int) < (z : Int) := by omega
        have r0 := HB.out.cell
        have rf := HB.out.free 0
        clear hf
        go_wp2_with (at_len; refine wpList_len_own _ rfl _ 44 rfl 9 4 Tryd.underlying44 _ (w.heap.size + 1) l.length _ rfl HM.out ?_; rw [HZ2.out])
        refine bodyPost_ret (v := .tuple #[lexV none 0 0, .int .i64 5]) (by simp [results, Tryd.results7, go_sem, r0, rf]) rfl ⟨none, 0, by rw [HX.out, HA.out]; rfl, by rw [HX.out, HA.out]; exact .inl rfl, hE.setCell (by simp) _⟩
      · have HA : Hid (makC l = 0) := hid (by rw [HC.out, HL.out, if_pos rfl, if_neg (by rw [← HZ.out]; exact hf)])
        have hfi : ¬ (200 : Int) < (z : Int) := by omega
        obtain ⟨W1, hW1⟩ : ∃ W1, W1 = wr := ⟨_, rfl⟩
        subst hW1
        have hsz : w.heap.size + 2 ≤ W1.heap.size := by
          obtain ⟨es, clock, hb, _⟩ := HM.out
          have := (Array.getElem?_eq_some_iff.1 hb).1
          omega
        have HSZ2 := hid hsz
        have HAl := hid (HB.out.ext ((Ext.refl W1).alloc (.cells #[] 9)))
        clear hf hsz
        go_wp2_with (first
          | (at_len; refine wpList_len_own _ rfl _ 44 rfl 9 4 Tryd.underlying44 _ (w.heap.size + 1) l.length _ rfl HM.out ?_; rw [HZ2.out])
          | (at_range; refine wpList_range_own _ rfl _ 44 rfl 9 4 law_str Tryd.underlying44 _ (w.heap.size + 1) l.length _ rfl (HM.out.kept (World.grownBy_alloc _ _ none) (by simp)) ?_; intro w0 hrg0 hg0 hs0))
        try go_frame
        have hlen : Maps.size (setD l) ≤ l.length := by have := HM.out.size_le; omega
        rw [show (W1.alloc (.cells #[] 9)).heap.size = W1.heap.size + 1 by simp] at hrg0
        have HRG := hid hrg0
        have HBX := hid (HAl.out.grownBy hg0 (by simp))
        have hE0 := ((hE.alloc (.cells #[] 9)).grownBy hg0 (fun j hj => by cases hj))
        have HOW : Hid (w0.ownsRow W1.heap.size 9 1 (.slice (some ⟨W1.heap.size, 0, none⟩) 0 0) 0 []) := hid (World.ownsRow.kept (w := W1.alloc (.cells #[] 9)) ⟨rfl, .inr ⟨W1.heap.size, 0, #[], rfl, Nat.le_refl _, heap_alloc_new W1 _, by omega, by decide, rfl, rfl⟩⟩ hg0 (Or.inr (by simp [Value.ownBlock])))
        clear hrg0 hg0 hs0
        go_loopw [7] (fun v wq => ∃ (left : Lit → Bool) (cnt : Nat) (ss : List (List UInt8)), wq.ranges Tryd.prog 9 (plainElem (H := Unit) Tryd.prog 4) (w.heap.size + 1) (W1.heap.size + 1) l.length (setD l) left cnt ∧ ss.length + cnt ≤ l.length ∧
          wq.ownsRow W1.heap.size 9 1 v ss.length (ss.map encStr) ∧ v ≠ .slice none 0 0 ∧ Collected (setD l) left ss ∧ Hid (LkT wq w.heap.size 26 (.slice none 0 0)) ∧ Ext w wq ∧ W1.heap.size ≤ wq.heap.size) (fun _ wq => wq.rangeLeft (w.heap.size + 1) (W1.heap.size + 1))
        case atStart =>
          exact ⟨_, _, [], HRG.out, by simpa using hlen, HOW.out, by simp, Collected.start _, HBX, hE0, by have := HOW.out.lt _ rfl; omega⟩
        case round =>
          obtain ⟨left, cnt, ss, hrg, hcs, hrow, hnn, hC, HB2, hE2, hwq⟩ := hrel
          have HR1 := hid hrg
          have HO1 := hid hrow
          have HC1 := hid hC
          clear hrg hrow hC HRG HOW HBX hE0
          go_wp2_with (at_next; refine wpList_next_ranges _ rfl _ rfl 9 law_str (plainElem (H := Unit) Tryd.prog 4) encStr (fun v : Value => v) (fun key kl hk => by obtain ⟨x, hx, _⟩ := Maps.keyOf_str Tryd.underlying9 hk; exact ⟨x, hx⟩) (fun v y hv => ⟨v, rfl⟩) (w.heap.size + 1) (W1.heap.size + 1) l.length _ _ _ rfl HR1.out ?_ ?_)
          · intro hc0 hl0
            rcases HO1.out.2 with ⟨hnil, _⟩ | ⟨g, cap, cur, hv, hbase, hb, hrest⟩
            · exact absurd hnil hnn
            have hperm : (rawL (ofRaw ss)).Perm (rawL (makeL l)) := by
              rw [rawL_ofRaw]
              exact (HC1.out.perm HR1.out.owns law_str Tryd.underlying9 hl0).trans (setD_perm l HM.out).symm
            have hsl : ss.length = (makeL l).length := by have := hperm.length_eq; simpa [rawL, ofRaw] using this
            have HSL := hid hsl
            clear hsl
            have HSM := hid (sort_made hperm)
            have HXL : Hid (makX l = makeL l) := hid (by rw [HX.out, if_pos HA.out])
            have hgl : g < wr.heap.size := (Array.getElem?_eq_some_iff.1 hb).1
            subst hv
            have HOS : Hid (Own wr W1.heap.size 9 1 (some ⟨g, 0, none⟩) (ofRaw ss).length cap (strsV (ofRaw ss))) := hid (.inr (by
              rw [← rawL_enc, rawL_ofRaw, show (ofRaw ss).length = ss.length by simp [ofRaw]]; exact HO1.out))
            have HSO := hid (SortS_any (some ⟨g, 0, none⟩) cap W1.heap.size (ofRaw ss) wr HOS.out hwq (by simp [ofRaw]; omega) (fun _ => ⟨g, rfl, hbase, hgl⟩))
            have hfl : (ofRaw ss).length = ss.length := by simp [ofRaw]
            rw [hfl] at HSO
            clear hnn hl0 hperm hb hrest HOS
            go_wp2_with fail
            with_reducible refine HSO.out.mono ?_
            rintro e w3 ⟨rfl, ho3, hb3⟩
            rw [HSM.out] at ho3
            have HO3 := hid ho3
            have HB3 := hid (HB2.out.below hb3 (by have := HSZ2.out; omega))
            have hE3 : Ext w w3 := hE2.thenBelow hb3 (by have := HSZ2.out; omega)
            have r0 := HB3.out.cell
            have rf := HB3.out.free 0
            clear ho3 hb3 HSO
            go_wp2_with fail
            refine bodyPost_ret (v := .tuple #[lexV (some ⟨g, 0, none⟩) ss.length cap, .int .i64 0]) (by simp [results, Tryd.results7, go_sem, r0, rf]) rfl ⟨some ⟨g, 0, none⟩, cap, by rw [HXL.out, HA.out, HSL.out], ?_, hE3.setCell (by simp) _⟩
            rw [HXL.out]
            rcases HO3.out.inR with h | ⟨g, he, h1, h2, hw⟩
            · exact .inl h
            · exact .inr ⟨g, he, by have := hE.size; omega, by simpa [World.setCell] using h2, hw.other (by have := HSZ2.out; omega)⟩
          · intro x v kl yd yp w2 cnt2 hkey hlk hv hat hrg2 hlt2 hg2 hs2 hen
            obtain ⟨x', ex, rfl, _⟩ := Maps.keyOf_str Tryd.underlying9 hkey
            obtain rfl : x = x' := encStr_inj ex
            obtain ⟨i0, hi, hz0, hz1, hz2⟩ := El_str.info
            have HRO : Hid (w2.ownsRow W1.heap.size 9 1 u7 ss.length (ss.map encStr)) := hid (HO1.out.kept hg2 (Or.inr (row_ne_iter HO1.out HR1.out).symm))
            have HRG2 := hid hrg2
            have HCS := hid (HC1.out.step hlk hat)
            have HB3 := hid (HB2.out.grownBy hg2 (by have := HSZ2.out; simp; omega))
            have hE3 : Ext w w2 := hE2.grownBy hg2 (fun j hj => by cases hj; have := hE.size; omega)
            have hwq2 : W1.heap.size ≤ w2.heap.size := by have := hg2.size; omega
            have HLF : Hid (w2.rangeLeft (w.heap.size + 1) (W1.heap.size + 1) < wr.rangeLeft (w.heap.size + 1) (W1.heap.size + 1)) := hid (by rw [hrg2.left_eq, HR1.out.left_eq]; exact hlt2)
            clear hs2 hg2 hrg2 hlk hat hv hkey ex
            go_wp2_with (at_builtin; refine wpList_append_own _ rfl _ _ 24 rfl W1.heap.size 9 i0 (.string ⟨#[]⟩) 1 16 Tryd.underlying24 hi hz0 hz1 hz2 rfl (by decide) u7 ss.length _ rfl (HRO.out.alloc _) ⟨w2.heap.size, 0, none⟩ 1 1 [encStr x] rfl rfl (cell_one_new _ _ _) (by simp [Value.oneCell', encStr]) (by unfold maxLen; omega) (by omega) (by simp; omega) ?_; intro v' w3 hown' hg3 hnil3; go_frame)
            have HO4 := hid hown'
            have hnn3 : v' ≠ .slice none 0 0 := fun hv' => hnn (hnil3.1 hv').1
            have hrow2 := HRO.out.alloc (.cells #[encStr x] 9)
            have HR4 := hid ((HRG2.out.alloc (.cells #[encStr x] 9)).kept hg3 (row_ne_low hrow2 (by have := HSZ2.out; omega)) (row_ne_iter hrow2 (HRG2.out.alloc _)))
            have HB4 := hid ((HB3.out.ext ((Ext.refl w2).alloc (.cells #[encStr x] 9))).grownBy hg3 (row_ne_low hrow2 (by have := HSZ2.out; omega)))
            have hE4 : Ext w w3 := (hE3.alloc _).grownBy hg3 (fun j hj => by have := (hrow2.lt j hj).1; have := hE.size; omega)
            have hwq4 : W1.heap.size ≤ w3.heap.size := by have := hg3.size; simp at this; omega
            clear hown' hg3 hnil3 hrow2
            go_roundw
            case rel => exact ⟨_, cnt2, ss ++ [x], HR4.out, by simp; omega, by simpa using HO4.out, hnn3, HCS.out, HB4, hE4, hwq4⟩
            case measure => rw [HR4.out.left_eq, ← HRG2.out.left_eq]; exact HLF.out
end Go.Proofs.YtflpiebiacainaaDoor
