/- How far words lie from a word, by the reference. Conditions: at most 2^20 words, each of at most 2^20 bytes. -/
import Derived.Test.YtaigabenlccdaaaLad
import Derived.Test.YtaigabenlccdaaaMg7
namespace Go.Proofs.Ytaigabenlccdaaa
set_option linter.unusedVariables false
set_option linter.unusedSimpArgs false
open Go Go.RowKit
theorem wAt_inj {l : List ByteArray} (h : incB l = true) {i j : Nat} (hi : i < l.length) (hj : j < l.length) (e : wAt l i = wAt l j) : i = j := by
  rcases Nat.lt_trichotomy i j with hl | hl | hl
  · have := incB_lt h j hl hj
    rw [e, lessB_self] at this
    cases this
  · exact hl
  · have := incB_lt h i hl hi
    rw [e, lessB_self] at this
    cases this
theorem posL_iff {l : List ByteArray} {x : ByteArray} (h : incB l = true) (hx : hasL l x = true) {i : Nat} (hi : i < l.length) : wAt l i = x ↔ i = posL l x := by
  obtain ⟨h1, h2⟩ := hasL_at hx
  exact ⟨fun e => wAt_inj h hi h1 (by rw [e, h2]), fun e => by rw [e, h2]⟩
def intsF (n : Nat) (S : Nat → Int) : List Value := (List.range n).map fun k => .int .i64 (S k)
theorem intsF_length (n : Nat) (S : Nat → Int) : (intsF n S).length = n := by simp [intsF]
theorem intsF_get (n : Nat) (S : Nat → Int) (k : Nat) (h : k < n) : (intsF n S)[k]? = some (.int .i64 (S k)) := by simp [intsF, h]
theorem intsF_congr {n : Nat} {S T : Nat → Int} (h : ∀ k, k < n → S k = T k) : intsF n S = intsF n T := by
  unfold intsF
  apply List.map_congr_left
  intro k hk
  rw [h k (List.mem_range.1 hk)]
theorem intsF_set {n k : Nat} {S T : Nat → Int} {z : Int} (hk : k < n) (h1 : T k = z) (h2 : ∀ j, j < n → j ≠ k → T j = S j) : (intsF n S).set k (.int .i64 z) = intsF n T := by
  apply List.ext_getElem
  · simp [intsF]
  · intro j h3 h4
    rw [List.getElem_set]
    simp only [List.length_set, intsF_length] at h3
    by_cases e : k = j
    · subst e; simp [intsF, h1]
    · rw [if_neg e]; simp [intsF, h2 j h3 (Ne.symm e)]
theorem intsF_succ (n : Nat) (S : Nat → Int) : intsF (n + 1) S = intsF n S ++ [.int .i64 (S n)] := by simp [intsF, List.range_succ]
theorem intsF_ints (n : Nat) (S : Nat → Int) : intsF n S = intsV ((List.range n).map S) := by simp [intsF, intsV]
/-- Within a round: the words before the i-th one have been looked at. -/
def ladM (l : List ByteArray) (b d i k : Nat) : Int := if lad l b d k < 0 ∧ ((List.range i).filter fun i => decide (lad l b d i = d)).any (fun i => nr l i k) = true then ((d + 1 : Nat) : Int) else lad l b d k
theorem ladM_zero (l : List ByteArray) (b d k : Nat) : ladM l b d 0 k = lad l b d k := by unfold ladM; rw [if_neg (by simp)]
theorem ladM_all (l : List ByteArray) (b d k : Nat) : ladM l b d l.length k = lad l b (d + 1) k := rfl
theorem ladM_miss {l : List ByteArray} {b d i : Nat} (h : ¬ lad l b d i = d) (k : Nat) : ladM l b d (i + 1) k = ladM l b d i k := by
  unfold ladM
  rw [List.range_succ, List.filter_append, List.filter_cons_of_neg (by simpa using h), List.filter_nil, List.append_nil]
theorem ladM_at (l : List ByteArray) (b d i j : Nat) : ladM l b d j i = (d : Int) ↔ lad l b d i = (d : Int) := by
  have := lad_le l b d i
  unfold ladM
  split <;> omega
theorem ladM_hit {l : List ByteArray} {b d i : Nat} (h : lad l b d i = d) (k : Nat) : ladM l b d (i + 1) k = if ladM l b d i k < 0 ∧ nr l i k = true then ((d + 1 : Nat) : Int) else ladM l b d i k := by
  unfold ladM
  rw [List.range_succ, List.filter_append, List.filter_cons_of_pos (by simpa using h), List.filter_nil, List.any_append]
  simp only [List.any_cons, List.any_nil, Bool.or_false]
  generalize ((List.range i).filter fun i => decide (lad l b d i = d)).any (fun i => nr l i k) = B
  cases B <;> cases nr l i k <;> by_cases h1 : lad l b d k < 0 <;> simp [h1] <;> omega
theorem ladM_rng (l : List ByteArray) (b d i k : Nat) : -1 ≤ ladM l b d i k ∧ ladM l b d i k ≤ d + 1 := by
  have h1 := lad_le l b d k
  have h2 := lad_ge l b d k
  unfold ladM
  split <;> omega
/-- And the words before the k-th one have been looked at for the i-th one. -/
def ladK (l : List ByteArray) (b d i k j : Nat) : Int := if j < k then ladM l b d (i + 1) j else ladM l b d i j
set_option maxRecDepth 100000 in
set_option maxHeartbeats 4000000 in
theorem l10Far_any (lb lo : Nat) (l : List ByteArray) (x : ByteArray) (w : World) (h : LxAt w lb lo l) (hk : lexOk l = true) (hx : hasL l x = true) (hs : ∀ s ∈ l, s.size ≤ 1048576) :
    Calls Try.prog 26 #[.pointer (some ⟨lb, lo, none⟩), .string x] w (RetL (intsV ((List.range l.length).map (far l (posL l x)))) w) := by
  obtain ⟨a, c, b0, hrd⟩ := h
  have HB0 := hid (fun w' (k : Ext w w') => k.cell b0)
  have HR : Hid (∀ w', Ext w w' → Rd w' a (strsV l)) := hid (fun w' k => hrd.ext k)
  have HPI := hid (fun i hi => posL_iff (i := i) (lexOk_inc hk) hx hi)
  have hl200 := lexOk_200 hk
  have HBE := hid bytes_beq
  have HS : Hid (∀ k, k < l.length → (wAt l k).size ≤ 1048576) := hid (fun k hk => hs _ (wAt_mem l k hk))
  have hpos := (hasL_at hx).1
  have HNE := hid (fun i k w (hi : i < l.length) (hk : k < l.length) => l10Near_any (wAt l i) (wAt l k) w (hs _ (wAt_mem l i hi)) (hs _ (wAt_mem l k hk)))
  have HNR : Hid (∀ i k, nearB (wAt l i) (wAt l k) = nr l i k) := hid (fun i k => rfl)
  obtain ⟨ib, hib⟩ : ∃ ib, posL l x = ib := ⟨_, rfl⟩
  rw [hib] at HPI hpos ⊢
  have HL0 : Hid (∀ k, lad l ib 0 k = if k = ib then 0 else -1) := hid (fun k => rfl)
  have HRG := hid (ladM_rng l ib)
  have HM0 := hid (ladM_zero l ib)
  have HMA := hid (ladM_all l ib)
  have HMI := hid (fun d i => @ladM_miss l ib d i)
  have HMH := hid (fun d i => @ladM_hit l ib d i)
  have HMT := hid (ladM_at l ib)
  have HLK : Hid (∀ d i k j, ladK l ib d i k j = if j < k then ladM l ib d (i + 1) j else ladM l ib d i j) := hid (fun d i k j => rfl)
  have HFAR : Hid (∀ k, far l ib k = lad l ib l.length k) := hid (fun k => rfl)
  clear hrd hib hs hx hk
  go_enter Try.func26, Try.ntmps26
  go_wp2_with fail
  go_loopw [5, 6, 7] (fun v i z wr => ∃ (k cap : Nat) (a' : Option Addr), k ≤ l.length ∧ i = .int .i64 (k : Int) ∧ v = .slice a' k cap ∧ Own wr (w.heap.size + 1) 2 1 a' k cap (intsF k (lad l ib 0)) ∧ Ext (w.alloc (.cells #[] 2)) wr) (fun _ i _ _ => l.length - (intOf i).toNat)
  case atStart => exact ⟨0, 0, some ⟨w.heap.size, 0, none⟩, by omega, rfl, rfl, by simpa [intsF] using Own.empty _ _ _ _ _, Ext.refl _⟩
  case round =>
    obtain ⟨k, cap, a', hk, rfl, rfl, hown, hext⟩ := hrel
    have hsz := hext.size
    simp only [World.size_alloc] at hsz
    have hE : Ext w wr := ((Ext.refl w).alloc _).trans hext
    have b1 := HB0.out _ hE
    by_cases hlt : k < l.length
    · obtain ⟨b, o, rfl, hc⟩ := (HR.out _ hE).word (by omega)
      have c0 := hc k hlt
      have hpi := HPI.out k hlt
      obtain ⟨s, hss⟩ : ∃ s, wAt l k = s := ⟨_, rfl⟩
      rw [hss] at c0 hpi
      obtain ⟨p0, hp0⟩ : ∃ p0, o + k = p0 := ⟨_, rfl⟩
      rw [hp0] at c0
      have HOWN := hid hown
      clear hown hc hss b0
      by_cases he : k = ib
      · have hbe : (s.toList == x.toList) = true := by rw [HBE.out]; exact decide_eq_true (hpi.2 he)
        have hsx : s = x := hpi.2 he
        have HV : Hid (lad l ib 0 k = 0) := hid (by rw [HL0.out, if_pos he])
        have HE := hid he
        clear hpi he
        subst hsx
        have hown := HOWN.out
        go_wp2_with (at_builtin; refine wpList_push rfl _ _ 48 rfl El_int64 rfl [_] rfl rfl (by simp [Value.oneCell']) hown (by omega) (by unfold maxLen; omega) (by omega) ?_; intro a2 c2 w3 hown2 hb2; have HO := hid hown2; clear hown2 hown)
        go_roundw
        case rel => exact ⟨k + 1, c2, a2, by omega, by go_num, rfl, by rw [intsF_succ, HV.out]; exact HO.out, hext.thenBelow hb2 (by simp)⟩
        case measure => simp [intOf]; omega
      · have hbe : (s.toList == x.toList) = false := by rw [HBE.out]; exact decide_eq_false (fun e => he (hpi.1 e))
        have hsx : ¬ s = x := fun e => he (hpi.1 e)
        have HV : Hid (lad l ib 0 k = -1) := hid (by rw [HL0.out, if_neg he])
        clear hpi he
        have hown := HOWN.out
        go_wp2_with (at_builtin; refine wpList_push rfl _ _ 48 rfl El_int64 rfl [_] rfl rfl (by simp [Value.oneCell']) hown (by omega) (by unfold maxLen; omega) (by omega) ?_; intro a2 c2 w3 hown2 hb2; have HO := hid hown2; clear hown2 hown)
        go_roundw
        case rel => exact ⟨k + 1, c2, a2, by omega, by go_num, rfl, by rw [intsF_succ, HV.out]; exact HO.out, hext.thenBelow hb2 (by simp)⟩
        case measure => simp [intOf]; omega
    · obtain rfl : k = l.length := by omega
      obtain ⟨g, rfl, hgB, hgl, hfz, hrow⟩ := hown.form (by omega)
      have HW0 := hid (Wr.of hrow)
      have HEX := hid hE
      have hg1 : w.heap.size < g := by omega
      clear hown hrow hfz hext hE hsz hgB b0 hgl
      go_wp2_with fail
      clear b1 hlt hk
      go_loopw [8, 9, 10] (fun f i k wq => ∃ d : Nat, d ≤ l.length ∧ f = .int .i64 (d : Int) ∧ Hid (Wr wq g (intsF l.length (lad l ib d))) ∧ Ext w wq) (fun f _ _ _ => l.length - (intOf f).toNat)
      case atStart => exact ⟨0, by omega, rfl, HW0, HEX.out⟩
      case round =>
        clear HW0 HEX
        obtain ⟨d, hd, rfl, HW, hx⟩ := hrel
        by_cases hdl : d < l.length
        · go_wp2_with fail
          go_loopw [9, 10] (fun i k wq => ∃ j : Nat, j ≤ l.length ∧ i = .int .i64 (j : Int) ∧ Hid (Wr wq g (intsF l.length (ladM l ib d j))) ∧ Ext w wq) (fun i _ _ => l.length - (intOf i).toNat)
          case atStart => exact ⟨0, by omega, rfl, hid (by rw [intsF_congr (fun k _ => HM0.out d k)]; exact HW.out), hx⟩
          case round =>
            clear HW hx
            obtain ⟨i, hi, rfl, HW, hx⟩ := hrel
            by_cases hil : i < l.length
            · by_cases hdi : lad l ib d i = (d : Int)
              · have HH := hid (fun k => HMH.out d i hdi k)
                have HAT := hid (fun j => (HMT.out d i j).2 hdi)
                clear hdi
                go_wp2_with fail
                go_loopw [10] (fun k wq => ∃ j : Nat, j ≤ l.length ∧ k = .int .i64 (j : Int) ∧ Hid (Wr wq g (intsF l.length (ladK l ib d i j))) ∧ Ext w wq) (fun k _ => l.length - (intOf k).toNat)
                case atStart => exact ⟨0, by omega, rfl, hid (by rw [intsF_congr (fun k _ => by rw [HLK.out, if_neg (by omega)])]; exact HW.out), hx⟩
                case round =>
                  clear HW hx
                  obtain ⟨k, hk, rfl, HW, hx⟩ := hrel
                  by_cases hkl : k < l.length
                  · have hci : wr.cell? ⟨g, i, none⟩ = some (.int .i64 (d : Int)) := by
                      have := HW.out.2.1 i _ (intsF_get l.length (ladK l ib d i k) i hil)
                      rw [this, HLK.out]
                      split <;> rw [HAT.out]
                    have hck0 := HW.out.2.1 k _ (intsF_get l.length (ladK l ib d i k) k hkl)
                    rw [HLK.out, if_neg (by omega)] at hck0
                    have hfr := HW.out.2.2 k (by rw [intsF_length]; exact hkl)
                    have hrng := HRG.out d i k
                    have HHk := HH.out k
                    have hb1 := HB0.out _ hx
                    obtain ⟨b, o, rfl, hc⟩ := (HR.out _ hx).word (by omega)
                    have hc1 := hc i hil
                    have hc2 := hc k hkl
                    have HNk := hid (fun w => HNE.out i k w hil hkl)
                    rw [HNR.out] at HNk
                    have HKN : Hid (∀ z, ladM l ib d (i + 1) k = z → (intsF l.length (ladK l ib d i k)).set k (.int .i64 z) = intsF l.length (ladK l ib d i (k + 1))) := hid (fun z hz => intsF_set hkl (by rw [HLK.out, if_pos (by omega)]; exact hz) (fun j _ hj => by
                      rw [HLK.out, HLK.out]
                      by_cases e : j < k
                      · rw [if_pos (by omega), if_pos e]
                      · rw [if_neg (by omega), if_neg e]))
                    have HKS : Hid (ladM l ib d (i + 1) k = ladM l ib d i k → intsF l.length (ladK l ib d i k) = intsF l.length (ladK l ib d i (k + 1))) := hid (fun he => intsF_congr (fun j _ => by
                      rw [HLK.out, HLK.out]
                      by_cases e : j < k
                      · rw [if_pos e, if_pos (by omega)]
                      · by_cases e2 : j = k
                        · subst e2; rw [if_neg e, if_pos (by omega), he]
                        · rw [if_neg e, if_neg (by omega)]))
                    clear hc
                    obtain ⟨val, hv⟩ : ∃ z, ladM l ib d i k = z := ⟨_, rfl⟩
                    rw [hv] at hck0 hrng HHk HKS
                    obtain ⟨s1, hs1⟩ : ∃ s, wAt l i = s := ⟨_, rfl⟩
                    obtain ⟨s2, hs2⟩ : ∃ s, wAt l k = s := ⟨_, rfl⟩
                    rw [hs1] at hc1 HNk
                    rw [hs2] at hc2 HNk
                    obtain ⟨B, hB⟩ : ∃ B, nr l i k = B := ⟨_, rfl⟩
                    rw [hB] at HNk HHk
                    obtain ⟨q1, hq1⟩ : ∃ q, o + i = q := ⟨_, rfl⟩
                    obtain ⟨q2, hq2⟩ : ∃ q, o + k = q := ⟨_, rfl⟩
                    rw [hq1] at hc1
                    rw [hq2] at hc2
                    clear hv hs1 hs2 hB
                    by_cases hv0 : val < 0
                    · cases B
                      · have HE := hid (HKS.out (by rw [HHk, if_neg (fun h => by cases h.2)]))
                        clear HHk hrng
                        go_wp2_with fail
                        refine wp_region_flow_at (C := Ext) 22 [fun v _ => v = .slice (some ⟨g, 0, none⟩) l.length cap, fun v _ => v = .int .i64 (k : Int), fun v _ => v = .pointer (some ⟨g, k, none⟩), fun v _ => v = .int .i64 val, fun v _ => v = .bool true, fun v _ => v = .bool true, fun v _ => v = .pointer (some ⟨lb, lo, none⟩), fun v _ => v = .pointer (some ⟨lb, lo, none⟩), fun v _ => v = .pointer (some ⟨lb, lo, none⟩), fun v _ => v = .slice (some ⟨b, o, none⟩) l.length c, fun v _ => v = .int .i64 (i : Int), fun v _ => v = .pointer (some ⟨b, q1, none⟩), fun v _ => v = .string s1, fun v _ => v = .pointer (some ⟨lb, lo, none⟩), fun v _ => v = .pointer (some ⟨lb, lo, none⟩), fun v _ => v = .pointer (some ⟨lb, lo, none⟩), fun v _ => v = .slice (some ⟨b, o, none⟩) l.length c, fun v _ => v = .int .i64 (k : Int), fun v _ => v = .pointer (some ⟨b, q2, none⟩), fun v _ => v = .string s2, fun v _ => v = .bool false, fun v _ => v = .bool false]
                          [[(5, none)], [(10, none)], [(60, some 0), (61, some 1)], [(62, some 2)], [(63, some 3)], [(64, some 4)], [(0, none)], [(66, some 6)], [(67, some 7)], [(68, some 8)], [(9, none)], [(69, some 9), (70, some 10)], [(71, some 11)], [(0, none)], [(73, some 13)], [(74, some 14)], [(75, some 15)], [(10, none)], [(76, some 16), (77, some 17)], [(78, some 18)], [(72, some 12), (79, some 19)], [(65, some 5), (80, some 20)]] (by kernel_rfl) (by kernel_rfl) Ext.refl (fun _ _ _ => Ext.trans) ?_ ?_ ?_
                        · intro F hF
                          simp only [List.mem_cons, List.not_mem_nil, or_false] at hF
                          rcases hF with rfl | rfl | rfl | rfl | rfl | rfl | rfl | rfl | rfl | rfl | rfl | rfl | rfl | rfl | rfl | rfl | rfl | rfl | rfl | rfl | rfl | rfl <;> exact fun _ _ _ h _ => h
                        · refine ⟨?_, ?_, ?_, ?_, ?_, ?_, ?_, ?_, ?_, ?_, ?_, ?_, ?_, ?_, ?_, ?_, ?_, ?_, ?_, ?_, ?_, ?_, trivial⟩
                          · rintro ρ w1 hw hcst hfn hk
                            clear hw
                            simp only [known, List.getD_cons_zero, List.getD_cons_succ, Nat.reduceAdd] at hk
                            simp only [List.getD_cons_zero, List.getD_cons_succ, Nat.reduceAdd, flowAt]
                            go_simp
                            exact ⟨Ext.refl _, by first | rfl | trivial⟩
                          · rintro ρ w1 hw hcst hfn hk
                            clear hw
                            simp only [known, List.getD_cons_zero, List.getD_cons_succ, Nat.reduceAdd] at hk
                            simp only [List.getD_cons_zero, List.getD_cons_succ, Nat.reduceAdd, flowAt]
                            go_simp
                            exact ⟨Ext.refl _, by first | rfl | trivial⟩
                          · rintro ρ w1 hw hcst hfn hk
                            simp only [known, List.getD_cons_zero, List.getD_cons_succ, Nat.reduceAdd] at hk
                            simp only [List.getD_cons_zero, List.getD_cons_succ, Nat.reduceAdd, flowAt]
                            go_simp
                            exact ⟨Ext.refl _, by first | rfl | simp⟩
                          · rintro ρ w1 hw hcst hfn hk
                            have c0 := hw.cell (b := g) (o := k) (v := .int .i64 val) (by first | (simp [*]; done) | (simp [*, go_sem]; done) | go_cell)
                            clear hw
                            simp only [known, List.getD_cons_zero, List.getD_cons_succ, Nat.reduceAdd] at hk
                            simp only [List.getD_cons_zero, List.getD_cons_succ, Nat.reduceAdd, flowAt]
                            go_simp
                            exact ⟨Ext.refl _, by first | rfl | trivial⟩
                          · rintro ρ w1 hw hcst hfn hk
                            simp only [known, List.getD_cons_zero, List.getD_cons_succ, Nat.reduceAdd] at hk
                            simp only [List.getD_cons_zero, List.getD_cons_succ, Nat.reduceAdd, flowAt]
                            go_simp
                            (first | exact ⟨Ext.refl _, rfl⟩ | exact ⟨Ext.refl _, by simp [hv0]⟩ | exact ⟨Ext.refl _, by simp; omega⟩)
                          · rintro ρ w1 hw hcst hfn hk
                            clear hw
                            simp only [known, List.getD_cons_zero, List.getD_cons_succ, Nat.reduceAdd] at hk
                            simp only [List.getD_cons_zero, List.getD_cons_succ, Nat.reduceAdd, flowAt]
                            go_simp
                            exact ⟨Ext.refl _, by first | rfl | trivial⟩
                          · rintro ρ w1 hw hcst hfn hk
                            clear hw
                            simp only [known, List.getD_cons_zero, List.getD_cons_succ, Nat.reduceAdd] at hk
                            simp only [List.getD_cons_zero, List.getD_cons_succ, Nat.reduceAdd, flowAt]
                            rintro vg rfl
                            refine ⟨fun hg => ?_, fun hg => ?_⟩ <;> simp at hg
                            go_simp
                            exact ⟨Ext.refl _, by first | rfl | trivial⟩
                          · rintro ρ w1 hw hcst hfn hk
                            clear hw
                            simp only [known, List.getD_cons_zero, List.getD_cons_succ, Nat.reduceAdd] at hk
                            simp only [List.getD_cons_zero, List.getD_cons_succ, Nat.reduceAdd, flowAt]
                            rintro vg rfl
                            refine ⟨fun hg => ?_, fun hg => ?_⟩ <;> simp at hg
                            go_simp
                            exact ⟨Ext.refl _, by first | rfl | trivial⟩
                          · rintro ρ w1 hw hcst hfn hk
                            clear hw
                            simp only [known, List.getD_cons_zero, List.getD_cons_succ, Nat.reduceAdd] at hk
                            simp only [List.getD_cons_zero, List.getD_cons_succ, Nat.reduceAdd, flowAt]
                            rintro vg rfl
                            refine ⟨fun hg => ?_, fun hg => ?_⟩ <;> simp at hg
                            go_simp
                            exact ⟨Ext.refl _, by first | rfl | trivial⟩
                          · rintro ρ w1 hw hcst hfn hk
                            have c0 := hw.cell (b := lb) (o := lo) (v := .slice (some ⟨b, o, none⟩) l.length c) (by first | (simp [*]; done) | (simp [*, go_sem]; done) | go_cell)
                            clear hw
                            simp only [known, List.getD_cons_zero, List.getD_cons_succ, Nat.reduceAdd] at hk
                            simp only [List.getD_cons_zero, List.getD_cons_succ, Nat.reduceAdd, flowAt]
                            rintro vg rfl
                            refine ⟨fun hg => ?_, fun hg => ?_⟩ <;> simp at hg
                            go_simp
                            exact ⟨Ext.refl _, by first | rfl | trivial⟩
                          · rintro ρ w1 hw hcst hfn hk
                            clear hw
                            simp only [known, List.getD_cons_zero, List.getD_cons_succ, Nat.reduceAdd] at hk
                            simp only [List.getD_cons_zero, List.getD_cons_succ, Nat.reduceAdd, flowAt]
                            rintro vg rfl
                            refine ⟨fun hg => ?_, fun hg => ?_⟩ <;> simp at hg
                            go_simp
                            exact ⟨Ext.refl _, by first | rfl | trivial⟩
                          · rintro ρ w1 hw hcst hfn hk
                            simp only [known, List.getD_cons_zero, List.getD_cons_succ, Nat.reduceAdd] at hk
                            simp only [List.getD_cons_zero, List.getD_cons_succ, Nat.reduceAdd, flowAt]
                            rintro vg rfl
                            refine ⟨fun hg => ?_, fun hg => ?_⟩ <;> simp at hg
                            go_simp
                            exact ⟨Ext.refl _, by first | rfl | rw [hq1]⟩
                          · rintro ρ w1 hw hcst hfn hk
                            have c0 := hw.cell (b := b) (o := q1) (v := .string s1) (by first | (simp [*]; done) | (simp [*, go_sem]; done) | go_cell)
                            clear hw
                            simp only [known, List.getD_cons_zero, List.getD_cons_succ, Nat.reduceAdd] at hk
                            simp only [List.getD_cons_zero, List.getD_cons_succ, Nat.reduceAdd, flowAt]
                            rintro vg rfl
                            refine ⟨fun hg => ?_, fun hg => ?_⟩ <;> simp at hg
                            go_simp
                            exact ⟨Ext.refl _, by first | rfl | trivial⟩
                          · rintro ρ w1 hw hcst hfn hk
                            clear hw
                            simp only [known, List.getD_cons_zero, List.getD_cons_succ, Nat.reduceAdd] at hk
                            simp only [List.getD_cons_zero, List.getD_cons_succ, Nat.reduceAdd, flowAt]
                            rintro vg rfl
                            refine ⟨fun hg => ?_, fun hg => ?_⟩ <;> simp at hg
                            go_simp
                            exact ⟨Ext.refl _, by first | rfl | trivial⟩
                          · rintro ρ w1 hw hcst hfn hk
                            clear hw
                            simp only [known, List.getD_cons_zero, List.getD_cons_succ, Nat.reduceAdd] at hk
                            simp only [List.getD_cons_zero, List.getD_cons_succ, Nat.reduceAdd, flowAt]
                            rintro vg rfl
                            refine ⟨fun hg => ?_, fun hg => ?_⟩ <;> simp at hg
                            go_simp
                            exact ⟨Ext.refl _, by first | rfl | trivial⟩
                          · rintro ρ w1 hw hcst hfn hk
                            clear hw
                            simp only [known, List.getD_cons_zero, List.getD_cons_succ, Nat.reduceAdd] at hk
                            simp only [List.getD_cons_zero, List.getD_cons_succ, Nat.reduceAdd, flowAt]
                            rintro vg rfl
                            refine ⟨fun hg => ?_, fun hg => ?_⟩ <;> simp at hg
                            go_simp
                            exact ⟨Ext.refl _, by first | rfl | trivial⟩
                          · rintro ρ w1 hw hcst hfn hk
                            have c0 := hw.cell (b := lb) (o := lo) (v := .slice (some ⟨b, o, none⟩) l.length c) (by first | (simp [*]; done) | (simp [*, go_sem]; done) | go_cell)
                            clear hw
                            simp only [known, List.getD_cons_zero, List.getD_cons_succ, Nat.reduceAdd] at hk
                            simp only [List.getD_cons_zero, List.getD_cons_succ, Nat.reduceAdd, flowAt]
                            rintro vg rfl
                            refine ⟨fun hg => ?_, fun hg => ?_⟩ <;> simp at hg
                            go_simp
                            exact ⟨Ext.refl _, by first | rfl | trivial⟩
                          · rintro ρ w1 hw hcst hfn hk
                            clear hw
                            simp only [known, List.getD_cons_zero, List.getD_cons_succ, Nat.reduceAdd] at hk
                            simp only [List.getD_cons_zero, List.getD_cons_succ, Nat.reduceAdd, flowAt]
                            rintro vg rfl
                            refine ⟨fun hg => ?_, fun hg => ?_⟩ <;> simp at hg
                            go_simp
                            exact ⟨Ext.refl _, by first | rfl | trivial⟩
                          · rintro ρ w1 hw hcst hfn hk
                            simp only [known, List.getD_cons_zero, List.getD_cons_succ, Nat.reduceAdd] at hk
                            simp only [List.getD_cons_zero, List.getD_cons_succ, Nat.reduceAdd, flowAt]
                            rintro vg rfl
                            refine ⟨fun hg => ?_, fun hg => ?_⟩ <;> simp at hg
                            go_simp
                            exact ⟨Ext.refl _, by first | rfl | rw [hq2]⟩
                          · rintro ρ w1 hw hcst hfn hk
                            have c0 := hw.cell (b := b) (o := q2) (v := .string s2) (by first | (simp [*]; done) | (simp [*, go_sem]; done) | go_cell)
                            clear hw
                            simp only [known, List.getD_cons_zero, List.getD_cons_succ, Nat.reduceAdd] at hk
                            simp only [List.getD_cons_zero, List.getD_cons_succ, Nat.reduceAdd, flowAt]
                            rintro vg rfl
                            refine ⟨fun hg => ?_, fun hg => ?_⟩ <;> simp at hg
                            go_simp
                            exact ⟨Ext.refl _, by first | rfl | trivial⟩
                          · rintro ρ w1 hw hcst hfn hk
                            simp only [known, List.getD_cons_zero, List.getD_cons_succ, Nat.reduceAdd] at hk
                            simp only [List.getD_cons_zero, List.getD_cons_succ, Nat.reduceAdd, flowAt]
                            rintro vg rfl
                            refine ⟨fun hg => ?_, fun hg => ?_⟩ <;> simp at hg
                            go_simp
                            exact flow_dr (HNk.out _)
                          · rintro ρ w1 hw hcst hfn hk
                            clear hw
                            simp only [known, List.getD_cons_zero, List.getD_cons_succ, Nat.reduceAdd] at hk
                            simp only [List.getD_cons_zero, List.getD_cons_succ, Nat.reduceAdd, flowAt]
                            go_simp
                            exact ⟨Ext.refl _, by first | rfl | trivial⟩
                        intro vs w1 hw hf
                        simp only [flowFacts, Nat.reduceAdd] at hf
                        obtain ⟨e0, e1, e2, e3, e4, e5, e6, e7, e8, e9, e10, e11, e12, e13, e14, e15, e16, e17, e18, e19, e20, e21, -⟩ := hf
                        simp only [List.take_succ_cons, List.take_zero, List.drop_succ_cons, List.drop_zero, putAll, Act.put, Nat.reduceAdd, List.setIfInBounds_toArray, List.set_cons_zero, List.set_cons_succ, e0, e1, e2, e3, e4, e5, e6, e7, e8, e9, e10, e11, e12, e13, e14, e15, e16, e17, e18, e19, e20, e21]
                        clear e0 e1 e2 e3 e4 e5 e6 e7 e8 e9 e10 e11 e12 e13 e14 e15 e16 e17 e18 e19 e20 e21
                        have hy := hx.trans ((Ext.refl _).drew.trans hw)
                        have HW1 := hid (HW.out.ext ((Ext.refl _).drew.trans hw))
                        clear hw
                        go_wp2_with fail
                        go_roundw
                        case rel => exact ⟨k + 1, by omega, by go_num, hid (by rw [← HE.out]; exact HW1.out), hy⟩
                        case measure => simp [intOf]; omega
                      · have HE := hid (HKN.out ((d + 1 : Nat) : Int) (by rw [HHk, if_pos ⟨hv0, rfl⟩]))
                        clear HHk hrng
                        go_wp2_with fail
                        refine wp_region_flow_at (C := Ext) 22 [fun v _ => v = .slice (some ⟨g, 0, none⟩) l.length cap, fun v _ => v = .int .i64 (k : Int), fun v _ => v = .pointer (some ⟨g, k, none⟩), fun v _ => v = .int .i64 val, fun v _ => v = .bool true, fun v _ => v = .bool true, fun v _ => v = .pointer (some ⟨lb, lo, none⟩), fun v _ => v = .pointer (some ⟨lb, lo, none⟩), fun v _ => v = .pointer (some ⟨lb, lo, none⟩), fun v _ => v = .slice (some ⟨b, o, none⟩) l.length c, fun v _ => v = .int .i64 (i : Int), fun v _ => v = .pointer (some ⟨b, q1, none⟩), fun v _ => v = .string s1, fun v _ => v = .pointer (some ⟨lb, lo, none⟩), fun v _ => v = .pointer (some ⟨lb, lo, none⟩), fun v _ => v = .pointer (some ⟨lb, lo, none⟩), fun v _ => v = .slice (some ⟨b, o, none⟩) l.length c, fun v _ => v = .int .i64 (k : Int), fun v _ => v = .pointer (some ⟨b, q2, none⟩), fun v _ => v = .string s2, fun v _ => v = .bool true, fun v _ => v = .bool true]
                          [[(5, none)], [(10, none)], [(60, some 0), (61, some 1)], [(62, some 2)], [(63, some 3)], [(64, some 4)], [(0, none)], [(66, some 6)], [(67, some 7)], [(68, some 8)], [(9, none)], [(69, some 9), (70, some 10)], [(71, some 11)], [(0, none)], [(73, some 13)], [(74, some 14)], [(75, some 15)], [(10, none)], [(76, some 16), (77, some 17)], [(78, some 18)], [(72, some 12), (79, some 19)], [(65, some 5), (80, some 20)]] (by kernel_rfl) (by kernel_rfl) Ext.refl (fun _ _ _ => Ext.trans) ?_ ?_ ?_
                        · intro F hF
                          simp only [List.mem_cons, List.not_mem_nil, or_false] at hF
                          rcases hF with rfl | rfl | rfl | rfl | rfl | rfl | rfl | rfl | rfl | rfl | rfl | rfl | rfl | rfl | rfl | rfl | rfl | rfl | rfl | rfl | rfl | rfl <;> exact fun _ _ _ h _ => h
                        · refine ⟨?_, ?_, ?_, ?_, ?_, ?_, ?_, ?_, ?_, ?_, ?_, ?_, ?_, ?_, ?_, ?_, ?_, ?_, ?_, ?_, ?_, ?_, trivial⟩
                          · rintro ρ w1 hw hcst hfn hk
                            clear hw
                            simp only [known, List.getD_cons_zero, List.getD_cons_succ, Nat.reduceAdd] at hk
                            simp only [List.getD_cons_zero, List.getD_cons_succ, Nat.reduceAdd, flowAt]
                            go_simp
                            exact ⟨Ext.refl _, by first | rfl | trivial⟩
                          · rintro ρ w1 hw hcst hfn hk
                            clear hw
                            simp only [known, List.getD_cons_zero, List.getD_cons_succ, Nat.reduceAdd] at hk
                            simp only [List.getD_cons_zero, List.getD_cons_succ, Nat.reduceAdd, flowAt]
                            go_simp
                            exact ⟨Ext.refl _, by first | rfl | trivial⟩
                          · rintro ρ w1 hw hcst hfn hk
                            simp only [known, List.getD_cons_zero, List.getD_cons_succ, Nat.reduceAdd] at hk
                            simp only [List.getD_cons_zero, List.getD_cons_succ, Nat.reduceAdd, flowAt]
                            go_simp
                            exact ⟨Ext.refl _, by first | rfl | simp⟩
                          · rintro ρ w1 hw hcst hfn hk
                            have c0 := hw.cell (b := g) (o := k) (v := .int .i64 val) (by first | (simp [*]; done) | (simp [*, go_sem]; done) | go_cell)
                            clear hw
                            simp only [known, List.getD_cons_zero, List.getD_cons_succ, Nat.reduceAdd] at hk
                            simp only [List.getD_cons_zero, List.getD_cons_succ, Nat.reduceAdd, flowAt]
                            go_simp
                            exact ⟨Ext.refl _, by first | rfl | trivial⟩
                          · rintro ρ w1 hw hcst hfn hk
                            simp only [known, List.getD_cons_zero, List.getD_cons_succ, Nat.reduceAdd] at hk
                            simp only [List.getD_cons_zero, List.getD_cons_succ, Nat.reduceAdd, flowAt]
                            go_simp
                            (first | exact ⟨Ext.refl _, rfl⟩ | exact ⟨Ext.refl _, by simp [hv0]⟩ | exact ⟨Ext.refl _, by simp; omega⟩)
                          · rintro ρ w1 hw hcst hfn hk
                            clear hw
                            simp only [known, List.getD_cons_zero, List.getD_cons_succ, Nat.reduceAdd] at hk
                            simp only [List.getD_cons_zero, List.getD_cons_succ, Nat.reduceAdd, flowAt]
                            go_simp
                            exact ⟨Ext.refl _, by first | rfl | trivial⟩
                          · rintro ρ w1 hw hcst hfn hk
                            clear hw
                            simp only [known, List.getD_cons_zero, List.getD_cons_succ, Nat.reduceAdd] at hk
                            simp only [List.getD_cons_zero, List.getD_cons_succ, Nat.reduceAdd, flowAt]
                            rintro vg rfl
                            refine ⟨fun hg => ?_, fun hg => ?_⟩ <;> simp at hg
                            go_simp
                            exact ⟨Ext.refl _, by first | rfl | trivial⟩
                          · rintro ρ w1 hw hcst hfn hk
                            clear hw
                            simp only [known, List.getD_cons_zero, List.getD_cons_succ, Nat.reduceAdd] at hk
                            simp only [List.getD_cons_zero, List.getD_cons_succ, Nat.reduceAdd, flowAt]
                            rintro vg rfl
                            refine ⟨fun hg => ?_, fun hg => ?_⟩ <;> simp at hg
                            go_simp
                            exact ⟨Ext.refl _, by first | rfl | trivial⟩
                          · rintro ρ w1 hw hcst hfn hk
                            clear hw
                            simp only [known, List.getD_cons_zero, List.getD_cons_succ, Nat.reduceAdd] at hk
                            simp only [List.getD_cons_zero, List.getD_cons_succ, Nat.reduceAdd, flowAt]
                            rintro vg rfl
                            refine ⟨fun hg => ?_, fun hg => ?_⟩ <;> simp at hg
                            go_simp
                            exact ⟨Ext.refl _, by first | rfl | trivial⟩
                          · rintro ρ w1 hw hcst hfn hk
                            have c0 := hw.cell (b := lb) (o := lo) (v := .slice (some ⟨b, o, none⟩) l.length c) (by first | (simp [*]; done) | (simp [*, go_sem]; done) | go_cell)
                            clear hw
                            simp only [known, List.getD_cons_zero, List.getD_cons_succ, Nat.reduceAdd] at hk
                            simp only [List.getD_cons_zero, List.getD_cons_succ, Nat.reduceAdd, flowAt]
                            rintro vg rfl
                            refine ⟨fun hg => ?_, fun hg => ?_⟩ <;> simp at hg
                            go_simp
                            exact ⟨Ext.refl _, by first | rfl | trivial⟩
                          · rintro ρ w1 hw hcst hfn hk
                            clear hw
                            simp only [known, List.getD_cons_zero, List.getD_cons_succ, Nat.reduceAdd] at hk
                            simp only [List.getD_cons_zero, List.getD_cons_succ, Nat.reduceAdd, flowAt]
                            rintro vg rfl
                            refine ⟨fun hg => ?_, fun hg => ?_⟩ <;> simp at hg
                            go_simp
                            exact ⟨Ext.refl _, by first | rfl | trivial⟩
                          · rintro ρ w1 hw hcst hfn hk
                            simp only [known, List.getD_cons_zero, List.getD_cons_succ, Nat.reduceAdd] at hk
                            simp only [List.getD_cons_zero, List.getD_cons_succ, Nat.reduceAdd, flowAt]
                            rintro vg rfl
                            refine ⟨fun hg => ?_, fun hg => ?_⟩ <;> simp at hg
                            go_simp
                            exact ⟨Ext.refl _, by first | rfl | rw [hq1]⟩
                          · rintro ρ w1 hw hcst hfn hk
                            have c0 := hw.cell (b := b) (o := q1) (v := .string s1) (by first | (simp [*]; done) | (simp [*, go_sem]; done) | go_cell)
                            clear hw
                            simp only [known, List.getD_cons_zero, List.getD_cons_succ, Nat.reduceAdd] at hk
                            simp only [List.getD_cons_zero, List.getD_cons_succ, Nat.reduceAdd, flowAt]
                            rintro vg rfl
                            refine ⟨fun hg => ?_, fun hg => ?_⟩ <;> simp at hg
                            go_simp
                            exact ⟨Ext.refl _, by first | rfl | trivial⟩
                          · rintro ρ w1 hw hcst hfn hk
                            clear hw
                            simp only [known, List.getD_cons_zero, List.getD_cons_succ, Nat.reduceAdd] at hk
                            simp only [List.getD_cons_zero, List.getD_cons_succ, Nat.reduceAdd, flowAt]
                            rintro vg rfl
                            refine ⟨fun hg => ?_, fun hg => ?_⟩ <;> simp at hg
                            go_simp
                            exact ⟨Ext.refl _, by first | rfl | trivial⟩
                          · rintro ρ w1 hw hcst hfn hk
                            clear hw
                            simp only [known, List.getD_cons_zero, List.getD_cons_succ, Nat.reduceAdd] at hk
                            simp only [List.getD_cons_zero, List.getD_cons_succ, Nat.reduceAdd, flowAt]
                            rintro vg rfl
                            refine ⟨fun hg => ?_, fun hg => ?_⟩ <;> simp at hg
                            go_simp
                            exact ⟨Ext.refl _, by first | rfl | trivial⟩
                          · rintro ρ w1 hw hcst hfn hk
                            clear hw
                            simp only [known, List.getD_cons_zero, List.getD_cons_succ, Nat.reduceAdd] at hk
                            simp only [List.getD_cons_zero, List.getD_cons_succ, Nat.reduceAdd, flowAt]
                            rintro vg rfl
                            refine ⟨fun hg => ?_, fun hg => ?_⟩ <;> simp at hg
                            go_simp
                            exact ⟨Ext.refl _, by first | rfl | trivial⟩
                          · rintro ρ w1 hw hcst hfn hk
                            have c0 := hw.cell (b := lb) (o := lo) (v := .slice (some ⟨b, o, none⟩) l.length c) (by first | (simp [*]; done) | (simp [*, go_sem]; done) | go_cell)
                            clear hw
                            simp only [known, List.getD_cons_zero, List.getD_cons_succ, Nat.reduceAdd] at hk
                            simp only [List.getD_cons_zero, List.getD_cons_succ, Nat.reduceAdd, flowAt]
                            rintro vg rfl
                            refine ⟨fun hg => ?_, fun hg => ?_⟩ <;> simp at hg
                            go_simp
                            exact ⟨Ext.refl _, by first | rfl | trivial⟩
                          · rintro ρ w1 hw hcst hfn hk
                            clear hw
                            simp only [known, List.getD_cons_zero, List.getD_cons_succ, Nat.reduceAdd] at hk
                            simp only [List.getD_cons_zero, List.getD_cons_succ, Nat.reduceAdd, flowAt]
                            rintro vg rfl
                            refine ⟨fun hg => ?_, fun hg => ?_⟩ <;> simp at hg
                            go_simp
                            exact ⟨Ext.refl _, by first | rfl | trivial⟩
                          · rintro ρ w1 hw hcst hfn hk
                            simp only [known, List.getD_cons_zero, List.getD_cons_succ, Nat.reduceAdd] at hk
                            simp only [List.getD_cons_zero, List.getD_cons_succ, Nat.reduceAdd, flowAt]
                            rintro vg rfl
                            refine ⟨fun hg => ?_, fun hg => ?_⟩ <;> simp at hg
                            go_simp
                            exact ⟨Ext.refl _, by first | rfl | rw [hq2]⟩
                          · rintro ρ w1 hw hcst hfn hk
                            have c0 := hw.cell (b := b) (o := q2) (v := .string s2) (by first | (simp [*]; done) | (simp [*, go_sem]; done) | go_cell)
                            clear hw
                            simp only [known, List.getD_cons_zero, List.getD_cons_succ, Nat.reduceAdd] at hk
                            simp only [List.getD_cons_zero, List.getD_cons_succ, Nat.reduceAdd, flowAt]
                            rintro vg rfl
                            refine ⟨fun hg => ?_, fun hg => ?_⟩ <;> simp at hg
                            go_simp
                            exact ⟨Ext.refl _, by first | rfl | trivial⟩
                          · rintro ρ w1 hw hcst hfn hk
                            simp only [known, List.getD_cons_zero, List.getD_cons_succ, Nat.reduceAdd] at hk
                            simp only [List.getD_cons_zero, List.getD_cons_succ, Nat.reduceAdd, flowAt]
                            rintro vg rfl
                            refine ⟨fun hg => ?_, fun hg => ?_⟩ <;> simp at hg
                            go_simp
                            exact flow_dr (HNk.out _)
                          · rintro ρ w1 hw hcst hfn hk
                            clear hw
                            simp only [known, List.getD_cons_zero, List.getD_cons_succ, Nat.reduceAdd] at hk
                            simp only [List.getD_cons_zero, List.getD_cons_succ, Nat.reduceAdd, flowAt]
                            go_simp
                            exact ⟨Ext.refl _, by first | rfl | trivial⟩
                        intro vs w1 hw hf
                        simp only [flowFacts, Nat.reduceAdd] at hf
                        obtain ⟨e0, e1, e2, e3, e4, e5, e6, e7, e8, e9, e10, e11, e12, e13, e14, e15, e16, e17, e18, e19, e20, e21, -⟩ := hf
                        simp only [List.take_succ_cons, List.take_zero, List.drop_succ_cons, List.drop_zero, putAll, Act.put, Nat.reduceAdd, List.setIfInBounds_toArray, List.set_cons_zero, List.set_cons_succ, e0, e1, e2, e3, e4, e5, e6, e7, e8, e9, e10, e11, e12, e13, e14, e15, e16, e17, e18, e19, e20, e21]
                        clear e0 e1 e2 e3 e4 e5 e6 e7 e8 e9 e10 e11 e12 e13 e14 e15 e16 e17 e18 e19 e20 e21
                        have hy := hx.trans ((Ext.refl _).drew.trans hw)
                        have HW1 := hid (HW.out.ext ((Ext.refl _).drew.trans hw))
                        clear hw
                        obtain ⟨f1, f2⟩ := HW1.out.fit k (by rw [intsF_length]; exact hkl)
                        have HW2 := hid (HW1.out.set k (by rw [intsF_length]; exact hkl) (.int .i64 ((d + 1 : Nat) : Int)))
                        rw [HE.out] at HW2
                        have hd1 : Hid ((d : Int) + 1 = ((d + 1 : Nat) : Int)) := hid (by omega)
                        obtain ⟨u, hu⟩ : ∃ u, (intsF l.length (ladK l ib d i k))[k]'(by rw [intsF_length]; exact hkl) = u := ⟨_, rfl⟩
                        rw [hu] at f1
                        clear hu
                        go_wp2_with fail
                        go_roundw
                        case rel => exact ⟨k + 1, by omega, by go_num, hid (by first | exact HW2.out | (rw [hd1.out]; exact HW2.out)), hy.setCell (by show w.heap.size ≤ g; omega) _⟩
                        case measure => simp [intOf]; omega
                    · have HE := hid (HKS.out (by rw [HHk, if_neg (fun h => hv0 h.1)]))
                      clear HHk hrng
                      go_wp2_with fail
                      refine wp_region_flow_at (C := Ext) 22 [fun v _ => v = .slice (some ⟨g, 0, none⟩) l.length cap, fun v _ => v = .int .i64 (k : Int), fun v _ => v = .pointer (some ⟨g, k, none⟩), fun v _ => v = .int .i64 val, fun v _ => v = .bool false, fun v _ => v = .bool false, fun v _ => v = undef, fun v _ => v = undef, fun v _ => v = undef, fun v _ => v = undef, fun v _ => v = undef, fun v _ => v = undef, fun v _ => v = undef, fun v _ => v = undef, fun v _ => v = undef, fun v _ => v = undef, fun v _ => v = undef, fun v _ => v = undef, fun v _ => v = undef, fun v _ => v = undef, fun v _ => v = undef, fun v _ => v = .bool false]
                        [[(5, none)], [(10, none)], [(60, some 0), (61, some 1)], [(62, some 2)], [(63, some 3)], [(64, some 4)], [(0, none)], [(66, some 6)], [(67, some 7)], [(68, some 8)], [(9, none)], [(69, some 9), (70, some 10)], [(71, some 11)], [(0, none)], [(73, some 13)], [(74, some 14)], [(75, some 15)], [(10, none)], [(76, some 16), (77, some 17)], [(78, some 18)], [(72, some 12), (79, some 19)], [(65, some 5), (80, some 20)]] (by kernel_rfl) (by kernel_rfl) Ext.refl (fun _ _ _ => Ext.trans) ?_ ?_ ?_
                      · intro F hF
                        simp only [List.mem_cons, List.not_mem_nil, or_false] at hF
                        rcases hF with rfl | rfl | rfl | rfl | rfl | rfl | rfl | rfl | rfl | rfl | rfl | rfl | rfl | rfl | rfl | rfl | rfl | rfl | rfl | rfl | rfl | rfl <;> exact fun _ _ _ h _ => h
                      · refine ⟨?_, ?_, ?_, ?_, ?_, ?_, ?_, ?_, ?_, ?_, ?_, ?_, ?_, ?_, ?_, ?_, ?_, ?_, ?_, ?_, ?_, ?_, trivial⟩
                        · rintro ρ w1 hw hcst hfn hk
                          clear hw
                          simp only [known, List.getD_cons_zero, List.getD_cons_succ, Nat.reduceAdd] at hk
                          simp only [List.getD_cons_zero, List.getD_cons_succ, Nat.reduceAdd, flowAt]
                          go_simp
                          exact ⟨Ext.refl _, by first | rfl | trivial⟩
                        · rintro ρ w1 hw hcst hfn hk
                          clear hw
                          simp only [known, List.getD_cons_zero, List.getD_cons_succ, Nat.reduceAdd] at hk
                          simp only [List.getD_cons_zero, List.getD_cons_succ, Nat.reduceAdd, flowAt]
                          go_simp
                          exact ⟨Ext.refl _, by first | rfl | trivial⟩
                        · rintro ρ w1 hw hcst hfn hk
                          simp only [known, List.getD_cons_zero, List.getD_cons_succ, Nat.reduceAdd] at hk
                          simp only [List.getD_cons_zero, List.getD_cons_succ, Nat.reduceAdd, flowAt]
                          go_simp
                          exact ⟨Ext.refl _, by first | rfl | simp⟩
                        · rintro ρ w1 hw hcst hfn hk
                          have c0 := hw.cell (b := g) (o := k) (v := .int .i64 val) (by first | (simp [*]; done) | (simp [*, go_sem]; done) | go_cell)
                          clear hw
                          simp only [known, List.getD_cons_zero, List.getD_cons_succ, Nat.reduceAdd] at hk
                          simp only [List.getD_cons_zero, List.getD_cons_succ, Nat.reduceAdd, flowAt]
                          go_simp
                          exact ⟨Ext.refl _, by first | rfl | trivial⟩
                        · rintro ρ w1 hw hcst hfn hk
                          simp only [known, List.getD_cons_zero, List.getD_cons_succ, Nat.reduceAdd] at hk
                          simp only [List.getD_cons_zero, List.getD_cons_succ, Nat.reduceAdd, flowAt]
                          go_simp
                          (first | exact ⟨Ext.refl _, rfl⟩ | exact ⟨Ext.refl _, by simp [hv0]⟩ | exact ⟨Ext.refl _, by simp; omega⟩)
                        · rintro ρ w1 hw hcst hfn hk
                          clear hw
                          simp only [known, List.getD_cons_zero, List.getD_cons_succ, Nat.reduceAdd] at hk
                          simp only [List.getD_cons_zero, List.getD_cons_succ, Nat.reduceAdd, flowAt]
                          go_simp
                          exact ⟨Ext.refl _, by first | rfl | trivial⟩
                        · rintro ρ w1 hw hcst hfn hk
                          clear hw
                          simp only [known, List.getD_cons_zero, List.getD_cons_succ, Nat.reduceAdd] at hk
                          simp only [List.getD_cons_zero, List.getD_cons_succ, Nat.reduceAdd, flowAt]
                          rintro vg rfl
                          refine ⟨fun hg => ?_, fun hg => ?_⟩ <;> simp at hg
                          first | exact trivial | exact rfl
                        · rintro ρ w1 hw hcst hfn hk
                          clear hw
                          simp only [known, List.getD_cons_zero, List.getD_cons_succ, Nat.reduceAdd] at hk
                          simp only [List.getD_cons_zero, List.getD_cons_succ, Nat.reduceAdd, flowAt]
                          rintro vg rfl
                          refine ⟨fun hg => ?_, fun hg => ?_⟩ <;> simp at hg
                          first | exact trivial | exact rfl
                        · rintro ρ w1 hw hcst hfn hk
                          clear hw
                          simp only [known, List.getD_cons_zero, List.getD_cons_succ, Nat.reduceAdd] at hk
                          simp only [List.getD_cons_zero, List.getD_cons_succ, Nat.reduceAdd, flowAt]
                          rintro vg rfl
                          refine ⟨fun hg => ?_, fun hg => ?_⟩ <;> simp at hg
                          first | exact trivial | exact rfl
                        · rintro ρ w1 hw hcst hfn hk
                          clear hw
                          simp only [known, List.getD_cons_zero, List.getD_cons_succ, Nat.reduceAdd] at hk
                          simp only [List.getD_cons_zero, List.getD_cons_succ, Nat.reduceAdd, flowAt]
                          rintro vg rfl
                          refine ⟨fun hg => ?_, fun hg => ?_⟩ <;> simp at hg
                          first | exact trivial | exact rfl
                        · rintro ρ w1 hw hcst hfn hk
                          clear hw
                          simp only [known, List.getD_cons_zero, List.getD_cons_succ, Nat.reduceAdd] at hk
                          simp only [List.getD_cons_zero, List.getD_cons_succ, Nat.reduceAdd, flowAt]
                          rintro vg rfl
                          refine ⟨fun hg => ?_, fun hg => ?_⟩ <;> simp at hg
                          first | exact trivial | exact rfl
                        · rintro ρ w1 hw hcst hfn hk
                          clear hw
                          simp only [known, List.getD_cons_zero, List.getD_cons_succ, Nat.reduceAdd] at hk
                          simp only [List.getD_cons_zero, List.getD_cons_succ, Nat.reduceAdd, flowAt]
                          rintro vg rfl
                          refine ⟨fun hg => ?_, fun hg => ?_⟩ <;> simp at hg
                          first | exact trivial | exact rfl
                        · rintro ρ w1 hw hcst hfn hk
                          clear hw
                          simp only [known, List.getD_cons_zero, List.getD_cons_succ, Nat.reduceAdd] at hk
                          simp only [List.getD_cons_zero, List.getD_cons_succ, Nat.reduceAdd, flowAt]
                          rintro vg rfl
                          refine ⟨fun hg => ?_, fun hg => ?_⟩ <;> simp at hg
                          first | exact trivial | exact rfl
                        · rintro ρ w1 hw hcst hfn hk
                          clear hw
                          simp only [known, List.getD_cons_zero, List.getD_cons_succ, Nat.reduceAdd] at hk
                          simp only [List.getD_cons_zero, List.getD_cons_succ, Nat.reduceAdd, flowAt]
                          rintro vg rfl
                          refine ⟨fun hg => ?_, fun hg => ?_⟩ <;> simp at hg
                          first | exact trivial | exact rfl
                        · rintro ρ w1 hw hcst hfn hk
                          clear hw
                          simp only [known, List.getD_cons_zero, List.getD_cons_succ, Nat.reduceAdd] at hk
                          simp only [List.getD_cons_zero, List.getD_cons_succ, Nat.reduceAdd, flowAt]
                          rintro vg rfl
                          refine ⟨fun hg => ?_, fun hg => ?_⟩ <;> simp at hg
                          first | exact trivial | exact rfl
                        · rintro ρ w1 hw hcst hfn hk
                          clear hw
                          simp only [known, List.getD_cons_zero, List.getD_cons_succ, Nat.reduceAdd] at hk
                          simp only [List.getD_cons_zero, List.getD_cons_succ, Nat.reduceAdd, flowAt]
                          rintro vg rfl
                          refine ⟨fun hg => ?_, fun hg => ?_⟩ <;> simp at hg
                          first | exact trivial | exact rfl
                        · rintro ρ w1 hw hcst hfn hk
                          clear hw
                          simp only [known, List.getD_cons_zero, List.getD_cons_succ, Nat.reduceAdd] at hk
                          simp only [List.getD_cons_zero, List.getD_cons_succ, Nat.reduceAdd, flowAt]
                          rintro vg rfl
                          refine ⟨fun hg => ?_, fun hg => ?_⟩ <;> simp at hg
                          first | exact trivial | exact rfl
                        · rintro ρ w1 hw hcst hfn hk
                          clear hw
                          simp only [known, List.getD_cons_zero, List.getD_cons_succ, Nat.reduceAdd] at hk
                          simp only [List.getD_cons_zero, List.getD_cons_succ, Nat.reduceAdd, flowAt]
                          rintro vg rfl
                          refine ⟨fun hg => ?_, fun hg => ?_⟩ <;> simp at hg
                          first | exact trivial | exact rfl
                        · rintro ρ w1 hw hcst hfn hk
                          clear hw
                          simp only [known, List.getD_cons_zero, List.getD_cons_succ, Nat.reduceAdd] at hk
                          simp only [List.getD_cons_zero, List.getD_cons_succ, Nat.reduceAdd, flowAt]
                          rintro vg rfl
                          refine ⟨fun hg => ?_, fun hg => ?_⟩ <;> simp at hg
                          first | exact trivial | exact rfl
                        · rintro ρ w1 hw hcst hfn hk
                          clear hw
                          simp only [known, List.getD_cons_zero, List.getD_cons_succ, Nat.reduceAdd] at hk
                          simp only [List.getD_cons_zero, List.getD_cons_succ, Nat.reduceAdd, flowAt]
                          rintro vg rfl
                          refine ⟨fun hg => ?_, fun hg => ?_⟩ <;> simp at hg
                          first | exact trivial | exact rfl
                        · rintro ρ w1 hw hcst hfn hk
                          clear hw
                          simp only [known, List.getD_cons_zero, List.getD_cons_succ, Nat.reduceAdd] at hk
                          simp only [List.getD_cons_zero, List.getD_cons_succ, Nat.reduceAdd, flowAt]
                          rintro vg rfl
                          refine ⟨fun hg => ?_, fun hg => ?_⟩ <;> simp at hg
                          first | exact trivial | exact rfl
                        · rintro ρ w1 hw hcst hfn hk
                          clear hw
                          simp only [known, List.getD_cons_zero, List.getD_cons_succ, Nat.reduceAdd] at hk
                          simp only [List.getD_cons_zero, List.getD_cons_succ, Nat.reduceAdd, flowAt]
                          go_simp
                          exact ⟨Ext.refl _, by first | rfl | trivial⟩
                      intro vs w1 hw hf
                      simp only [flowFacts, Nat.reduceAdd] at hf
                      obtain ⟨e0, e1, e2, e3, e4, e5, e6, e7, e8, e9, e10, e11, e12, e13, e14, e15, e16, e17, e18, e19, e20, e21, -⟩ := hf
                      simp only [List.take_succ_cons, List.take_zero, List.drop_succ_cons, List.drop_zero, putAll, Act.put, Nat.reduceAdd, List.setIfInBounds_toArray, List.set_cons_zero, List.set_cons_succ, e0, e1, e2, e3, e4, e5, e6, e7, e8, e9, e10, e11, e12, e13, e14, e15, e16, e17, e18, e19, e20, e21]
                      clear e0 e1 e2 e3 e4 e5 e6 e7 e8 e9 e10 e11 e12 e13 e14 e15 e16 e17 e18 e19 e20 e21
                      have hy := hx.trans ((Ext.refl _).drew.trans hw)
                      have HW1 := hid (HW.out.ext ((Ext.refl _).drew.trans hw))
                      clear hw
                      go_wp2_with fail
                      go_roundw
                      case rel => exact ⟨k + 1, by omega, by go_num, hid (by rw [← HE.out]; exact HW1.out), hy⟩
                      case measure => simp [intOf]; omega
                  · obtain rfl : k = l.length := by omega
                    have HW1 : Hid (Wr wr g (intsF l.length (ladM l ib d (i + 1)))) := hid (by
                      rw [← intsF_congr (S := ladK l ib d i l.length) (fun j hj => by rw [HLK.out, if_pos hj])]
                      exact HW.out)
                    clear HW
                    go_wp2_with fail
                    go_roundw
                    case rel => exact ⟨i + 1, by omega, by go_num, HW1, hx⟩
                    case measure => simp [intOf]; omega
              · have HE := hid (intsF_congr (n := l.length) (fun k _ => HMI.out d i hdi k))
                have hne : ¬ ladM l ib d i i = (d : Int) := fun e => hdi ((HMT.out d i i).1 e)
                have hci := HW.out.2.1 i _ (intsF_get l.length (ladM l ib d i) i hil)
                obtain ⟨u, hu⟩ : ∃ u, ladM l ib d i i = u := ⟨_, rfl⟩
                rw [hu] at hne hci
                have hbe : (u == (d : Int)) = false := by simpa using hne
                have HWQ := hid (show Hid (Wr _ g (intsF l.length (ladM l ib d i))) from HW)
                clear hu hdi
                go_wp2_with fail
                go_loopw [10] (fun k wq => k = .int .i64 0 ∧ wq.cell? ⟨g, i, none⟩ = some (.int .i64 u) ∧ Hid (Wr wq g (intsF l.length (ladM l ib d i))) ∧ Ext w wq) (fun k _ => 0)
                case atStart => exact ⟨rfl, hci, HW, hx⟩
                case round =>
                  clear HW hx hci HWQ
                  obtain ⟨rfl, hci, HW, hx⟩ := hrel
                  have hn0 : 0 < l.length := by omega
                  go_wp2_with fail
                  go_roundw
                  case rel => exact ⟨i + 1, by omega, by go_num, hid (by rw [HE.out]; exact HW.out), hx⟩
                  case measure => simp [intOf]; omega
            · obtain rfl : i = l.length := by omega
              have HW1 : Hid (Wr wr g (intsF l.length (lad l ib (d + 1)))) := hid (by
                rw [← intsF_congr (S := ladM l ib d l.length) (fun j hj => HMA.out d j)]
                exact HW.out)
              clear HW
              go_wp2_with fail
              go_roundw
              case rel => exact ⟨d + 1, by omega, by go_num, HW1, hx⟩
              case measure => simp [intOf]; omega
        · obtain rfl : d = l.length := by omega
          have HW1 : Hid (Wr wr g (intsV ((List.range l.length).map (far l ib)))) := hid (by
            rw [← intsF_ints, ← intsF_congr (S := lad l ib l.length) (fun j hj => (HFAR.out j).symm)]
            exact HW.out)
          have HLN : Hid ((intsV ((List.range l.length).map (far l ib))).length = l.length) := hid (by simp [intsV])
          clear HW
          go_wp2_with fail
          go_returns
          exact ⟨some ⟨g, 0, none⟩, cap, by rw [HLN.out]; rfl, .inr ⟨g, rfl, by omega, HW1.out⟩, hx⟩
end Go.Proofs.Ytaigabenlccdaaa
