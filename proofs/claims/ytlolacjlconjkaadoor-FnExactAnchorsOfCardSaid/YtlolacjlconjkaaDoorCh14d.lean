/- AnchorsOf, by both. Conditions stand at each. -/
import Derived.Test.YtlolacjlconjkaaDoorCh14b
import Derived.Test.YtlolacjlconjkaaDoorSqP
namespace Go.Proofs.YtlolacjlconjkaaDoor
set_option linter.unusedVariables false
set_option linter.unusedSimpArgs false
open Go Go.RowKit
def ancRow (n : Int) (c : ByteArray) (r k : Nat) : List (Int × Int) := ((List.range k).filter fun j : Nat => ancB n c (r : Int) (j : Int)).map fun j : Nat => ((r : Int), (j : Int))
theorem ancRow_succ (n : Int) (c : ByteArray) (r k : Nat) : ancRow n c r (k + 1) = ancRow n c r k ++ if ancB n c (r : Int) (k : Int) then [((r : Int), (k : Int))] else [] := by
  unfold ancRow
  rw [List.range_succ, List.filter_append, List.map_append]
  cases h : ancB n c (r : Int) (k : Int) <;> simp [h]
theorem ancRow_le (n : Int) (c : ByteArray) (r k : Nat) : (ancRow n c r k).length ≤ k := by
  unfold ancRow
  rw [List.length_map]
  have := List.length_filter_le (fun j : Nat => ancB n c (r : Int) (j : Int)) (List.range k)
  rwa [List.length_range] at this
def ancTo (n : Int) (c : ByteArray) (r : Nat) : List (Int × Int) := (List.range r).flatMap fun r => ancRow n c r n.toNat
theorem ancTo_succ (n : Int) (c : ByteArray) (r : Nat) : ancTo n c (r + 1) = ancTo n c r ++ ancRow n c r n.toNat := by
  unfold ancTo
  rw [List.range_succ, List.flatMap_append]
  simp
theorem ancTo_le (n : Int) (c : ByteArray) (r : Nat) : (ancTo n c r).length ≤ r * n.toNat := by
  induction r with
  | zero => simp [ancTo]
  | succ r ih =>
    rw [ancTo_succ, List.length_append, Nat.add_mul, Nat.one_mul]
    have := ancRow_le n c r n.toNat
    omega
def ancL (n : Int) (p c : ByteArray) : List (Int × Int) := if okB n p c then ancTo n c n.toNat else []
def ancE (n : Int) (p c : ByteArray) : Int := if okB n p c then 0 else 1
def RetP (l : List (Int × Int)) (y : Int) (w : World) (e : Ending) (w' : World) : Prop := ∃ a c, e = .returned (.tuple #[.slice a l.length c, .int .i64 y]) ∧ Own w' w.heap.size 57 2 a l.length c (prsV l) ∧ Ext w w'
theorem anc_bound (n : Int) (c : ByteArray) (r k : Nat) (h : n ≤ 15) (hr : (r : Int) ≤ n) (hk : (k : Int) ≤ n) : (ancTo n c r).length + (ancRow n c r k).length ≤ 240 := by
  have h1 := ancTo_le n c r
  have h2 := ancRow_le n c r k
  have h3 : r * n.toNat ≤ 15 * 15 := Nat.mul_le_mul (by omega) (by omega)
  omega
theorem enters_anchor : ∀ (x y z : Value) (w : World), (callFunc 31 #[x, y, z]).run Tryd.prog w = .ok (.enter 31 #[x, y, z]) w := fun x y z w => by kernel_rfl
set_option maxHeartbeats 2000000 in
theorem squares_any (n : Int) (p c : ByteArray) (w : World) (hok : okB n p c = true) (hM : MaxAt w) :
    Calls Tryd.prog 44 #[boardV n p c, .func (.func 31) #[] #[]] w (fun e w' => ∃ a cc, e = .returned (.slice a (ancTo n c n.toNat).length cc) ∧ Own w' w.heap.size 57 2 a (ancTo n c n.toNat).length cc (prsV (ancTo n c n.toNat)) ∧ Ext w w') := by
  obtain ⟨h1, h2, h3, h4⟩ := okB_true hok
  have HM := hid (fun w' (h : Ext w w') => hM.ext h)
  have HA := hid (fun i j w' (h : MaxAt w') => anchor_any n p c i j w' hok h)
  have HR := hid (ancRow_succ n c)
  have HT := hid (ancTo_succ n c)
  have HBD := hid (fun r k => anc_bound n c r k h2)
  have hcf := enters_anchor
  clear h3 h4 hM hok
  go_enter Tryd.func44, Tryd.ntmps44
  go_wp2_with fail
  go_loopw [5, 6] (fun v i wr => ∃ (r m cap : Nat) (a' : Option Addr), (r : Int) ≤ n ∧ i = .int .i64 (r : Int) ∧ v = .slice a' m cap ∧ Hid ((ancTo n c r).length = m) ∧ Hid (Own wr (w.heap.size + 2) 57 2 a' m cap (prsV (ancTo n c r))) ∧ Ext ((w.alloc (.cells #[.int .i64 n, .string p, .string c] 26)).alloc (.cells #[] 57)) wr) (fun _ i _ => (n - intOf i).toNat)
  case atStart => exact ⟨0, 0, 0, some ⟨w.heap.size + 1, 0, none⟩, by omega, rfl, rfl, hid rfl, hid (Own.empty _ _ _ _ _), Ext.refl _⟩
  case round =>
    obtain ⟨r, m, cap, a', hr, rfl, rfl, HLm, hown, hx⟩ := hrel
    have b0 := hx.cell (b := w.heap.size) (o := 0) (v := .int .i64 n) (by go_cell)
    have b1 := hx.cell (b := w.heap.size) (o := 1) (v := .string p) (by go_cell)
    have b2 := hx.cell (b := w.heap.size) (o := 2) (v := .string c) (by go_cell)
    by_cases hlt : (r : Int) < n
    · go_wp2_with fail
      go_loopw [5, 7] (fun v i wr => ∃ (k m cap : Nat) (a' : Option Addr), (k : Int) ≤ n ∧ i = .int .i64 (k : Int) ∧ v = .slice a' m cap ∧ Hid ((ancTo n c r ++ ancRow n c r k).length = m) ∧ Hid (Own wr (w.heap.size + 2) 57 2 a' m cap (prsV (ancTo n c r ++ ancRow n c r k))) ∧ Ext ((w.alloc (.cells #[.int .i64 n, .string p, .string c] 26)).alloc (.cells #[] 57)) wr) (fun _ i _ => (n - intOf i).toNat)
      case atStart => exact ⟨0, m, cap, a', by omega, rfl, rfl, hid (by simpa [ancRow] using HLm.out), hid (by simpa [ancRow] using hown.out), hx⟩
      case round =>
        clear hx b0 b1 b2 hown HLm
        obtain ⟨k, m, cap, a', hk, rfl, rfl, HLm, hown, hx⟩ := hrel
        have b0 := hx.cell (b := w.heap.size) (o := 0) (v := .int .i64 n) (by go_cell)
        have b1 := hx.cell (b := w.heap.size) (o := 1) (v := .string p) (by go_cell)
        have b2 := hx.cell (b := w.heap.size) (o := 2) (v := .string c) (by go_cell)
        have hE := (((Ext.refl w).alloc (.cells #[.int .i64 n, .string p, .string c] 26)).alloc (.cells #[] 57)).trans hx
        have hsz := hx.size
        simp only [World.size_alloc] at hsz
        have hm240 : m ≤ 240 := by
          have := HBD.out r k hr hk
          have h2 := HLm.out
          rw [List.length_append] at h2
          omega
        by_cases hlk : (k : Int) < n
        · have HRk := hid (HR.out r k)
          have HAk := hid (HA.out (r : Int) (k : Int))
          cases ha : ancB n c (r : Int) (k : Int)
          · rw [ha] at HRk HAk
            clear ha
            go_wp2_with fail
            refine (HAk.out _ (HM.out _ hE)).mono ?_
            rintro e w3 ⟨rfl, hy⟩
            have hx3 := hx.trans hy
            have HO := hid (hown.out.ext hy)
            go_wp2_with fail
            go_roundw
            case rel => exact ⟨k + 1, m, cap, a', by omega, by go_num, rfl, hid (by rw [HRk.out]; simpa using HLm.out), hid (by rw [HRk.out]; simpa using HO.out), hx3⟩
            case measure => simp [intOf]; omega
          · rw [ha] at HRk HAk
            clear ha
            go_wp2_with fail
            refine (HAk.out _ (HM.out _ hE)).mono ?_
            rintro e w3 ⟨rfl, hy⟩
            have hx3 := hx.trans hy
            have hown2 := hown.out.ext hy
            have hs3 := hy.size
            clear hown hy b0 b1 b2
            go_wp2_with (at_builtin; refine wpList_push rfl _ _ 35 rfl El_sqp rfl [_, _] rfl rfl (by simp [Value.oneCell']) hown2 (by omega) (by unfold maxLen; omega) (by omega) ?_; intro a3 c3 w4 hown3 hb3; have HO := hid hown3; clear hown3 hown2)
            go_roundw
            case rel => exact ⟨k + 1, m + 1, c3, a3, by omega, by go_num, rfl, hid (by rw [HRk.out, if_pos trivial, ← List.append_assoc, List.length_append, HLm.out]; rfl), hid (by rw [HRk.out, if_pos trivial, ← List.append_assoc, prsV_append]; exact HO.out), hx3.thenBelow hb3 (by simp)⟩
            case measure => simp [intOf]; omega
        · have hkn : k = n.toNat := by omega
          have HT1 : Hid (ancTo n c (r + 1) = ancTo n c r ++ ancRow n c r k) := hid (by rw [hkn]; exact HT.out r)
          clear hkn
          go_wp2_with fail
          go_roundw
          case rel => exact ⟨r + 1, m, cap, a', by omega, by go_num, rfl, hid (by rw [HT1.out]; exact HLm.out), hid (by rw [HT1.out]; exact hown.out), hx⟩
          case measure => simp [intOf]; omega
    · have hrn : r = n.toNat := by omega
      have HRN := hid hrn
      clear hrn
      go_wp2_with fail
      go_returns
      exact ⟨a', cap, by rw [← HRN.out, HLm.out]; rfl, by rw [← HRN.out, HLm.out]; exact hown.out.mono (by omega), (((Ext.refl w).alloc _).alloc _).trans hx⟩
set_option maxHeartbeats 1000000 in
theorem AnchorsOf_any (n : Int) (p c : ByteArray) (w : World) (hp : p.size ≤ 1048576) (hc : c.size ≤ 1048576) (hM : MaxAt w) : Calls Tryd.prog 22 #[boardV n p c] w (RetP (ancL n p c) (ancE n p c) w) := by
  have HM := hid (fun w' (h : Ext w w') => hM.ext h)
  have HL : Hid (ancL n p c = if okB n p c then ancTo n c n.toNat else []) := hid rfl
  have HE : Hid (ancE n p c = if okB n p c then 0 else 1) := hid rfl
  have HO := hid (fun w' => ValidBoard_any n p c w' hp hc)
  clear hM
  cases hk : okB n p c
  · rw [hk] at HO HL HE
    clear hk
    go_enter Tryd.func22, Tryd.ntmps22
    go_wp2_with fail
    refine (HO.out _).mono ?_
    rintro e w1 ⟨rfl, hx⟩
    go_wp2_with fail
    go_returns
    exact ⟨none, 0, by rw [HL.out, HE.out]; rfl, by rw [HL.out]; exact Own.empty _ _ _ _ _, ((Ext.refl w).alloc _).trans hx⟩
  · have HS := hid (fun w' (h : MaxAt w') => squares_any n p c w' hk h)
    rw [hk] at HO HL HE
    obtain ⟨L, hL⟩ : ∃ L, ancTo n c n.toNat = L := ⟨_, rfl⟩
    rw [hL] at HS HL
    clear hk hL
    go_enter Tryd.func22, Tryd.ntmps22
    go_wp2_with fail
    refine (HO.out _).mono ?_
    rintro e w1 ⟨rfl, hx⟩
    have hE := ((Ext.refl w).alloc _).trans hx
    have b0 := hx.cell (b := w.heap.size) (o := 0) (v := .int .i64 n) (by simp)
    have b1 := hx.cell (b := w.heap.size) (o := 1) (v := .string p) (by simp)
    have b2 := hx.cell (b := w.heap.size) (o := 2) (v := .string c) (by simp)
    clear hx
    go_wp2_with fail
    refine (HS.out _ (HM.out _ hE)).mono ?_
    rintro e w2 ⟨a, cc, rfl, ho, hx⟩
    have HO2 := hid (ho.mono hE.size)
    clear ho
    go_wp2_with fail
    go_returns
    exact ⟨a, cc, by rw [HL.out, HE.out]; rfl, by rw [HL.out]; exact HO2.out, hE.trans hx⟩
set_option maxHeartbeats 2000000 in
theorem sAnchorsOf_any (n : Int) (p c : ByteArray) (w : World) (hp : p.size ≤ 1048576) (hc : c.size ≤ 1048576) : Calls Tryd.prog 21 #[boardV n p c] w (RetP (ancL n p c) (ancE n p c) w) := by
  have HL : Hid (ancL n p c = if okB n p c then ancTo n c n.toNat else []) := hid rfl
  have HEE : Hid (ancE n p c = if okB n p c then 0 else 1) := hid rfl
  have HBX : Hid (BdAt (w.alloc (.cells #[.int .i64 n, .string p, .string c] 26)) w.heap.size 0 n p c) := hid ⟨by simp, by simp, by simp⟩
  have HO := hid (l11Ok_any w.heap.size 0 n p c _ HBX.out hp hc)
  cases hk : okB n p c
  · rw [hk] at HO HL HEE
    clear hk
    go_enter Tryd.func21, Tryd.ntmps21
    go_wp2_with fail
    refine HO.out.mono ?_
    rintro e w1 ⟨rfl, hx⟩
    have hx2 := Dr.ext hx
    go_wp2_with fail
    go_returns
    exact ⟨none, 0, by rw [HL.out, HEE.out]; rfl, by rw [HL.out]; exact Own.empty _ _ _ _ _, ((Ext.refl w).alloc _).trans hx2⟩
  · obtain ⟨h1, h2, h3, h4⟩ := okB_true hk
    have HA := hid (fun i j w' h => l14Anchor_any w.heap.size 0 n p c i j w' h hk)
    have HR := hid (ancRow_succ n c)
    have HT := hid (ancTo_succ n c)
    have HBD := hid (fun r k => anc_bound n c r k h2)
    rw [hk] at HO HL HEE
    clear h3 h4 hk
    go_enter Tryd.func21, Tryd.ntmps21
    go_wp2_with fail
    refine HO.out.mono ?_
    rintro e w1 ⟨rfl, hx⟩
    have hx2 := Dr.ext hx
    have hE1 := ((Ext.refl w).alloc _).trans hx2
    have HB1 := hid (HBX.out.ext hx2)
    have hw1 := hx2.size
    simp only [World.size_alloc] at hw1
    clear hx hx2
    go_wp2_with fail
    go_loopw [4, 5] (fun v i wr => ∃ (r m cap : Nat) (a' : Option Addr), (r : Int) ≤ n ∧ i = .int .i64 (r : Int) ∧ v = .slice a' m cap ∧ Hid ((ancTo n c r).length = m) ∧ Hid (Own wr w1.heap.size 57 2 a' m cap (prsV (ancTo n c r))) ∧ Ext w1 wr) (fun _ i _ => (n - intOf i).toNat)
    case atStart => exact ⟨0, 0, 0, some ⟨w1.heap.size, 0, none⟩, by omega, rfl, rfl, hid rfl, hid (Own.empty _ _ _ _ _), (Ext.refl _).alloc _⟩
    case round =>
      obtain ⟨r, m, cap, a', hr, rfl, rfl, HLm, hown, hx⟩ := hrel
      obtain ⟨d0, d1, d2⟩ := HB1.out.ext hx
      by_cases hlt : (r : Int) < n
      · go_wp2_with fail
        go_loopw [4, 6] (fun v i wr => ∃ (k m cap : Nat) (a' : Option Addr), (k : Int) ≤ n ∧ i = .int .i64 (k : Int) ∧ v = .slice a' m cap ∧ Hid ((ancTo n c r ++ ancRow n c r k).length = m) ∧ Hid (Own wr w1.heap.size 57 2 a' m cap (prsV (ancTo n c r ++ ancRow n c r k))) ∧ Ext w1 wr) (fun _ i _ => (n - intOf i).toNat)
        case atStart => exact ⟨0, m, cap, a', by omega, rfl, rfl, hid (by simpa [ancRow] using HLm.out), hid (by simpa [ancRow] using hown.out), hx⟩
        case round =>
          clear hx d0 d1 d2 hown HLm
          obtain ⟨k, m, cap, a', hk, rfl, rfl, HLm, hown, hx⟩ := hrel
          obtain ⟨d0, d1, d2⟩ := HB1.out.ext hx
          have hsz := hx.size
          have hm240 : m ≤ 240 := by
            have := HBD.out r k hr hk
            have h2 := HLm.out
            rw [List.length_append] at h2
            omega
          by_cases hlk : (k : Int) < n
          · have HRk := hid (HR.out r k)
            have HAk := hid (HA.out (r : Int) (k : Int))
            cases ha : ancB n c (r : Int) (k : Int)
            · rw [ha] at HRk HAk
              clear ha
              go_wp2_with fail
              refine (HAk.out _ (HB1.out.ext hx)).mono ?_
              rintro e w3 ⟨rfl, hy⟩
              have hx3 := hx.trans hy
              have HO := hid (hown.out.ext hy)
              go_wp2_with fail
              go_roundw
              case rel => exact ⟨k + 1, m, cap, a', by omega, by go_num, rfl, hid (by rw [HRk.out]; simpa using HLm.out), hid (by rw [HRk.out]; simpa using HO.out), hx3⟩
              case measure => simp [intOf]; omega
            · rw [ha] at HRk HAk
              clear ha
              go_wp2_with fail
              refine (HAk.out _ (HB1.out.ext hx)).mono ?_
              rintro e w3 ⟨rfl, hy⟩
              have hx3 := hx.trans hy
              have hown2 := hown.out.ext hy
              have hs3 := hy.size
              clear hown hy d0 d1 d2
              go_wp2_with (at_builtin; refine wpList_push rfl _ _ 35 rfl El_sqp rfl [_, _] rfl rfl (by simp [Value.oneCell']) hown2 (by omega) (by unfold maxLen; omega) (by omega) ?_; intro a3 c3 w4 hown3 hb3; have HO := hid hown3; clear hown3 hown2)
              go_roundw
              case rel => exact ⟨k + 1, m + 1, c3, a3, by omega, by go_num, rfl, hid (by rw [HRk.out, if_pos trivial, ← List.append_assoc, List.length_append, HLm.out]; rfl), hid (by rw [HRk.out, if_pos trivial, ← List.append_assoc, prsV_append]; exact HO.out), hx3.thenBelow hb3 (by omega)⟩
              case measure => simp [intOf]; omega
          · have hkn : k = n.toNat := by omega
            have HT1 : Hid (ancTo n c (r + 1) = ancTo n c r ++ ancRow n c r k) := hid (by rw [hkn]; exact HT.out r)
            clear hkn
            go_wp2_with fail
            go_roundw
            case rel => exact ⟨r + 1, m, cap, a', by omega, by go_num, rfl, hid (by rw [HT1.out]; exact HLm.out), hid (by rw [HT1.out]; exact hown.out), hx⟩
            case measure => simp [intOf]; omega
      · have hrn : r = n.toNat := by omega
        have HRN := hid hrn
        clear hrn
        have hm2 : Hid (ancL n p c = ancTo n c r) := hid (by rw [HL.out, HRN.out]; rfl)
        go_wp2_with fail
        go_returns
        exact ⟨a', cap, by rw [hm2.out, HEE.out, HLm.out]; rfl, by rw [hm2.out, HLm.out]; exact hown.out.mono (by omega), hE1.trans hx⟩
end Go.Proofs.YtlolacjlconjkaaDoor
