/- The letters on a board, and whether there are any, by both. Conditions stand at each. -/
import Derived.Test.YtmohfdfjlgekaaaGreatDoorMg2
import Derived.Test.YtmohfdfjlgekaaaGreatDoorMg5
import Derived.Test.YtmohfdfjlgekaaaGreatDoorShelf
namespace Go.Proofs.YtmohfdfjlgekaaaGreatDoor
set_option linter.unusedVariables false
set_option linter.unusedSimpArgs false
open Go Go.RowKit
theorem ReplaceAll_dot (s : ByteArray) (w : World) (hs : s.size ≤ 1048576) (hM : MaxAt w) : Calls Tryz.prog 75 #[.string s, .string ⟨#[46]⟩, .string ⟨#[]⟩] w (Ret (.string (noDot s)) w) := by
  obtain ⟨m, hm⟩ := hM
  refine (Tryz.strings_ReplaceAll s ⟨#[46]⟩ ⟨#[]⟩ m w (by omega) hm (by decide) (by show s.size + _ * 0 ≤ _; omega)).mono ?_
  rintro e w' ⟨he, hb⟩
  rw [show Lib.replaceAll s.data.toList (⟨#[46]⟩ : ByteArray).data.toList (⟨#[]⟩ : ByteArray).data.toList = s.data.toList.filter (· != 46) from replaceAll_dot s] at he
  exact ⟨he, hb⟩
theorem lettersOn_any (n : Int) (p c : ByteArray) (w : World) (hc : c.size ≤ 1048576) (hM : MaxAt w) : Calls Tryz.prog 36 #[boardV n p c] w (Ret (.string (noDot c)) w) := by
  have HM := hid (hM.ext ((Ext.refl w).alloc (.cells #[.int .i64 n, .string p, .string c] 25)))
  clear hM
  go_enter Tryz.func36, Tryz.ntmps36
  go_wp2_with fail
  refine (ReplaceAll_dot c _ hc HM.out).mono ?_
  rintro e w1 ⟨rfl, hx⟩
  go_wp2_with fail
  go_returns
  exact ⟨rfl, ((Ext.refl w).alloc _).trans hx⟩
def blankS (c : ByteArray) : Bool := (noDot c).toList.isEmpty
theorem blankS_eq (c : ByteArray) : blankS c = (c.data.toList.filter (· != 46)).isEmpty := by
  unfold blankS noDot
  rw [ByteArray.toList_eq]
theorem blank_any (n : Int) (p c : ByteArray) (w : World) (hc : c.size ≤ 1048576) (hM : MaxAt w) : Calls Tryz.prog 40 #[boardV n p c] w (Ret (.bool (blankS c)) w) := by
  have HL := hid (lettersOn_any n p c _ hc (hM.ext ((Ext.refl w).alloc (.cells #[.int .i64 n, .string p, .string c] 25))))
  have HB : Hid (blankS c = (noDot c).toList.isEmpty) := hid rfl
  obtain ⟨X, hX⟩ : ∃ X, noDot c = X := ⟨_, rfl⟩
  rw [hX] at HL HB
  clear hX hM
  go_enter Tryz.func40, Tryz.ntmps40
  go_wp2_with fail
  refine HL.out.mono ?_
  rintro e w1 ⟨rfl, hx⟩
  go_wp2_with fail
  go_returns
  exact ⟨by rw [HB.out]; rfl, ((Ext.refl w).alloc _).trans hx⟩
theorem IsBlank_any (n : Int) (p c : ByteArray) (w : World) (hp : p.size ≤ 1048576) (hc : c.size ≤ 1048576) (hM : MaxAt w) : Calls Tryz.prog 14 #[boardV n p c] w (Ret (.bool (okB n p c && blankS c)) w) := by
  have HM := hid (fun w' (h : Ext w w') => hM.ext h)
  clear hM
  cases hk : okB n p c
  · have HV := hid (fun w' => ValidBoard_any n p c w' hp hc)
    rw [hk] at HV
    clear hk
    go_enter Tryz.func14, Tryz.ntmps14
    go_wp2_with fail
    refine (HV.out _).mono ?_
    rintro e w1 ⟨rfl, hx⟩
    go_wp2_with fail
    go_returns
    exact ⟨rfl, ((Ext.refl w).alloc _).trans hx⟩
  · have HV := hid (fun w' => ValidBoard_any n p c w' hp hc)
    rw [hk] at HV
    clear hk
    go_enter Tryz.func14, Tryz.ntmps14
    go_wp2_with fail
    refine (HV.out _).mono ?_
    rintro e w1 ⟨rfl, hx⟩
    have hE := ((Ext.refl w).alloc _).trans hx
    have b0 := hx.cell (b := w.heap.size) (o := 0) (v := .int .i64 n) (by simp)
    have b1 := hx.cell (b := w.heap.size) (o := 1) (v := .string p) (by simp)
    have b2 := hx.cell (b := w.heap.size) (o := 2) (v := .string c) (by simp)
    clear hx
    have HB := hid (blank_any n p c w1 hc (HM.out _ hE))
    obtain ⟨z, hz⟩ : ∃ z, blankS c = z := ⟨_, rfl⟩
    rw [hz] at HB
    have HZ := hid hz
    clear hz
    go_wp2_with fail
    refine HB.out.mono ?_
    rintro e w2 ⟨rfl, hx⟩
    go_wp2_with fail
    go_returns
    exact ⟨by rw [HZ.out]; cases z <;> rfl, hE.trans hx⟩
theorem noDot_take (c : ByteArray) (k : Nat) (h : k < c.size) : (c.data.toList.take (k + 1)).filter (· != 46) = (c.data.toList.take k).filter (· != 46) ++ if c[k] != 46 then [c[k]] else [] := by
  have e : c.data.toList.take (k + 1) = c.data.toList.take k ++ [c[k]] := by
    rw [List.take_succ_eq_append_getElem (by simpa using h)]; rfl
  rw [e, List.filter_append, List.filter_cons]
  cases hq : (c[k] != 46) <;> simp
set_option maxHeartbeats 1000000 in
theorem l11Letters_any (b o : Nat) (n : Int) (p c : ByteArray) (w : World) (hB : BdAt w b o n p c) (hc : c.size ≤ 1048576) :
    Calls Tryz.prog 38 #[.pointer (some ⟨b, o, none⟩)] w (Ret (.string (noDot c)) w) := by
  have HB := hid hB
  have HN : Hid (noDot c = ⟨(c.data.toList.filter (· != 46)).toArray⟩) := hid rfl
  have HT := hid (noDot_take c)
  obtain ⟨c0, c1, c2⟩ := hB
  go_enter Tryz.func38, Tryz.ntmps38
  go_wp2_with fail
  go_loopw [3, 4] (fun v i wr => ∃ (k m cap : Nat) (a' : Option Addr) (L : List UInt8), k ≤ c.size ∧ m ≤ k ∧ i = .int .i64 (k : Int) ∧ v = .slice a' m cap ∧ Hid (L = (c.data.toList.take k).filter (· != 46)) ∧ Hid (L.length = m) ∧ Hid (Own wr (w.heap.size + 1) 5 1 a' m cap (bytesV L)) ∧ Ext (w.alloc (.cells #[] 5)) wr) (fun _ i _ => c.size - (intOf i).toNat)
  case atStart => exact ⟨0, 0, 0, some ⟨w.heap.size, 0, none⟩, [], by omega, by omega, rfl, rfl, hid (by simp), hid rfl, hid (Own.empty _ _ _ _ _), Ext.refl _⟩
  case round =>
    obtain ⟨k, m, cap, a', L, hk, hm, rfl, rfl, HL, HLm, hown, hx⟩ := hrel
    have hsz := hx.size
    simp only [World.size_alloc] at hsz
    have hE := ((Ext.refl w).alloc _).trans hx
    obtain ⟨d0, d1, d2⟩ := HB.out.ext hE
    by_cases hlt : k < c.size
    · obtain ⟨u, hu⟩ : ∃ u, c[k] = u := ⟨_, rfl⟩
      have HT1 := hid (HT.out k hlt)
      rw [hu] at HT1
      have hub : u.toNat < 256 := u.toNat_lt
      by_cases h46 : u = 46
      · subst h46
        go_wp2_with fail
        go_roundw
        case rel => exact ⟨k + 1, m, cap, a', L, by omega, by omega, by go_num, rfl, hid (by rw [HT1.out, HL.out]; simp), HLm, hown, hx⟩
        case measure => simp [intOf]; omega
      · have hq : ((u.toNat : Int) != 46) = true := by
          simp only [bne_iff_ne, ne_eq]
          intro e
          exact h46 (UInt8.toNat_inj.1 (by show u.toNat = 46; omega))
        have HU : Hid ((u != 46) = true) := hid (by simpa using h46)
        have hown2 := hown.out
        clear h46 hown
        go_wp2_with (at_builtin; refine wpList_push rfl _ _ 22 rfl El_u8 rfl [_] rfl rfl (by simp [Value.oneCell']) hown2 (by omega) (by unfold maxLen; omega) (by omega) ?_; intro a3 c3 w3 hown3 hb3; have HO := hid hown3; clear hown3 hown2)
        go_roundw
        case rel => exact ⟨k + 1, m + 1, c3, a3, L ++ [u], by omega, by omega, by go_num, rfl, hid (by rw [HT1.out, HL.out, if_pos HU.out]), hid (by rw [List.length_append, HLm.out]; rfl), hid (by rw [bytesV_append]; exact HO.out), hx.thenBelow hb3 (by simp)⟩
        case measure => simp [intOf]; omega
    · obtain rfl : k = c.size := by omega
      have HQ : Hid (L = c.data.toList.filter (· != 46)) := hid (by rw [HL.out, List.take_of_length_le (by simp)])
      go_wp2_with (refine wpList_str rfl _ 22 9 rfl Tryz.underlying22 Tryz.underlying5 Tryz.underlying9 rfl (l := L) (by rw [HLm.out]) hown.out.rd ?_)
      go_returns
      exact ⟨by rw [HN.out, ← HQ.out]; rfl, hE⟩
theorem sIsBlank_any (n : Int) (p c : ByteArray) (w : World) (hp : p.size ≤ 1048576) (hc : c.size ≤ 1048576) : Calls Tryz.prog 15 #[boardV n p c] w (Ret (.bool (okB n p c && blankS c)) w) := by
  have HB : Hid (blankS c = (noDot c).toList.isEmpty) := hid rfl
  have HBD : Hid (BdAt (w.alloc (.cells #[.int .i64 n, .string p, .string c] 25)) w.heap.size 0 n p c) := hid ⟨by simp, by simp, by simp⟩
  have HO := hid (l11Ok_any w.heap.size 0 n p c _ HBD.out hp hc)
  cases hk : okB n p c
  · rw [hk] at HO
    clear hk
    go_enter Tryz.func15, Tryz.ntmps15
    go_wp2_with fail
    refine HO.out.mono ?_
    rintro e w1 ⟨rfl, hx⟩
    have hx2 := Dr.ext hx
    go_wp2_with fail
    go_returns
    exact ⟨rfl, ((Ext.refl w).alloc _).trans hx2⟩
  · rw [hk] at HO
    clear hk
    go_enter Tryz.func15, Tryz.ntmps15
    go_wp2_with fail
    refine HO.out.mono ?_
    rintro e w1 ⟨rfl, hx⟩
    have hx2 := Dr.ext hx
    have HL := hid (l11Letters_any w.heap.size 0 n p c w1 (HBD.out.ext hx2) hc)
    have hE := ((Ext.refl w).alloc _).trans hx2
    obtain ⟨X, hX⟩ : ∃ X, noDot c = X := ⟨_, rfl⟩
    rw [hX] at HL HB
    clear hX hx hx2
    go_wp2_with fail
    refine HL.out.mono ?_
    rintro e w2 ⟨rfl, hx⟩
    go_wp2_with fail
    go_returns
    exact ⟨by rw [HB.out]; rfl, hE.trans hx⟩
end Go.Proofs.YtmohfdfjlgekaaaGreatDoor
