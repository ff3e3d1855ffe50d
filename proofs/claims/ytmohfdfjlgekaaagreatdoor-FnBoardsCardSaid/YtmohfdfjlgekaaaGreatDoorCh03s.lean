/- Words made small, by both. Conditions: at most 2^20 bytes, ASCII for the library's own. -/
import Derived.Test.YtmohfdfjlgekaaaGreatDoorCh11a
import Derived.Test.YtmohfdfjlgekaaaGreatDoorShelf
import Derived.Lib.Case
namespace Go.Proofs.YtmohfdfjlgekaaaGreatDoor
set_option linter.unusedVariables false
set_option linter.unusedSimpArgs false
open Go Go.RowKit
def lowLA (l : List UInt8) : List UInt8 := l.map Lib.lowerB
def lowA (s : ByteArray) : ByteArray := ⟨(lowLA s.data.toList).toArray⟩
theorem bytesV_setC (l : List UInt8) (k : Nat) (u : UInt8) : (bytesV l).set k (.int .u8 u.toNat) = bytesV (l.set k u) := by
  unfold bytesV
  rw [List.map_set]
theorem lowA_size (s : ByteArray) : (lowA s).size = s.size := by
  show (lowLA s.data.toList).toArray.size = s.data.size
  simp [lowLA]
theorem lowB_cap (x : UInt8) (h : 65 ≤ x.toNat ∧ x.toNat ≤ 90) : ((Lib.lowerB x).toNat : Int) = (x.toNat : Int) + 32 := by
  have e : Lib.isUpperB x = true := by rw [Lib.isUpperB_int]; simp; omega
  unfold Lib.lowerB
  rw [e, if_pos rfl, UInt8.toNat_add]
  show (((x.toNat + 32) % 2 ^ 8 : Nat) : Int) = _
  omega
theorem lowB_not (x : UInt8) (h : ¬ (65 ≤ x.toNat ∧ x.toNat ≤ 90)) : Lib.lowerB x = x := by
  refine Lib.lowerB_of_not x ?_
  rw [Lib.isUpperB_int]
  simp
  omega
theorem low_step (l : List UInt8) (k : Nat) (x : UInt8) (hx : l[k]? = some x) : (lowLA (l.take k) ++ l.drop k).set k (Lib.lowerB x) = lowLA (l.take (k + 1)) ++ l.drop (k + 1) := by
  have hk := (List.getElem?_eq_some_iff.1 hx).1
  have hlen : (lowLA (l.take k)).length = k := by unfold lowLA; rw [List.length_map, List.length_take]; omega
  have hx' : l[k] = x := by rw [List.getElem?_eq_getElem hk] at hx; exact Option.some.inj hx
  rw [List.set_append_right _ _ (by omega), hlen, Nat.sub_self, List.drop_eq_getElem_cons hk, List.set_cons_zero, List.take_succ_eq_append_getElem hk]
  unfold lowLA
  rw [List.map_append, List.append_assoc, hx']
  rfl
theorem low_at (l : List UInt8) (k : Nat) (hk : k ≤ l.length) : (lowLA (l.take k) ++ l.drop k)[k]? = l[k]? := by
  have hlen : (lowLA (l.take k)).length = k := by unfold lowLA; rw [List.length_map, List.length_take]; omega
  rw [List.getElem?_append_right (by omega), hlen, Nat.sub_self, List.getElem?_drop]
  rfl
set_option maxHeartbeats 2000000 in
theorem l03Small_any (s : ByteArray) (w : World) (hs : s.size ≤ 1048576) : Calls Tryz.prog 74 #[.string s] w (Ret (.string (lowA s)) w) := by
  have HR : Hid (lowA s = ⟨(lowLA s.data.toList).toArray⟩) := hid rfl
  go_enter Tryz.func74, Tryz.ntmps74
  go_wp2_with (refine wpList_bytes rfl _ 9 22 rfl Tryz.underlying9 Tryz.underlying22 Tryz.underlying5 (s := s) rfl ?_; intro c w1 hw hc hx hz)
  have HW := hid hw
  have HX := hid hx
  have HZ := hid hz
  clear hw hx hz
  go_loopw [4] (fun i wr => ∃ k : Nat, k ≤ s.size ∧ i = .int .i64 (k : Int) ∧ Hid (Wr wr w.heap.size (bytesV (lowLA (s.data.toList.take k) ++ s.data.toList.drop k))) ∧ Hid (Ext w wr)) (fun i _ => s.size - (intOf i).toNat)
  case atStart => exact ⟨0, by omega, rfl, hid (by simpa [lowLA] using HW.out), HX⟩
  case round =>
    obtain ⟨k, hk, rfl, hW, hE⟩ := hrel
    by_cases hlt : k < s.size
    · obtain ⟨x, hx⟩ : ∃ x, s.data.toList[k]? = some x := ⟨s.data.toList[k]'(by simpa using hlt), List.getElem?_eq_getElem _⟩
      have hxb : x.toNat < 256 := x.toNat_lt
      have hkl : k < (bytesV (lowLA (s.data.toList.take k) ++ s.data.toList.drop k)).length := by
        rw [bytesV_length, List.length_append]; simp [lowLA]; omega
      have hck : wr.cell? ⟨w.heap.size, k, none⟩ = some (.int .u8 x.toNat) := hW.out.2.1 k _ (by rw [bytesV_get, low_at _ _ (by simp; omega), hx]; rfl)
      have hfk := hW.out.2.2 k hkl
      have HS := hid (low_step s.data.toList k x hx)
      by_cases hcap : 65 ≤ x.toNat ∧ x.toNat ≤ 90
      · have hcb : capB (x.toNat : Int) = true := by simp [capB]; omega
        have HC := hid (l03Capital_any (x.toNat : Int))
        rw [hcb] at HC
        have HT : Hid (((Lib.lowerB x).toNat : Int) = (x.toNat : Int) + 32) := hid (lowB_cap x hcap)
        have HW2 := hid (hW.out.set k hkl (.int .u8 ((x.toNat : Int) + 32)))
        have HE2 : Hid (Ext w (wr.setCell ⟨w.heap.size, k, none⟩ (.int .u8 ((x.toNat : Int) + 32)))) := hid (hE.out.setCell (Nat.le_refl _) _)
        have HW3 : Hid (Wr (wr.setCell ⟨w.heap.size, k, none⟩ (.int .u8 ((x.toNat : Int) + 32))) w.heap.size (bytesV (lowLA (s.data.toList.take (k + 1)) ++ s.data.toList.drop (k + 1)))) := hid (by
          have h := HW2.out
          rw [← HS.out, ← bytesV_setC, HT.out]
          exact h)
        have hmod : ((x.toNat : Int) + 32) % 256 = (x.toNat : Int) + 32 := by omega
        clear hcb hx hcap hkl HW2
        go_wp2_with fail
        refine (HC.out _).mono ?_
        rintro e w' ⟨rfl, rfl⟩
        go_wp2_with fail
        go_roundw
        case rel => exact ⟨k + 1, by omega, by go_num, HW3, HE2⟩
        case measure => simp [intOf]; omega
      · have hcb : capB (x.toNat : Int) = false := by simp [capB]; omega
        have HC := hid (l03Capital_any (x.toNat : Int))
        rw [hcb] at HC
        have HW3 : Hid (Wr wr w.heap.size (bytesV (lowLA (s.data.toList.take (k + 1)) ++ s.data.toList.drop (k + 1)))) := hid (by
          have h := hW.out
          have ht : Lib.lowerB x = x := lowB_not x hcap
          have e : (lowLA (s.data.toList.take k) ++ s.data.toList.drop k).set k x = lowLA (s.data.toList.take k) ++ s.data.toList.drop k := by
            have h1 := low_at s.data.toList k (by simp; omega)
            rw [hx] at h1
            obtain ⟨h2, h3⟩ := List.getElem?_eq_some_iff.1 h1
            rw [← h3]
            exact List.set_getElem_self h2
          rw [← HS.out, ht, e]
          exact h)
        clear hcb hx hcap hkl
        go_wp2_with fail
        refine (HC.out _).mono ?_
        rintro e w' ⟨rfl, rfl⟩
        go_wp2_with fail
        go_roundw
        case rel => exact ⟨k + 1, by omega, by go_num, HW3, hE⟩
        case measure => simp [intOf]; omega
    · obtain rfl : k = s.size := by omega
      have e0 : lowLA (s.data.toList.take s.size) ++ s.data.toList.drop s.size = lowLA s.data.toList := by
        rw [List.take_of_length_le (by simp), List.drop_eq_nil_of_le (by simp), List.append_nil]
      rw [e0] at hW
      clear e0
      go_wp2_with (refine wpList_str rfl _ 22 9 rfl Tryz.underlying22 Tryz.underlying5 Tryz.underlying9 rfl (l := lowLA s.data.toList) (by simp [lowLA]) hW.out.rd ?_)
      go_wp2_with fail
      go_returns
      exact ⟨by rw [HR.out]; rfl, hE.out⟩
set_option maxHeartbeats 400000 in
theorem lower_ascii (s : ByteArray) (w : World) (hs : s.size ≤ 1048576) (ha : ∀ (j : Nat) (b : UInt8), s.data.toList[j]? = some b → b.toNat < 128) : Calls Tryz.prog 32 #[.string s] w (Ret (.string (lowA s)) w) := by
  have HT := hid (fun w' => Tryz.strings_ToLower_ascii s w' (by omega) ha)
  have HR : Hid ((⟨(Lib.toLowerA s.data.toList).toArray⟩ : ByteArray) = lowA s) := hid rfl
  rw [HR.out] at HT
  clear ha
  go_enter Tryz.func32, Tryz.ntmps32
  go_wp2_with fail
  refine (HT.out _).mono ?_
  rintro e w1 ⟨rfl, hx⟩
  go_wp2_with fail
  go_returns
  exact ⟨rfl, hx⟩
end Go.Proofs.YtmohfdfjlgekaaaGreatDoor
