/- Words less one letter. Conditions: at most 2^20 bytes; the longer one of ASCII letters. -/
import Derived.Test.YtfnobjejjjpkoaaCh10f
import Derived.Lib.OthersKept
namespace Go.Proofs.Ytfnobjejjjpkoaa
set_option linter.unusedVariables false
set_option linter.unusedSimpArgs false
open Go Go.RowKit
/-- The bytes without the one at a place. -/
def cutAt (q : ByteArray) (i : Nat) : ByteArray := q.extract 0 i ++ q.extract (i + 1) q.size
def dropB (p q : ByteArray) : Bool := (List.range q.size).any fun i => (cutAt q i).toList == p.toList
theorem cutAt_size (q : ByteArray) (i : Nat) (h : i < q.size) : (cutAt q i).size + 1 = q.size := by
  unfold cutAt
  rw [ByteArray.size_append, ByteArray.size_extract, ByteArray.size_extract]
  omega
theorem dropB_yes {p q : ByteArray} (i : Nat) (h : i < q.size) (he : ((cutAt q i).toList == p.toList) = true) : dropB p q = true := by
  unfold dropB
  rw [List.any_eq_true]
  exact ⟨i, List.mem_range.2 h, he⟩
theorem dropB_no {p q : ByteArray} (h : ∀ i, i < q.size → ((cutAt q i).toList == p.toList) = false) : dropB p q = false := by
  unfold dropB
  rw [List.any_eq_false]
  intro i hi
  rw [h i (List.mem_range.1 hi)]
  simp
theorem dropB_size {p q : ByteArray} (h : p.size + 1 ≠ q.size) : dropB p q = false := by
  refine dropB_no fun i hi => ?_
  rw [beq_eq_false_iff_ne]
  intro e
  have := cutAt_size q i hi
  rw [Lib.toList_data, Lib.toList_data] at e
  have e2 : (cutAt q i).size = p.size := by rw [Lib.size_eq, Lib.size_eq, e]
  omega
set_option maxHeartbeats 1000000 in
theorem l10Less_any (p q : ByteArray) (w : World) (hp : p.size ≤ 1048576) (hq : q.size ≤ 1048576) :
    Calls Try.prog 55 #[.string p, .string q] w fun e w' => e = .returned (.bool (dropB p q)) ∧ Dr w w' := by
  have HY := hid (@dropB_yes p q)
  have HN := hid (@dropB_no p q)
  have HS := hid (@dropB_size p q)
  by_cases hs : p.size + 1 = q.size
  · have hsi : ((p.size : Int) + 1 = (q.size : Int)) := by omega
    go_enter Try.func55, Try.ntmps55
    go_wp2_with fail
    clear hs
    go_loopw [5] (fun i wr => ∃ k : Nat, k ≤ q.size ∧ i = .int .i64 k ∧ Hid (∀ j, j < k → ((cutAt q j).toList == p.toList) = false) ∧ Dr w wr) (fun i _ => q.size - (intOf i).toNat)
    case atStart => exact ⟨0, by omega, rfl, hid (fun j hj => by omega), Dr.refl _⟩
    case round =>
      obtain ⟨k, hk, rfl, hall, hD⟩ := hrel
      clear hsi
      by_cases hlt : k < q.size
      · have HC : Hid (cutAt q k = q.extract 0 k ++ q.extract (k + 1) q.size) := hid rfl
        obtain ⟨x, hx⟩ : ∃ x, q.extract 0 k = x := ⟨_, rfl⟩
        obtain ⟨y, hy⟩ : ∃ y, q.extract (k + 1) q.size = y := ⟨_, rfl⟩
        rw [hx, hy] at HC
        have sx : x.size ≤ 1048576 := by rw [← hx, ByteArray.size_extract]; omega
        have sy : y.size ≤ 1048576 := by rw [← hy, ByteArray.size_extract]; omega
        cases he : ((x ++ y).toList == p.toList)
        · have HE := hid he
          go_wp2_with fail
          go_quiet (fail)
          go_wp2_with fail
          go_roundw
          case rel => exact ⟨k + 1, by omega, by go_num, hid (fun j hj => by
            by_cases hjk : j = k
            · subst hjk; rw [HC.out, HE.out]
            · exact hall.out j (by omega)), hD.trans ⟨_, rfl⟩⟩
          case measure => simp [intOf]; omega
        · have HE := hid he
          go_wp2_with fail
          go_quiet (fail)
          go_wp2_with fail
          go_returns
          exact ⟨ret_bool (HY.out k hlt (by rw [HC.out, HE.out])).symm, hD.trans ⟨_, rfl⟩⟩
      · go_wp2_with fail
        go_returns
        exact ⟨ret_bool (HN.out (fun i hi => hall.out i (by omega))).symm, hD⟩
  · have hsi : ¬ ((p.size : Int) + 1 = (q.size : Int)) := by omega
    have HZ := hid (HS.out hs)
    go_enter Try.func55, Try.ntmps55
    go_wp2_with fail
    go_returns
    exact ⟨ret_bool HZ.out.symm, Dr.refl _⟩
end Go.Proofs.Ytfnobjejjjpkoaa
