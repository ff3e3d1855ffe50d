/- Words less one letter, by the program. Condition: the longer one of bytes below 128. -/
import Derived.Test.YtfnobjejjjpkoaaCh10g
import Derived.Lib.OthersKept
namespace Go.Proofs.Ytfnobjejjjpkoaa
set_option linter.unusedVariables false
set_option linter.unusedSimpArgs false
open Go Go.RowKit
set_option maxHeartbeats 1000000 in
theorem dropped_any (p q : ByteArray) (w : World) (hp : p.size ≤ 1048576) (hq : q.size ≤ 1048576) (ha : ∀ k (h : k < q.size), q[k].toNat < 128) :
    Calls Try.prog 51 #[.string p, .string q] w (Ret (.bool (dropB p q)) w) := by
  have HY := hid (@dropB_yes p q)
  have HN := hid (@dropB_no p q)
  have HA := hid ha
  clear ha
  go_enter Try.func51, Try.ntmps51
  go_wp2_with fail
  go_loopw [5] (fun _ wr => ∃ k : Nat, k ≤ q.size ∧ wr.heap[w.heap.size]? = some (.stringIter q k) ∧ Hid (∀ j, j < k → ((cutAt q j).toList == p.toList) = false) ∧ Ext w wr) (fun _ wr => q.size - wr.iterPos w.heap.size)
  case atStart => exact ⟨0, by omega, World.iter_heap w q 0, hid (fun j hj => by omega), (Ext.refl w).alloc _⟩
  case round =>
    obtain ⟨k, hk, hit, hall, hx⟩ := hrel
    by_cases hlt : k < q.size
    · have hnx : ∀ ty, (Instr.next (.pointer (some ⟨w.heap.size, 0, none⟩)) true ty).run Try.prog wr = _ := fun ty => Go.Lib.run_next_ascii_at wr w.heap.size q k ty hit hlt (HA.out k hlt)
      have hit2 := Go.Lib.iterAt_heap wr w.heap.size q k (k + 1) hit
      have hx2 : Ext w (wr.iterAt w.heap.size q (k + 1)) := ⟨hx.below.os, hx.below.tape, hx.below.output, Nat.le_trans hx.size (by simp [World.iterAt]), fun j hj => by rw [← hx.below.block j hj]; simp [World.iterAt, Array.getElem?_modify, Array.getElem?_set, Array.getElem?_setIfInBounds]; omega⟩
      have HC : Hid (cutAt q k = q.extract 0 k ++ q.extract (k + 1) q.size) := hid rfl
      obtain ⟨x, hxx⟩ : ∃ x, q.extract 0 k = x := ⟨_, rfl⟩
      obtain ⟨y, hyy⟩ : ∃ y, q.extract (k + 1) q.size = y := ⟨_, rfl⟩
      rw [hxx, hyy] at HC
      have sx : x.size ≤ 1048576 := by rw [← hxx, ByteArray.size_extract]; omega
      have sy : y.size ≤ 1048576 := by rw [← hyy, ByteArray.size_extract]; omega
      cases he : ((x ++ y).toList == p.toList)
      · have HE := hid he
        go_wp2_with fail
        generalize wr.iterAt w.heap.size q (k + 1) = W at *
        go_quiet (fail)
        go_wp2_with fail
        have m1 : (W.drewN nq).iterPos w.heap.size = k + 1 := by show (match W.heap[w.heap.size]? with | some (.stringIter _ p) => p | _ => 0) = k + 1; rw [hit2]
        have m2 : wr.iterPos w.heap.size = k := by show (match wr.heap[w.heap.size]? with | some (.stringIter _ p) => p | _ => 0) = k; rw [hit]
        refine ⟨⟨k + 1, by omega, hit2, hid (fun j hj => ?_), hx2.drewN _⟩, by rw [m1, m2]; omega⟩
        by_cases hjk : j = k
        · subst hjk; rw [HC.out, HE.out]
        · exact hall.out j (by omega)
      · have HE := hid he
        go_wp2_with fail
        generalize wr.iterAt w.heap.size q (k + 1) = W at *
        go_quiet (fail)
        go_wp2_with fail
        go_returns
        exact ⟨ret_bool (HY.out k hlt (by rw [HC.out, HE.out])).symm, hx2.drewN _⟩
    · have hnx : ∀ ty, (Instr.next (.pointer (some ⟨w.heap.size, 0, none⟩)) true ty).run Try.prog wr = _ := fun ty => Go.Lib.run_next_end_at wr w.heap.size q k ty hit hlt
      go_wp2_with fail
      go_returns
      exact ⟨ret_bool (HN.out (fun i hi => hall.out i (by omega))).symm, hx⟩
end Go.Proofs.Ytfnobjejjjpkoaa
