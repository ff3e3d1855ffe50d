/- Strings reversed, by both; slices.Reverse at []byte is walked in the way of the library's own walk at []int. -/
import Derived.Test.YtlnccdbmchjhlaaDoorMg4
import Derived.Test.YtlnccdbmchjhlaaDoorMg1
import Derived.Shelf.RegionOpenPlain
import Derived.Deep.LoopGhost
import Derived.Sort.WalkB12
import Derived.Lib.SlicesMore
namespace Go.Proofs.YtlnccdbmchjhlaaDoor
set_option linter.unusedVariables false
set_option linter.unusedSimpArgs false
open Go Go.RowKit Go.Lib Go.Sort
def encB (x : UInt8) : Value := .int .u8 x.toNat
theorem Wr.holds {w : World} {g : Nat} {l : List UInt8} (h : Wr w g (bytesV l)) : Holds encB w g 0 l.toArray := fun j hj => by
  have hj' : j < l.length := by simpa using hj
  refine ⟨?_, ?_⟩
  · rw [Nat.zero_add]
    refine h.2.1 j _ ?_
    rw [bytesV_get, List.getElem?_eq_getElem hj', getElem!_pos l.toArray j hj]
    rfl
  · rw [Nat.zero_add]
    exact h.2.2 j (by rw [bytesV_length]; exact hj')
theorem Wr.of_holds {w : World} {g : Nat} {l : List UInt8} (hg : g < w.heap.size) (h : Holds encB w g 0 l.toArray) : Wr w g (bytesV l) := by
  refine ⟨hg, fun j u hj => ?_, fun j hj => ?_⟩
  · have hj' : j < l.length := by
      have := (List.getElem?_eq_some_iff.1 hj).1
      rwa [bytesV_length] at this
    have := (h j (by simpa using hj')).1
    rw [Nat.zero_add, getElem!_pos l.toArray j (by simpa using hj')] at this
    rw [this, ← hj, bytesV_get, List.getElem?_eq_getElem hj']
    rfl
  · have := (h j (by rw [bytesV_length] at hj; simpa using hj)).2
    rwa [Nat.zero_add] at this
theorem putRow_exc (w : World) (n g : Nat) (d : Array UInt8) : Exc g w (putRow encB (Sort.ahead w n) g 0 d) :=
  ⟨rfl, rfl, rfl, by simp, fun k hk hg => by simp [putRow, mapBlock, Array.getElem?_modify, Ne.symm hg]⟩
set_option maxHeartbeats 1600000 in
set_option maxRecDepth 1000000 in
theorem rev_arr (blk off cap : Nat) (d : Array UInt8) (w : World) (hH : Holds encB w blk off d) (hsz : d.size ≤ 9223372036854775807) :
    Calls Tryd.prog 62 #[.slice (some ⟨blk, off, none⟩) d.size cap] w fun e w' => e = .returned (.tuple #[]) ∧ ∃ n, w' = putRow encB (Sort.ahead w n) blk off d.reverse := by
  have mixed : Tryd.prog.follows Departure.mixedOrders = true := by kernel_rfl
  go_enter Tryd.func62, Tryd.ntmps62
  go_wp2
  go_loopg [2, 3] d.size (fun k s2 s3 wr => ∃ (i jn : Nat) (jz : Int) (dk : Array UInt8) (n : Nat), s2 = .int .i64 i ∧ s3 = .int .i64 jz ∧ ((i : Int) < jz → jz = jn ∧ jn < d.size) ∧ (¬ (i : Int) < jz → ¬ i < jn) ∧ jn - i ≤ k ∧
    dk.size = d.size ∧ wr = putRow encB (Sort.ahead w n) blk off dk ∧ reverseLoop i jn dk = reverseLoop 0 (d.size - 1) d)
  case atStart => exact ⟨0, d.size - 1, (d.size : Int) - 1, d, 0, rfl, rfl, fun h => ⟨by omega, by omega⟩, fun h => by omega, by omega, rfl, (putRow_self encB w blk off d hH).symm, rfl⟩
  case round =>
    obtain ⟨i, jn, jz, dk, n, rfl, rfl, h1, h2, hk, hds, hwr, heq⟩ := hrel
    by_cases hlt : (i : Int) < jz
    · obtain ⟨rfl, hjn⟩ := h1 hlt
      have hij : i < jn := by omega
      have hid2 : i < d.size := by omega
      have hHk : Holds encB wr blk off dk := by rw [hwr]; exact holds_putRow encB _ blk off d dk (holds_ahead encB w n blk off d hH) hds
      obtain ⟨ci, fi⟩ := hHk i (by omega)
      obtain ⟨cj, fj⟩ := hHk jn (by omega)
      unfold encB at ci cj
      have A : Aside (wr = putRow encB (Sort.ahead w n) blk off dk) := hwr
      clear hwr hHk hH h1 h2
      go_wp2_with fail
      go_region_o
      go_wp2
      go_roundg (jn - 1 - (i + 1))
      case measure => omega
      case rel =>
        rw [reverseLoop, if_pos hij] at heq
        exact ⟨i + 1, jn - 1, (jn : Int) - 1, swp dk i jn, n + 1, by simp, rfl, fun h => ⟨by omega, by omega⟩, fun h => by omega, Nat.le_refl _, by rw [size_swp]; exact hds,
          swap_world encB (by omega) (by omega) A.out (by first | rfl | simp [encB, getElem!_pos, show jn < dk.size by omega]) (by first | rfl | simp [encB, getElem!_pos, show i < dk.size by omega]), heq⟩
    · have hnot := h2 hlt
      go_wp2
      go_end0
      refine ⟨rfl, n, ?_⟩
      rw [reverseLoop, if_neg hnot] at heq
      rw [← Lib.reverseLoop_reverse, ← heq]
theorem rev_any (g cap : Nat) (l : List UInt8) (n : Nat) (w : World) (hn : n = l.length) (hW : Wr w g (bytesV l)) (hsz : n ≤ 1048576) :
    Calls Tryd.prog 62 #[.slice (some ⟨g, 0, none⟩) n cap] w fun e w' => e = .returned (.tuple #[]) ∧ Wr w' g (bytesV l.reverse) ∧ Exc g w w' := by
  subst hn
  have hs : l.toArray.size = l.length := by simp
  have h := rev_arr g 0 cap l.toArray w hW.holds (by rw [hs]; omega)
  rw [hs] at h
  refine h.mono ?_
  rintro e w' ⟨rfl, n, rfl⟩
  have hx := putRow_exc w n g l.toArray.reverse
  refine ⟨rfl, Wr.of_holds (Nat.lt_of_lt_of_le hW.1 hx.size) ?_, hx⟩
  have := holds_putRow encB (Sort.ahead w n) g 0 l.toArray l.toArray.reverse (holds_ahead encB w n g 0 _ hW.holds) (by simp)
  simpa using this
def revS (s : ByteArray) : ByteArray := ⟨s.data.toList.reverse.toArray⟩
theorem revS_size (s : ByteArray) : (revS s).size = s.size := by
  show s.data.toList.reverse.toArray.size = s.data.size
  simp
set_option maxHeartbeats 400000 in
theorem reversed_any (s : ByteArray) (w : World) (hs : s.size ≤ 1048576) : Calls Tryd.prog 51 #[.string s] w (Ret (.string (revS s)) w) := by
  have HZ : Hid (s.size = s.data.toList.length) := hid (by simp)
  go_enter Tryd.func51, Tryd.ntmps51
  go_wp2_with (refine wpList_bytes rfl _ 9 82 rfl Tryd.underlying9 Tryd.underlying82 Tryd.underlying5 rfl ?_; intro cp w1 hwr hcap hx hsz1; have HW := hid hwr; clear hwr)
  refine (rev_any w.heap.size cp s.data.toList s.size w1 HZ.out HW.out hs).mono ?_
  rintro e w2 ⟨rfl, hw2, hx2⟩
  have hE : Ext w w2 := (Exb.of_exc (lo := w.heap.size) (hi := w.heap.size + 1) hx2 (Nat.le_refl _) (by omega)).ext0 hx (Nat.le_refl _)
  have HR := hid hw2.rd
  have HL : Hid (s.size = s.data.toList.reverse.length) := hid (by rw [List.length_reverse]; exact HZ.out)
  clear hx hx2 hw2 HW
  go_wp2_with (refine wpList_str rfl _ 82 9 rfl Tryd.underlying82 Tryd.underlying5 Tryd.underlying9 rfl (l := s.data.toList.reverse) HL.out HR.out ?_)
  go_returns
  exact ⟨rfl, hE⟩
set_option maxHeartbeats 1000000 in
theorem l08Back_any (s : ByteArray) (w : World) (hs : s.size ≤ 1048576) : Calls Tryd.prog 46 #[.string s] w (Ret (.string (revS s)) w) := by
  obtain ⟨L, hL⟩ : ∃ L, s.data.toList.reverse = L := ⟨_, rfl⟩
  have HLE : Hid (L.length = s.size) := hid (by rw [← hL, List.length_reverse]; simp)
  have HT : Hid (∀ k j (hj : j < s.size), k + j + 1 = s.size → L.take (k + 1) = L.take k ++ [s[j]]) := hid (by
    intro k j hj hkj
    have hln : s.data.toList.length = s.size := by simp
    have e : L[k]? = some s[j] := by
      rw [← hL, List.getElem?_reverse (by rw [hln]; omega), hln, show s.size - 1 - k = j by omega, Array.getElem?_toList]
      exact Array.getElem?_eq_getElem hj
    rw [List.take_add_one, e]
    rfl)
  have HV : Hid (revS s = ⟨L.toArray⟩) := hid (by unfold revS; rw [hL])
  clear hL
  go_enter Tryd.func46, Tryd.ntmps46
  go_wp2_with fail
  go_loopw [3, 4] (fun v i wr => ∃ (k m cap : Nat) (a' : Option Addr) (z : Int), k + m = s.size ∧ z = (m : Int) - 1 ∧ i = .int .i64 z ∧ v = .slice a' k cap ∧ Hid (Own wr w.heap.size 5 1 a' k cap (bytesV (L.take k))) ∧ Ext w wr) (fun _ i _ => (RowKit.intOf i + 1).toNat)
  case atStart => exact ⟨0, s.size, 0, some ⟨w.heap.size, 0, none⟩, _, by omega, rfl, rfl, rfl, hid (Own.empty _ _ _ _ _), (Ext.refl _).alloc _⟩
  case round =>
    obtain ⟨k, m, cap, a', z, hkm, hz, rfl, rfl, hown, hx⟩ := hrel
    have hsz := hx.size
    by_cases hlt : 0 < m
    · obtain ⟨j, hj⟩ : ∃ j : Nat, z = (j : Int) := ⟨m - 1, by omega⟩
      subst hj
      have hjs : j < s.size := by omega
      have HZJ := hid hz
      clear hz
      have HT1 := hid (HT.out k j hjs (by have := HZJ.out; omega))
      have hown2 := hown.out
      obtain ⟨u, hu⟩ : ∃ u, s[j] = u := ⟨_, rfl⟩
      rw [hu] at HT1
      go_wp2_with (at_builtin; refine wpList_push rfl _ _ 82 rfl El_u8 rfl [_] rfl rfl (by simp [Value.oneCell']) hown2 (by omega) (by unfold maxLen; omega) (by omega) ?_; intro a3 c3 w3 hown3 hb3; have HO := hid hown3; clear hown3 hown2)
      go_roundw
      case rel => exact ⟨k + 1, m - 1, c3, a3, (j : Int) - 1, by omega, by have := HZJ.out; omega, by go_num, rfl, hid (by rw [HT1.out, bytesV_append]; exact HO.out), hx.thenBelow hb3 (by omega)⟩
      case measure => simp [RowKit.intOf]
    · obtain rfl : m = 0 := by omega
      obtain rfl : k = s.size := by omega
      obtain rfl : z = -1 := by omega
      have HX : Hid (L.take s.size = L) := hid (by rw [← HLE.out]; exact List.take_length)
      rw [HX.out] at hown
      clear hkm hz
      go_wp2_with (refine wpList_str rfl _ 82 9 rfl Tryd.underlying82 Tryd.underlying5 Tryd.underlying9 rfl (l := L) HLE.out.symm hown.out.rd ?_)
      go_returns
      exact ⟨by rw [HV.out]; rfl, hx⟩
end Go.Proofs.YtlnccdbmchjhlaaDoor
