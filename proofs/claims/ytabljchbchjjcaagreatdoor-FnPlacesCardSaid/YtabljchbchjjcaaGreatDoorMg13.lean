/- Several texts in one: DwW, Ch09a. Conditions: see each. -/
import Derived.Test.YtabljchbchjjcaaGreatDoorCh05a
import Derived.Test.YtabljchbchjjcaaGreatDoorMg12
import Derived.Test.YtabljchbchjjcaaGreatDoorMg5
import Derived.Test.YtabljchbchjjcaaGreatDoorMg11
import Derived.Test.YtabljchbchjjcaaGreatDoorMg1
import Derived.Shelf.RegionOpenPlain
import Derived.Deep.LoopGhost
import Derived.Sort.WalkB12
import Derived.Lib.SlicesMore
section
namespace Go.Proofs.YtabljchbchjjcaaGreatDoor
set_option linter.unusedVariables false
set_option linter.unusedSimpArgs false
open Go Go.RowKit
theorem incB_step {l : List ByteArray} (h : incB l = true) {i : Nat} (hi : i + 1 < l.length) : (wAt l i).data.toList < (wAt l (i + 1)).data.toList := by
  unfold incB at h
  rw [List.all_eq_true] at h
  have := h i (List.mem_range.2 (by omega))
  unfold lessB at this
  rw [Go.Proofs.bytesLess_eq, decide_eq_true_eq, Lib.toList_data, Lib.toList_data] at this
  exact this
theorem incB_up {l : List ByteArray} (h : incB l = true) : ∀ (d i : Nat), i + d + 1 < l.length → (wAt l i).data.toList < (wAt l (i + d + 1)).data.toList
  | 0, i, hi => incB_step h hi
  | d + 1, i, hi => List.lt_trans (incB_up h d i (by omega)) (incB_step h hi)
theorem rise_words {l : List ByteArray} (h : incB l = true) : RiseS (sufs 0 l) := by
  unfold RiseS sufs
  rw [List.pairwise_map, List.pairwise_iff_getElem]
  intro i j hi hj hij
  rw [List.drop_zero, List.drop_zero, wAt_eq l i hi, wAt_eq l j hj]
  obtain ⟨d, rfl⟩ : ∃ d, j = i + d + 1 := ⟨j - i - 1, by omega⟩
  exact incB_up h d i hj
theorem totL_le {d b : Nat} : ∀ {S : List ByteArray}, (∀ s ∈ S, s.size ≤ b) → totL (sufs d S) ≤ S.length * b
  | [], _ => by simp [totL, sufs]
  | s :: r, h => by
    have ih := totL_le (d := d) (S := r) (fun x hx => h x (List.mem_cons_of_mem _ hx))
    have h1 := h s (by simp)
    have e : sufs d (s :: r) = s.data.toList.drop d :: sufs d r := rfl
    have hl := toL_len s
    rw [e, totL_cons, List.length_drop, hl, List.length_cons, Nat.succ_mul]
    omega
theorem longOk_parts {s : ByteArray} (h : longOk s = true) : 2 ≤ s.size ∧ s.size ≤ 12 ∧ ∀ u ∈ s.data.toList, 97 ≤ u.toNat ∧ u.toNat ≤ 122 := by
  unfold longOk wordOk at h
  simp only [Bool.and_eq_true, decide_eq_true_eq] at h
  obtain ⟨h1, ⟨h2, h3⟩, h4⟩ := h
  refine ⟨h1, h3, fun u hu => ?_⟩
  unfold allB at h4
  rw [List.all_eq_true] at h4
  have := h4 u hu
  unfold smallB at this
  simp only [decide_eq_true_eq] at this
  omega
theorem lexOk_parts {l : List ByteArray} (h : lexOk l = true) : l.length ≤ 200 ∧ incB l = true ∧ ∀ s ∈ l, longOk s = true := by
  unfold lexOk at h
  simp only [Bool.and_eq_true, decide_eq_true_eq, List.all_eq_true] at h
  exact ⟨h.1, h.2.1, h.2.2⟩
/-- Words of a valid lexicon are fit to be built from. -/
theorem wsOk_lex {l : List ByteArray} (h : lexOk l = true) : WsOk 0 101 l ∧ l.length ≤ 200 ∧ totL (sufs 0 l) ≤ 2400 := by
  obtain ⟨h1, h2, h3⟩ := lexOk_parts h
  refine ⟨⟨rise_words h2, fun s hs => Nat.zero_le _, fun s hs => ?_, fun s hs u hu => ?_⟩, h1, ?_⟩
  · have := longOk_parts (h3 s hs); omega
  · have := (longOk_parts (h3 s hs)).2.2 u hu
    refine ⟨fun e => ?_, by omega⟩
    subst e
    simp at this
  · have := totL_le (d := 0) (b := 12) (S := l) (fun s hs => (longOk_parts (h3 s hs)).2.1)
    omega
/-- How many edges there are. -/
def wtN (N : List Nd) : Nat := (N.map fun n => n.nx.length).sum
theorem wtN_append (a b : List Nd) : wtN (a ++ b) = wtN a + wtN b := by simp [wtN]
theorem wtN_mem {N : List Nd} {n : Nd} (h : n ∈ N) : n.nx.length ≤ wtN N := by
  obtain ⟨a, b, rfl⟩ := List.append_of_mem h
  rw [wtN_append]
  have : wtN (n :: b) = n.nx.length + wtN b := by simp [wtN]
  omega
theorem bld_wt : ∀ (f : Nat) (N : List Nd) (l : List (List UInt8)), RiseS l → wtN (bld f N l).1 ≤ wtN N + totL l
  | 0, N, l, _ => by rw [bld]; simp
  | f + 1, N, l, hl => by
    have key : ∀ (gs : List (UInt8 × List (List UInt8))) (st : BSt), (∀ g ∈ gs, RiseS g.2) → (∀ g ∈ gs, g.2 ≠ []) → wtN (gs.foldl (bldG (bld f)) st).1 + (gs.foldl (bldG (bld f)) st).2.2.length ≤ wtN st.1 + st.2.2.length + totL (gs.flatMap (fun g => g.2.map (g.1 :: ·))) := by
      intro gs
      induction gs with
      | nil => intro st _ _; simp
      | cons g gs ih =>
        intro st h1 h2
        rw [List.foldl_cons, List.flatMap_cons, totL_append, totL_heads]
        have a1 := ih (bldG (bld f) st g) (fun x hx => h1 x (List.mem_cons_of_mem _ hx)) (fun x hx => h2 x (List.mem_cons_of_mem _ hx))
        have a2 := bld_wt f st.1 g.2 (h1 g (by simp))
        have a3 : (bldG (bld f) st g).1 = (bld f st.1 g.2).1 := rfl
        have a5 : (bldG (bld f) st g).2.2.length = st.2.2.length + 1 := by simp [bldG]
        have a4 : 0 < g.2.length := List.length_pos_iff.2 (h2 g (by simp))
        rw [a3, a5] at a1
        omega
    have hg : ∀ g ∈ grp (restL l), RiseS g.2 := fun g hg => grp_rise (rise_rest hl) (rise_ne hl) g hg
    have h1 := key (grp (restL l)) (N, [], []) hg (grp_ne _)
    rw [grp_flat _ (rise_ne hl), totL_rest] at h1
    rw [bld]
    unfold putN
    simp only
    split
    · simp only at h1; simp only [List.length_nil] at h1; omega
    · rw [wtN_append]
      simp only [List.length_nil] at h1
      have : ∀ n : Nd, wtN [n] = n.nx.length := fun n => by simp [wtN]
      rw [this]
      simp only
      omega
theorem ndG_wt (N : List Nd) : ((List.range N.length).map fun k => (ndG N k).nx.length).sum = wtN N := by
  have : (List.range N.length).map (fun k => (ndG N k).nx.length) = N.map fun n => n.nx.length := by
    apply List.ext_getElem
    · simp
    · intro i h1 h2
      simp at h1 h2
      simp [← ndG_eq h1]
  rw [this]
  rfl
theorem sum_filter_le (f : Nat → Nat) (p : Nat → Bool) : ∀ l : List Nat, ((l.filter p).map f).sum ≤ (l.map f).sum
  | [] => by simp
  | a :: l => by
    have := sum_filter_le f p l
    rw [List.filter_cons]
    split
    · simp; omega
    · simp; omega
/-- Numbering keeps the edges. -/
theorem numb_wt {N : List Nd} {o : List Nat} (h : o.Nodup) (hl : ∀ x ∈ o, x < N.length) (o' : List Nat) : wtN (o.map (numN N o')) ≤ wtN N := by
  have h1 : ((List.range N.length).filter fun j => decide (j ∈ o)).Perm o := by
    rw [List.perm_ext_iff_of_nodup (List.Nodup.sublist List.filter_sublist List.nodup_range) h]
    intro j
    rw [List.mem_filter, List.mem_range, decide_eq_true_eq]
    exact ⟨fun h => h.2, fun hj => ⟨hl j hj, hj⟩⟩
  have h2 : wtN (o.map (numN N o')) = (o.map fun k => (ndG N k).nx.length).sum := by
    unfold wtN
    rw [List.map_map]
    congr 1
    refine List.map_congr_left fun k _ => ?_
    simp [numN]
  rw [h2, ← (h1.map fun k => (ndG N k).nx.length).sum_nat, ← ndG_wt]
  exact sum_filter_le _ _ _
/-- The automaton of a list of words: its nodes. -/
def autoS (S : List ByteArray) : List Nd := autoL (sufs 0 S) 101
theorem autoS_ok {S : List ByteArray} (h : WsOk 0 101 S) : (autoS S).length ≤ 1 + totL (sufs 0 S) ∧ wtN (autoS S) ≤ totL (sufs 0 S) ∧ 0 < (autoS S).length := by
  have hf : ∀ x ∈ sufs 0 S, x.length < 101 := fun x hx => by
    obtain ⟨s, hs, rfl⟩ := List.mem_map.1 hx
    have := h.hi s hs
    have hl := toL_len s
    rw [List.length_drop, hl]
    omega
  obtain ⟨h1, h2, h3⟩ := bld_ok 101 [] (sufs 0 S) h.rise hf (by omega) Dn.nil
  have h4 := bld_len 101 [] (sufs 0 S) h.rise
  have h5 := bld_wt 101 [] (sufs 0 S) h.rise
  obtain ⟨d1, d2, d3, -⟩ := dfs_ok h2 _ [] _ h3 h3 List.nodup_nil (by simp)
  have h6 := nodup_len d1 d2
  unfold autoS autoL numb
  refine ⟨?_, Nat.le_trans (numb_wt d1 d2 _) (by simpa [wtN] using h5), ?_⟩
  · rw [List.length_map]
    simp at h4
    omega
  · rw [List.length_map]
    exact List.length_pos_of_mem d3
end Go.Proofs.YtabljchbchjjcaaGreatDoor
end
section
namespace Go.Proofs.YtabljchbchjjcaaGreatDoor
set_option linter.unusedVariables false
set_option linter.unusedSimpArgs false
open Go Go.RowKit Go.Lib Go.Sort
def encB (x : UInt8) : Value := .int .u8 x.toNat
theorem Wr.holds {w : World} {g : Nat} {l : List UInt8} (h : Wr w g (bytesV l)) : Holds encB w g 0 l.toArray := fun j hj => by
  have hj' : j < l.length := by simpa using hj
  refine ⟨?_, ?_⟩
  · rw [Nat.zero_add]
    refine h.2.1 j _ ?_
    rw [bytesV_get, List.getElem?_eq_getElem hj', getElem!_pos l.toArray j hj]
    rfl
  · rw [Nat.zero_add]
    exact h.2.2 j (by rw [bytesV_length]; exact hj')
theorem Wr.of_holds {w : World} {g : Nat} {l : List UInt8} (hg : g < w.heap.size) (h : Holds encB w g 0 l.toArray) : Wr w g (bytesV l) := by
  refine ⟨hg, fun j u hj => ?_, fun j hj => ?_⟩
  · have hj' : j < l.length := by
      have := (List.getElem?_eq_some_iff.1 hj).1
      rwa [bytesV_length] at this
    have := (h j (by simpa using hj')).1
    rw [Nat.zero_add, getElem!_pos l.toArray j (by simpa using hj')] at this
    rw [this, ← hj, bytesV_get, List.getElem?_eq_getElem hj']
    rfl
  · have := (h j (by rw [bytesV_length] at hj; simpa using hj)).2
    rwa [Nat.zero_add] at this
theorem putRow_exc (w : World) (n g : Nat) (d : Array UInt8) : Exc g w (putRow encB (Sort.ahead w n) g 0 d) :=
  ⟨rfl, rfl, rfl, by simp, fun k hk hg => by simp [putRow, mapBlock, Array.getElem?_modify, Ne.symm hg]⟩
set_option maxHeartbeats 1600000 in
set_option maxRecDepth 1000000 in
theorem rev_arr (blk off cap : Nat) (d : Array UInt8) (w : World) (hH : Holds encB w blk off d) (hsz : d.size ≤ 9223372036854775807) :
    Calls Tryz.prog 57 #[.slice (some ⟨blk, off, none⟩) d.size cap] w fun e w' => e = .returned (.tuple #[]) ∧ ∃ n, w' = putRow encB (Sort.ahead w n) blk off d.reverse := by
  have mixed : Tryz.prog.follows Departure.mixedOrders = true := by kernel_rfl
  go_enter Tryz.func57, Tryz.ntmps57
  go_wp2
  go_loopg [2, 3] d.size (fun k s2 s3 wr => ∃ (i jn : Nat) (jz : Int) (dk : Array UInt8) (n : Nat), s2 = .int .i64 i ∧ s3 = .int .i64 jz ∧ ((i : Int) < jz → jz = jn ∧ jn < d.size) ∧ (¬ (i : Int) < jz → ¬ i < jn) ∧ jn - i ≤ k ∧
    dk.size = d.size ∧ wr = putRow encB (Sort.ahead w n) blk off dk ∧ reverseLoop i jn dk = reverseLoop 0 (d.size - 1) d)
  case atStart => exact ⟨0, d.size - 1, (d.size : Int) - 1, d, 0, rfl, rfl, fun h => ⟨by omega, by omega⟩, fun h => by omega, by omega, rfl, (putRow_self encB w blk off d hH).symm, rfl⟩
  case round =>
    obtain ⟨i, jn, jz, dk, n, rfl, rfl, h1, h2, hk, hds, hwr, heq⟩ := hrel
    by_cases hlt : (i : Int) < jz
    · obtain ⟨rfl, hjn⟩ := h1 hlt
      have hij : i < jn := by omega
      have hid2 : i < d.size := by omega
      have hHk : Holds encB wr blk off dk := by rw [hwr]; exact holds_putRow encB _ blk off d dk (holds_ahead encB w n blk off d hH) hds
      obtain ⟨ci, fi⟩ := hHk i (by omega)
      obtain ⟨cj, fj⟩ := hHk jn (by omega)
      unfold encB at ci cj
      have A : Aside (wr = putRow encB (Sort.ahead w n) blk off dk) := hwr
      clear hwr hHk hH h1 h2
      go_wp2_with fail
      go_region_o
      go_wp2
      go_roundg (jn - 1 - (i + 1))
      case measure => omega
      case rel =>
        rw [reverseLoop, if_pos hij] at heq
        exact ⟨i + 1, jn - 1, (jn : Int) - 1, swp dk i jn, n + 1, by simp, rfl, fun h => ⟨by omega, by omega⟩, fun h => by omega, Nat.le_refl _, by rw [size_swp]; exact hds,
          swap_world encB (by omega) (by omega) A.out (by first | rfl | simp [encB, getElem!_pos, show jn < dk.size by omega]) (by first | rfl | simp [encB, getElem!_pos, show i < dk.size by omega]), heq⟩
    · have hnot := h2 hlt
      go_wp2
      go_end0
      refine ⟨rfl, n, ?_⟩
      rw [reverseLoop, if_neg hnot] at heq
      rw [← Lib.reverseLoop_reverse, ← heq]
theorem rev_any (g cap : Nat) (l : List UInt8) (n : Nat) (w : World) (hn : n = l.length) (hW : Wr w g (bytesV l)) (hsz : n ≤ 1048576) :
    Calls Tryz.prog 57 #[.slice (some ⟨g, 0, none⟩) n cap] w fun e w' => e = .returned (.tuple #[]) ∧ Wr w' g (bytesV l.reverse) ∧ Exc g w w' := by
  subst hn
  have hs : l.toArray.size = l.length := by simp
  have h := rev_arr g 0 cap l.toArray w hW.holds (by rw [hs]; omega)
  rw [hs] at h
  refine h.mono ?_
  rintro e w' ⟨rfl, n, rfl⟩
  have hx := putRow_exc w n g l.toArray.reverse
  refine ⟨rfl, Wr.of_holds (Nat.lt_of_lt_of_le hW.1 hx.size) ?_, hx⟩
  have := holds_putRow encB (Sort.ahead w n) g 0 l.toArray l.toArray.reverse (holds_ahead encB w n g 0 _ hW.holds) (by simp)
  simpa using this
def revS (s : ByteArray) : ByteArray := ⟨s.data.toList.reverse.toArray⟩
theorem revS_size (s : ByteArray) : (revS s).size = s.size := by
  show s.data.toList.reverse.toArray.size = s.data.size
  simp
set_option maxHeartbeats 400000 in
theorem reversed_any (s : ByteArray) (w : World) (hs : s.size ≤ 1048576) : Calls Tryz.prog 36 #[.string s] w (Ret (.string (revS s)) w) := by
  have HZ : Hid (s.size = s.data.toList.length) := hid (by simp)
  go_enter Tryz.func36, Tryz.ntmps36
  go_wp2_with (refine wpList_bytes rfl _ 9 22 rfl Tryz.underlying9 Tryz.underlying22 Tryz.underlying5 rfl ?_; intro cp w1 hwr hcap hx hsz1; have HW := hid hwr; clear hwr)
  refine (rev_any w.heap.size cp s.data.toList s.size w1 HZ.out HW.out hs).mono ?_
  rintro e w2 ⟨rfl, hw2, hx2⟩
  have hE : Ext w w2 := (Exb.of_exc (lo := w.heap.size) (hi := w.heap.size + 1) hx2 (Nat.le_refl _) (by omega)).ext0 hx (Nat.le_refl _)
  have HR := hid hw2.rd
  have HL : Hid (s.size = s.data.toList.reverse.length) := hid (by rw [List.length_reverse]; exact HZ.out)
  clear hx hx2 hw2 HW
  go_wp2_with (refine wpList_str rfl _ 22 9 rfl Tryz.underlying22 Tryz.underlying5 Tryz.underlying9 rfl (l := s.data.toList.reverse) HL.out HR.out ?_)
  go_returns
  exact ⟨rfl, hE⟩
set_option maxHeartbeats 1000000 in
theorem l08Back_any (s : ByteArray) (w : World) (hs : s.size ≤ 1048576) : Calls Tryz.prog 51 #[.string s] w (Ret (.string (revS s)) w) := by
  obtain ⟨L, hL⟩ : ∃ L, s.data.toList.reverse = L := ⟨_, rfl⟩
  have HLE : Hid (L.length = s.size) := hid (by rw [← hL, List.length_reverse]; simp)
  have HT : Hid (∀ k j (hj : j < s.size), k + j + 1 = s.size → L.take (k + 1) = L.take k ++ [s[j]]) := hid (by
    intro k j hj hkj
    have hln : s.data.toList.length = s.size := by simp
    have e : L[k]? = some s[j] := by
      rw [← hL, List.getElem?_reverse (by rw [hln]; omega), hln, show s.size - 1 - k = j by omega, Array.getElem?_toList]
      exact Array.getElem?_eq_getElem hj
    rw [List.take_add_one, e]
    rfl)
  have HV : Hid (revS s = ⟨L.toArray⟩) := hid (by unfold revS; rw [hL])
  clear hL
  go_enter Tryz.func51, Tryz.ntmps51
  go_wp2_with fail
  go_loopw [3, 4] (fun v i wr => ∃ (k m cap : Nat) (a' : Option Addr) (z : Int), k + m = s.size ∧ z = (m : Int) - 1 ∧ i = .int .i64 z ∧ v = .slice a' k cap ∧ Hid (Own wr w.heap.size 5 1 a' k cap (bytesV (L.take k))) ∧ Ext w wr) (fun _ i _ => (RowKit.intOf i + 1).toNat)
  case atStart => exact ⟨0, s.size, 0, some ⟨w.heap.size, 0, none⟩, _, by omega, rfl, rfl, rfl, hid (Own.empty _ _ _ _ _), (Ext.refl _).alloc _⟩
  case round =>
    obtain ⟨k, m, cap, a', z, hkm, hz, rfl, rfl, hown, hx⟩ := hrel
    have hsz := hx.size
    by_cases hlt : 0 < m
    · obtain ⟨j, hj⟩ : ∃ j : Nat, z = (j : Int) := ⟨m - 1, by omega⟩
      subst hj
      have hjs : j < s.size := by omega
      have HZJ := hid hz
      clear hz
      have HT1 := hid (HT.out k j hjs (by have := HZJ.out; omega))
      have hown2 := hown.out
      obtain ⟨u, hu⟩ : ∃ u, s[j] = u := ⟨_, rfl⟩
      rw [hu] at HT1
      go_wp2_with (at_builtin; refine wpList_push rfl _ _ 22 rfl El_u8 rfl [_] rfl rfl (by simp [Value.oneCell']) hown2 (by omega) (by unfold maxLen; omega) (by omega) ?_; intro a3 c3 w3 hown3 hb3; have HO := hid hown3; clear hown3 hown2)
      go_roundw
      case rel => exact ⟨k + 1, m - 1, c3, a3, (j : Int) - 1, by omega, by have := HZJ.out; omega, by go_num, rfl, hid (by rw [HT1.out, bytesV_append]; exact HO.out), hx.thenBelow hb3 (by omega)⟩
      case measure => simp [RowKit.intOf]
    · obtain rfl : m = 0 := by omega
      obtain rfl : k = s.size := by omega
      obtain rfl : z = -1 := by omega
      have HX : Hid (L.take s.size = L) := hid (by rw [← HLE.out]; exact List.take_length)
      rw [HX.out] at hown
      clear hkm hz
      go_wp2_with (refine wpList_str rfl _ 22 9 rfl Tryz.underlying22 Tryz.underlying5 Tryz.underlying9 rfl (l := L) HLE.out.symm hown.out.rd ?_)
      go_returns
      exact ⟨by rw [HV.out]; rfl, hx⟩
end Go.Proofs.YtabljchbchjjcaaGreatDoor
end
