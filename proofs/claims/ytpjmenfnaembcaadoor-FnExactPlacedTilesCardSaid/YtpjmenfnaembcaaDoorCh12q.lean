/- The tiles that a play places. Conditions stand at each. -/
import Derived.Test.YtpjmenfnaembcaaDoorCh12i
import Derived.Test.YtpjmenfnaembcaaDoorCh03c
namespace Go.Proofs.YtpjmenfnaembcaaDoor
set_option linter.unusedVariables false
set_option linter.unusedSimpArgs false
open Go Go.RowKit
def plU (s : ByteArray) (l : List Nat) : List UInt8 := l.map (bAt s)
theorem plU_length (s : ByteArray) (l : List Nat) : (plU s l).length = l.length := by simp [plU]
theorem plU_take (s : ByteArray) (l : List Nat) (k : Nat) (h : k < l.length) : (plU s l).take (k + 1) = (plU s l).take k ++ [bAt s (l.getD k 0)] := by
  rw [List.take_succ_eq_append_getElem (by rw [plU_length]; exact h)]
  congr 2
  simp [plU, List.getD_eq_getElem?_getD, h]
theorem letter_letP {s : ByteArray} (h : allB letterB s = true) (j : Nat) (hj : j < s.size) : letP (bAt s j) := by
  have := List.all_eq_true.1 h (bAt s j) (by rw [← bAt_eq s j hj]; show s.data[j] ∈ s.data.toList; simp)
  unfold letterB smallB capB at this
  unfold letP
  simp only [Bool.or_eq_true, decide_eq_true_eq] at this
  omega
def plS (s : ByteArray) (l : List Nat) : ByteArray := pileS ⟨(plU s l).toArray⟩
def plV (n : Int) (p cs : ByteArray) (r c : Int) (d : Bool) (s : ByteArray) : Value := if okP n p cs r c d s then .tuple #[.string (plS s (usedL n cs r c d s)), .int .i64 0] else .tuple #[.string ⟨#[]⟩, .int .i64 1]
set_option maxHeartbeats 2000000 in
theorem placedTiles_any (n : Int) (p cs : ByteArray) (r c : Int) (d : Bool) (s : ByteArray) (w : World) (h1 : 5 ≤ n) (h2 : n ≤ 15) (hc : (cs.size : Int) = n * n) (hp : (p.size : Int) = n * n) (hcell : allB cellB cs = true) (hin : inRC n r c = true) (hl : (if d then r else c) + (s.size : Int) ≤ n) (hm : allB letterB s = true) :
    Calls Tryd.prog 40 #[boardV n p cs, playV r c d s] w (Ret (.string (plS s (usedL n cs r c d s))) w) := by
  have HN := hid (fun w' => newSquares_any n p cs r c d s w' h1 h2 hc hcell hin hl hm)
  have hs15 : s.size ≤ 15 := by
    obtain ⟨r1, r2, r3, r4⟩ := inRC_true hin
    cases d <;> simp at hl <;> omega
  obtain ⟨l, hll⟩ : ∃ l, frL (fun i => plAt n cs r c d i) s.size = l := ⟨_, rfl⟩
  have HIN : Hid (∀ k, k < l.length → l.getD k 0 < s.size) := hid (fun k hk => frL_lt (g := fun i => plAt n cs r c d i) (by rw [hll]; exact getD_mem hk))
  have hl15 : l.length ≤ 15 := by
    have := frL_le (fun i => plAt n cs r c d i) s.size
    rw [hll] at this
    omega
  have hll2 : usedL n cs r c d s = l := hll
  rw [hll] at HN
  rw [hll2]
  clear hll hll2 hin hl hcell hc hp
  have HT := hid (plU_take s l)
  have HLEN := hid (plU_length s l)
  have HPS : Hid (plS s l = pileS ⟨(plU s l).toArray⟩) := hid rfl
  have HLB : Hid (∀ x ∈ plU s l, letP x) := hid (fun x hx => by
    obtain ⟨j, hj, rfl⟩ := List.mem_map.1 hx
    obtain ⟨k, hk, rfl⟩ := List.getElem_of_mem hj
    have := HIN.out k hk
    rw [List.getD_eq_getElem?_getD, List.getElem?_eq_getElem hk] at this
    exact letter_letP hm _ this)
  obtain ⟨L, hL⟩ : ∃ L, plU s l = L := ⟨_, rfl⟩
  rw [hL] at HT HLEN HPS HLB
  clear hL hm
  have HBE := hid (bAt_eq s)
  go_enter Tryd.func40, Tryd.ntmps40
  go_wp2_with fail
  refine (HN.out _).mono ?_
  rintro e w1 ⟨a1, c1, a2, c2, rfl, -, ho2, hx⟩
  have b3 := hx.cell (b := w.heap.size + 1) (o := 3) (v := .string s) (by simp)
  have hE : Ext w w1 := (((Ext.refl w).alloc _).alloc _).trans hx
  have HR := hid ho2.rd
  clear hx ho2 HN
  go_wp2_with fail
  go_loopw [7, 19] (fun v i wr => ∃ (k cap : Nat) (a' : Option Addr), k ≤ l.length ∧ i = .int .i64 k ∧ v = .slice a' k cap ∧ Hid (Own wr w1.heap.size 5 1 a' k cap (bytesV (L.take k))) ∧ Ext w1 wr) (fun _ i _ => l.length - (intOf i).toNat)
  case atStart => exact ⟨0, 0, some ⟨w1.heap.size, 0, none⟩, by omega, rfl, rfl, hid (Own.empty _ _ _ _ _), (Ext.refl _).alloc _⟩
  case round =>
    obtain ⟨k, cap, a', hk, rfl, rfl, hown, hx⟩ := hrel
    have hsz := hx.size
    by_cases hlt : k < l.length
    · obtain ⟨b, o, rfl, hcl⟩ := (HR.out.ext hx).ints (by omega)
      have t0 := hcl k hlt
      have hbd := HIN.out k hlt
      have HT1 := hid (HT.out k hlt)
      replace b3 := hx.cell b3
      clear hcl
      obtain ⟨j, hj⟩ : ∃ j, l.getD k 0 = j := ⟨_, rfl⟩
      rw [hj] at t0 hbd HT1
      obtain ⟨u, hu⟩ : ∃ u, bAt s j = u := ⟨_, rfl⟩
      rw [hu] at HT1
      obtain ⟨q, hq⟩ : ∃ q, o + k = q := ⟨_, rfl⟩
      rw [hq] at t0
      have hsj : s[j] = u := by rw [HBE.out j hbd, hu]
      have hown2 := hown.out
      clear hj hu hown
      go_wp2_with (at_builtin; refine wpList_push rfl _ _ 64 rfl El_u8 rfl [_] rfl rfl (by simp [Value.oneCell']) hown2 (by omega) (by unfold maxLen; omega) (by omega) ?_; intro a3 c3 w3 hown3 hb3; have HO := hid hown3; clear hown3 hown2)
      go_roundw
      case rel => exact ⟨k + 1, c3, a3, by omega, by go_num, rfl, hid (by rw [HT1.out, bytesV_append]; exact HO.out), hx.thenBelow hb3 (by omega)⟩
      case measure => simp [intOf]; omega
    · obtain rfl : k = l.length := by omega
      have HX : Hid (L.take l.length = L) := hid (by rw [← HLEN.out]; exact List.take_length)
      rw [HX.out] at hown
      have hq := tilesOf_any (⟨L.toArray⟩ : ByteArray) wr (by show L.toArray.size ≤ _; simp; have := HLEN.out; omega) HLB.out
      rw [← HPS.out] at hq
      have HQ := hid hq
      clear hq
      go_wp2_with (refine wpList_str rfl _ 64 9 rfl Tryd.underlying64 Tryd.underlying5 Tryd.underlying9 rfl (l := L) (by rw [HLEN.out]) hown.out.rd ?_)
      refine HQ.out.mono ?_
      rintro e w2 ⟨rfl, hy⟩
      go_wp2_with fail
      go_returns
      exact ⟨rfl, (hE.trans hx).trans hy⟩
end Go.Proofs.YtpjmenfnaembcaaDoor
