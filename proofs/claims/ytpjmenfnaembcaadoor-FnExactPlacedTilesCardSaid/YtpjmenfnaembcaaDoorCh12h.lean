/- Premiums of the squares that a play fills anew, and factors. Conditions stand at each. -/
import Derived.Test.YtpjmenfnaembcaaDoorCh12g
namespace Go.Proofs.YtpjmenfnaembcaaDoor
set_option linter.unusedVariables false
set_option linter.unusedSimpArgs false
open Go Go.RowKit
/-- The premium under a letter of a play. -/
def prAt (n : Int) (p : ByteArray) (r c : Int) (d : Bool) (i : Nat) : UInt8 := bAt p (sqR r d i * n + sqC c d i).toNat
def prU (n : Int) (p : ByteArray) (r c : Int) (d : Bool) (l : List Nat) : List UInt8 := l.map (prAt n p r c d)
theorem prU_length (n : Int) (p : ByteArray) (r c : Int) (d : Bool) (l : List Nat) : (prU n p r c d l).length = l.length := by simp [prU]
theorem prAt_eq {n : Int} {p : ByteArray} {r c : Int} {d : Bool} {i : Nat} (h : inRC n (sqR r d i) (sqC c d i) = true) : sqAt n p (sqR r d i) (sqC c d i) = ((prAt n p r c d i).toNat : Int) := by
  unfold sqAt prAt
  rw [if_pos h]
theorem prU_take (n : Int) (p : ByteArray) (r c : Int) (d : Bool) (l : List Nat) (k : Nat) (h : k < l.length) : (prU n p r c d l).take (k + 1) = (prU n p r c d l).take k ++ [prAt n p r c d (l.getD k 0)] := by
  rw [List.take_succ_eq_append_getElem (by rw [prU_length]; exact h)]
  congr 2
  simp [prU, List.getD_eq_getElem?_getD, h]
def RetBy (L : List UInt8) (w : World) (e : Ending) (w' : World) : Prop := ∃ a c, e = .returned (.slice a L.length c) ∧ Own w' w.heap.size 5 1 a L.length c (bytesV L) ∧ Ext w w'
theorem getD_mem {l : List Nat} {k : Nat} (h : k < l.length) : l.getD k 0 ∈ l := by
  rw [List.getD_eq_getElem?_getD, List.getElem?_eq_getElem h]
  exact List.getElem_mem h
theorem sq_in {n r c : Int} {d : Bool} {m : Nat} (hr : inRC n r c = true) (hl : (if d then r else c) + (m : Int) ≤ n) (i : Nat) (hi : i < m) : inRC n (sqR r d i) (sqC c d i) = true := by
  have := plAt_in hr hl i hi
  cases d <;> exact this
set_option maxHeartbeats 2000000 in
theorem premiumsUsed_any (n : Int) (p cs : ByteArray) (r c : Int) (d : Bool) (s : ByteArray) (w : World) (h1 : 5 ≤ n) (h2 : n ≤ 15) (hc : (cs.size : Int) = n * n) (hp : (p.size : Int) = n * n) (hcell : allB cellB cs = true) (hin : inRC n r c = true) (hl : (if d then r else c) + (s.size : Int) ≤ n) (hm : allB letterB s = true) :
    Calls Tryd.prog 42 #[boardV n p cs, playV r c d s] w (RetBy (prU n p r c d (frL (fun i => plAt n cs r c d i) s.size)) w) := by
  have HN := hid (fun w' => newSquares_any n p cs r c d s w' h1 h2 hc hcell hin hl hm)
  have hs15 : s.size ≤ 15 := by
    obtain ⟨r1, r2, r3, r4⟩ := inRC_true hin
    cases d <;> simp at hl <;> omega
  obtain ⟨l, hll⟩ : ∃ l, frL (fun i => plAt n cs r c d i) s.size = l := ⟨_, rfl⟩
  have HIN : Hid (∀ k, k < l.length → inRC n (sqR r d (l.getD k 0 : Nat)) (sqC c d (l.getD k 0 : Nat)) = true) := hid (fun k hk => sq_in hin hl _ (frL_lt (by rw [hll]; exact getD_mem hk)))
  have hl15 : l.length ≤ 15 := by
    have := frL_le (fun i => plAt n cs r c d i) s.size
    rw [hll] at this
    omega
  rw [hll] at HN ⊢
  clear hll hin hl hm hcell hc
  have HP := hid hp
  clear hp
  have HT := hid (prU_take n p r c d l)
  have HLEN := hid (prU_length n p r c d l)
  obtain ⟨L, hL⟩ : ∃ L, prU n p r c d l = L := ⟨_, rfl⟩
  rw [hL] at HT HLEN ⊢
  clear hL
  go_enter Tryd.func42, Tryd.ntmps42
  go_wp2_with fail
  refine (HN.out _).mono ?_
  rintro e w1 ⟨a1, c1, a2, c2, rfl, ho1, -, hx⟩
  have a0 := hx.cell (b := w.heap.size) (o := 0) (v := .int .i64 n) (by simp)
  have a1' := hx.cell (b := w.heap.size) (o := 1) (v := .string p) (by simp)
  have a2' := hx.cell (b := w.heap.size) (o := 2) (v := .string cs) (by simp)
  have hE : Ext w w1 := (((Ext.refl w).alloc _).alloc _).trans hx
  have HR := hid ho1.rd
  clear hx ho1 HN
  go_wp2_with fail
  go_loopw [7, 19] (fun v i wr => ∃ (k cap : Nat) (a' : Option Addr), k ≤ l.length ∧ i = .int .i64 k ∧ v = .slice a' k cap ∧ Hid (Own wr w1.heap.size 5 1 a' k cap (bytesV (L.take k))) ∧ Ext w1 wr) (fun _ i _ => l.length - (intOf i).toNat)
  case atStart => exact ⟨0, 0, some ⟨w1.heap.size, 0, none⟩, by omega, rfl, rfl, hid (Own.empty _ _ _ _ _), (Ext.refl _).alloc _⟩
  case round =>
    obtain ⟨k, cap, a', hk, rfl, rfl, hown, hx⟩ := hrel
    have hsz := hx.size
    by_cases hlt : k < l.length
    · obtain ⟨b, o, rfl, hcl⟩ := (HR.out.ext hx).sqs (by omega)
      obtain ⟨t0, t1⟩ := hcl k hlt
      have t1' : wr.cell? ⟨b, o + k * 2 + 1, none⟩ = some (.int .i64 (sqC c d (l.getD k 0 : Nat))) := t1
      have hin := HIN.out k hlt
      have HV := hid (prAt_eq (p := p) hin)
      have HT1 := hid (HT.out k hlt)
      replace a0 := hx.cell a0
      replace a1' := hx.cell a1'
      replace a2' := hx.cell a2'
      clear hcl t1
      obtain ⟨q, hq⟩ : ∃ q, o + k * 2 = q := ⟨_, rfl⟩
      rw [hq] at t0 t1'
      obtain ⟨R1, hR1⟩ : ∃ R1, sqR r d (l.getD k 0 : Nat) = R1 := ⟨_, rfl⟩
      obtain ⟨C1, hC1⟩ : ∃ C1, sqC c d (l.getD k 0 : Nat) = C1 := ⟨_, rfl⟩
      obtain ⟨u, hu⟩ : ∃ u, prAt n p r c d (l.getD k 0) = u := ⟨_, rfl⟩
      rw [hR1, hC1] at hin HV
      rw [hR1] at t0
      rw [hC1] at t1'
      rw [hu] at HV HT1
      have HPr := hid (fun w' => premium_any n p cs R1 C1 w' h1 h2 HP.out hin)
      rw [HV.out] at HPr
      clear hR1 hC1 hu hin
      have lt0 := World.block_lt_of_cell? _ _ a0
      go_wp2_with fail
      refine (HPr.out _).mono ?_
      rintro e w2 ⟨rfl, hy⟩
      have hy2 := ((Ext.refl wr).alloc (.cells #[.int .i64 R1, .int .i64 C1] 56)).trans hy
      have hown2 := hown.out.ext hy2
      have hs2 := hy2.size
      have hxx := hx.trans hy2
      clear hy hown HPr t0 t1' a0 a1' a2'
      go_wp2_with (at_builtin; refine wpList_push rfl _ _ 64 rfl El_u8 rfl [_] rfl rfl (by simp [Value.oneCell']) hown2 (by omega) (by unfold maxLen; omega) (by omega) ?_; intro a3 c3 w3 hown3 hb3; have HO := hid hown3; clear hown3 hown2)
      go_roundw
      case rel => exact ⟨k + 1, c3, a3, by omega, by go_num, rfl, hid (by rw [HT1.out, bytesV_append]; exact HO.out), hxx.thenBelow hb3 (by omega)⟩
      case measure => simp [intOf]; omega
    · obtain rfl : k = l.length := by omega
      have HX : Hid (L.take l.length = L) := hid (by rw [← HLEN.out]; exact List.take_length)
      rw [HX.out] at hown
      go_wp2_with fail
      go_returns
      exact ⟨a', cap, by rw [HLEN.out]; rfl, by rw [HLEN.out]; exact hown.out.mono hE.size, hE.trans hx⟩
end Go.Proofs.YtpjmenfnaembcaaDoor
