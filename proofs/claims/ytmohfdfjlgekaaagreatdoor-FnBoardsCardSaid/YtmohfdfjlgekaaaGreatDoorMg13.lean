/- Several texts in one: Dec, Ch11t. Conditions: see each. -/
import Derived.Test.YtmohfdfjlgekaaaGreatDoorMg5
import Derived.Test.YtmohfdfjlgekaaaGreatDoorApp0
import Derived.Test.YtmohfdfjlgekaaaGreatDoorCh11a
import Derived.Lib.ItoaNum
import Derived.Test.YtmohfdfjlgekaaaGreatDoorMg2
section
namespace Go.Proofs.YtmohfdfjlgekaaaGreatDoor
set_option linter.unusedVariables false
set_option linter.unusedSimpArgs false
open Go Go.RowKit
def decS (n : Nat) : ByteArray := ⟨(Lib.decDigits n).toArray⟩
theorem dec_digs (n : Nat) (h0 : 0 < n) (h : n < 100) : Lib.decDigits n = digs n [] := by
  by_cases h10 : n < 10
  · rw [Lib.decDigits, dif_pos h10, digs_step n [] h0, show n / 10 = 0 by omega, digs_zero, show n % 10 = n by omega]
  · rw [Lib.decDigits, dif_neg h10, Lib.decDigits, dif_pos (by omega), digs_step n [] h0, digs_step (n / 10) _ (by omega), show n / 10 / 10 = 0 by omega, digs_zero, show n / 10 % 10 = n / 10 by omega]
    rfl
theorem decS_size (n : Nat) (h : n < 100) : (decS n).size ≤ 2 := by
  show (Lib.decDigits n).toArray.size ≤ 2
  rw [List.size_toArray]
  by_cases h10 : n < 10
  · rw [Lib.decDigits, dif_pos h10]; simp
  · rw [Lib.decDigits, dif_neg h10, Lib.decDigits, dif_pos (by omega)]; simp
theorem Decimal_any (n : Nat) (h : n < 100) (w : World) : Calls Tryz.prog 46 #[.int .i64 n] w (Same (.string (decS n)) w) := by
  have HF := hid (Tryz.internal_strconv_FormatInt_10_small n h)
  have HD : Hid (decS n = ⟨(Lib.decDigits n).toArray⟩) := hid rfl
  go_enter Tryz.func46, Tryz.ntmps46
  go_wp2_with fail
  have HG : ∀ w, Calls Tryz.prog 84 #[.int .i64 n, .int .i64 10] w (Same (.string (decS n)) w) := by
    intro w
    go_enter Tryz.func84, Tryz.ntmps84
    go_wp2_with fail
    refine (HF.out _).mono ?_
    rintro e w1 ⟨rfl, rfl⟩
    go_wp2_with fail
    go_returns
    exact ⟨by rw [HD.out]; rfl, rfl⟩
  refine (HG _).mono ?_
  rintro e w1 ⟨rfl, rfl⟩
  go_wp2_with fail
  go_returns
  exact ⟨rfl, rfl⟩
theorem own_lit (w : World) (e : TypeId) (xs : List Value) (n : Nat) (h : n = xs.length) (hm : n ≤ maxLen) : Own (w.alloc (.cells xs.toArray e)) w.heap.size e 1 (some ⟨w.heap.size, 0, none⟩) n n xs := by
  subst h
  exact .inr ⟨by simp, .inr ⟨w.heap.size, xs.length, xs.toArray, rfl, Nat.le_refl _, heap_alloc_new w _, Nat.le_refl _, hm, by simp, by simp⟩⟩
set_option maxHeartbeats 800000 in
theorem l01Dec_any (n : Nat) (w : World) (h0 : 0 < n) (h1 : n < 100) : Calls Tryz.prog 94 #[.int .i64 n] w (Ret (.string (decS n)) w) := by
  have HK : Hid (decS n = ⟨(digs n []).toArray⟩) := hid (by unfold decS; rw [dec_digs n h0 h1])
  have HL : Hid (0 < (digs n []).length) := hid (by
    rw [← dec_digs n h0 h1]
    by_cases h10 : n < 10
    · rw [Lib.decDigits, dif_pos h10]; simp
    · rw [Lib.decDigits, dif_neg h10]; simp)
  go_enter Tryz.func94, Tryz.ntmps94
  go_wp2_with fail
  go_loopw [3, 4] (fun s t wr => ∃ (m q c : Nat) (a : Option Addr) (acc : List UInt8), t = .int .i64 m ∧ s = .slice a q c ∧ Hid (q = acc.length) ∧ Hid (digs n [] = digs m acc) ∧ q + m ≤ n ∧ Hid (Own wr w.heap.size 5 1 a acc.length c (bytesV acc)) ∧ Ext w wr) (fun _ t _ => (intOf t).toNat)
  case atStart => exact ⟨n, 0, 0, some ⟨w.heap.size, 0, none⟩, [], rfl, rfl, hid rfl, hid rfl, by simp, hid (Own.empty _ _ _ _ _), (Ext.refl w).alloc _⟩
  case round =>
    obtain ⟨m, q, c, a, acc, rfl, rfl, HQ, hd, hlen, HO, hx⟩ := hrel
    by_cases hm : 0 < m
    · have hmi : (0 : Int) < m := by omega
      have hmi2 : ¬ (m : Int) = 0 := by omega
      have HM := hid (digs_step m acc hm)
      have q1 : (m : Int) % 10 = ((m % 10 : Nat) : Int) := by omega
      have q2 : (m : Int) / 10 = ((m / 10 : Nat) : Int) := by omega
      obtain ⟨r, hr⟩ : ∃ r, m % 10 = r := ⟨_, rfl⟩
      have hr10 : r < 10 := by omega
      obtain ⟨d, hdv⟩ : ∃ d, m / 10 = d := ⟨_, rfl⟩
      have hdm : d < m := by omega
      rw [hr] at q1 HM
      rw [hdv] at q2 HM
      have hr0 : ¬ (r : Int) < 0 := by omega
      clear hr hdv
      have HU : Hid (((UInt8.ofNat (48 + r)).toNat : Int) = 48 + (r : Int)) := hid (by simp; omega)
      obtain ⟨x, hx8⟩ : ∃ x : UInt8, UInt8.ofNat (48 + r) = x := ⟨_, rfl⟩
      rw [hx8] at HU HM
      clear hx8
      have HW := hid hx.size
      have HOa : Hid (Own (wr.alloc (.cells #[.int .u8 (48 + (r : Int))] 5)) w.heap.size 5 1 (some ⟨wr.heap.size, 0, none⟩) 1 1 (bytesV [x])) := hid (by
        have := (own_lit wr 5 [.int .u8 (48 + (r : Int))] 1 rfl (by unfold maxLen; omega)).mono HW.out
        rw [← HU.out] at this ⊢
        exact this)
      have HRd := hid (HO.out.rd.ext ((Ext.refl wr).alloc (.cells #[.int .u8 (48 + (r : Int))] 5)))
      go_wp2_with (at_builtin; refine wpList_appendm rfl _ _ 22 rfl El_u8 rfl rfl (bytesV acc) HRd.out (by rw [bytesV_length, HQ.out]; omega) bytesV_one HOa.out (by have := HW.out; simp; omega) (by unfold maxLen; omega) (by omega) ?_; intro a2 c2 w3 hown2 hb2; have HO2 := hid hown2; have HE2 := hid ((hx.alloc _).thenBelow hb2 (by simp)); clear hown2 hb2)
      go_roundw
      case rel => exact ⟨d, q + 1, c2, a2, x :: acc, by go_num, by rw [Nat.add_comm], hid (by rw [HQ.out]; rfl), hid (by rw [hd.out, HM.out]), by omega, hid (by rw [List.length_cons, ← HQ.out, Nat.add_comm q 1]; exact HO2.out), HE2.out⟩
      case measure => simp [intOf]; omega
    · obtain rfl : m = 0 := by omega
      have HA : Hid (digs n [] = acc) := hid (by rw [hd.out, digs_zero])
      have hq0 : 0 < q := by have := HL.out; rw [HA.out] at this; have := HQ.out; omega
      have hq1 : ¬ q = 0 := by omega
      have hn0 : ¬ (n : Int) < 0 := by omega
      go_wp2_with (refine wpList_str rfl _ 22 9 rfl Tryz.underlying22 Tryz.underlying5 Tryz.underlying9 rfl (l := acc) HQ.out HO.out.rd ?_)
      go_returns
      exact ⟨by rw [HK.out, HA.out]; rfl, hx⟩
end Go.Proofs.YtmohfdfjlgekaaaGreatDoor
end
section
namespace Go.Proofs.YtmohfdfjlgekaaaGreatDoor
set_option linter.unusedVariables false
set_option linter.unusedSimpArgs false
open Go Go.RowKit
def nl (s : ByteArray) : List UInt8 := s.data.toList ++ [10]
theorem join_nl : ∀ (x : ByteArray) (l : List ByteArray), Lib.join ((x :: l).map (·.data.toList)) [10] ++ [10] = (x :: l).flatMap nl
  | x, [] => by simp [Lib.join, List.intercalate, nl]
  | x, y :: l => by
    have ih := join_nl y l
    rw [List.flatMap_cons, ← ih]
    simp [Lib.join, List.intercalate, nl, List.intersperse]
def headS (m : Nat) : ByteArray := ⟨#[98, 111, 97, 114, 100, 32]⟩ ++ decS m
def linesL (m : Nat) (p c : ByteArray) : List ByteArray := headS m :: (rowsL m p m ++ rowsL m c m)
def textB (m : Nat) (p c : ByteArray) : ByteArray := ⟨((linesL m p c).flatMap nl).toArray⟩
def textV (n : Int) (p c : ByteArray) : ByteArray := if okB n p c then textB n.toNat p c else ⟨#[]⟩
theorem ba_ext2 {x y : ByteArray} (h : x.data.toList = y.data.toList) : x = y := ByteArray.ext (Array.toList_inj.1 h)
theorem nl_add (l : List UInt8) (s : ByteArray) : (⟨l.toArray⟩ : ByteArray) ++ (s ++ ⟨#[10]⟩) = ⟨(l ++ nl s).toArray⟩ := by
  apply ba_ext2
  simp [nl, ByteArray.data_append]
theorem rowAt_size (n : Nat) (s : ByteArray) (k : Nat) : (rowAt n s k).size ≤ n := by
  unfold rowAt
  rw [ByteArray.size_extract]
  omega
theorem flat_len (l : List ByteArray) (b : Nat) (h : ∀ s ∈ l, s.size ≤ b) : (l.flatMap nl).length ≤ l.length * (b + 1) := by
  induction l with
  | nil => simp
  | cons x l ih =>
    have h1 := ih (fun s hs => h s (List.mem_cons_of_mem _ hs))
    have h2 := h x (List.mem_cons_self ..)
    rw [List.flatMap_cons, List.length_append, List.length_cons, Nat.add_mul]
    have : (nl x).length = x.size + 1 := by simp [nl]
    omega
theorem head_size (m : Nat) (h : m < 100) : (headS m).size ≤ 8 := by
  unfold headS
  rw [ByteArray.size_append]
  have := decS_size m h
  show 6 + _ ≤ 8
  omega
theorem lines_size (m : Nat) (p c : ByteArray) (h1 : 5 ≤ m) (h2 : m ≤ 15) : ∀ s ∈ linesL m p c, s.size ≤ 15 := by
  intro s hs
  unfold linesL at hs
  rcases List.mem_cons.1 hs with rfl | hs
  · have := head_size m (by omega); omega
  · rcases List.mem_append.1 hs with hs | hs
    · obtain ⟨k, _, rfl⟩ := List.mem_map.1 hs
      exact Nat.le_trans (rowAt_size m p k) h2
    · obtain ⟨k, _, rfl⟩ := List.mem_map.1 hs
      exact Nat.le_trans (rowAt_size m c k) h2
theorem lines_len (m : Nat) (p c : ByteArray) : (linesL m p c).length = 2 * m + 1 := by
  unfold linesL
  rw [List.length_cons, List.length_append, rowsL_length, rowsL_length]
  omega
end Go.Proofs.YtmohfdfjlgekaaaGreatDoor
end
