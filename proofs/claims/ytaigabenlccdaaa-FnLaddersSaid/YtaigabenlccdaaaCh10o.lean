/- Whether a word can be made with a pile, by the reference. Conditions: at most 2^20 bytes. -/
import Derived.Test.YtaigabenlccdaaaCh10n
namespace Go.Proofs.Ytaigabenlccdaaa
set_option linter.unusedVariables false
set_option linter.unusedSimpArgs false
open Go Go.RowKit
def eraS (a : ByteArray) (c : UInt8) : ByteArray := ⟨(a.data.toList.erase c).toArray⟩
theorem eraS_list (a : ByteArray) (c : UInt8) : (eraS a c).data.toList = a.data.toList.erase c := by simp [eraS]
theorem eraS_size (a : ByteArray) (c : UInt8) : (eraS a c).size ≤ a.size := by
  have : (eraS a c).size = (a.data.toList.erase c).length := by simp [eraS, ByteArray.size]
  rw [this]
  have := List.length_erase_le (a := c) (l := a.data.toList)
  simpa using this
theorem era_in (l : List UInt8) (c x : UInt8) (h : c ∈ l) : (l ++ [x]).erase c = l.erase c ++ [x] := by rw [List.erase_append, if_pos h]
theorem era_hit (l : List UInt8) (c : UInt8) (h : ¬ c ∈ l) : (l ++ [c]).erase c = l.erase c := by
  rw [List.erase_append, if_neg h, List.erase_of_not_mem h]
  simp
theorem era_miss (l : List UInt8) (c x : UInt8) (h : ¬ c ∈ l) (hx : x ≠ c) : (l ++ [x]).erase c = l.erase c ++ [x] := by
  rw [List.erase_append, if_neg h, List.erase_of_not_mem h, List.erase_of_not_mem (by simpa using Ne.symm hx)]
set_option maxHeartbeats 1000000 in
theorem l03Take_any (a b : ByteArray) (c : UInt8) (w : World) (ha : a.size ≤ 1048576) (hb : b.size = 1) (hbc : ∀ h : 0 < b.size, b[0] = c) :
    Calls Try.prog 93 #[.string a, .string b] w (Ret (.tuple #[.string (eraS a c), .bool (decide (c ∈ a.data.toList))]) w) := by
  have HT := hid (take_byte a)
  have hb0 : 0 < b.size := by omega
  have hbc0 := hbc hb0
  have HE : Hid (eraS a c = ⟨(a.data.toList.erase c).toArray⟩) := hid rfl
  have hcb : c.toNat < 256 := c.toNat_lt
  go_enter Try.func93, Try.ntmps93
  go_wp2_with fail
  clear hbc
  go_loopw [6, 7, 8] (fun v kk i wr => ∃ (k n cap q : Nat) (g : Option Addr), k ≤ a.size ∧ n ≤ k ∧ v = .slice g n cap ∧ kk = .int .i64 (q : Int) ∧ i = .int .i64 (k : Int) ∧ Hid (n = ((a.data.toList.take k).erase c).length) ∧ (q = 1 ∧ Hid (c ∈ a.data.toList.take k) ∨ q = 0 ∧ Hid (¬ c ∈ a.data.toList.take k)) ∧ Own wr w.heap.size 5 1 g n cap (bytesV ((a.data.toList.take k).erase c)) ∧ Ext w wr) (fun _ _ i _ => a.size - (intOf i).toNat)
  case atStart => exact ⟨0, 0, 0, 0, some ⟨w.heap.size, 0, none⟩, by omega, by omega, rfl, rfl, rfl, hid (by simp), .inr ⟨rfl, hid (by simp)⟩, by simpa [bytesV] using Own.empty _ _ _ _ _, (Ext.refl w).alloc _⟩
  case round =>
    obtain ⟨k, n, cap, q, g, hk, hn, rfl, rfl, rfl, HN, hq, hown, hext⟩ := hrel
    have hsz := hext.size
    by_cases hlt : k < a.size
    · obtain ⟨L, hL⟩ : ∃ L, a.data.toList.take k = L := ⟨_, rfl⟩
      obtain ⟨x, hxx⟩ : ∃ x, a[k] = x := ⟨_, rfl⟩
      have HS := hid (HT.out k hlt)
      rw [hL] at HN hq hown HS
      rw [hxx] at HS
      have hxb : x.toNat < 256 := x.toNat_lt
      clear hL
      rcases hq with ⟨rfl, hm⟩ | ⟨rfl, hm⟩
      · have HA : Hid ((a.data.toList.take (k + 1)).erase c = L.erase c ++ [x]) := hid (by rw [HS.out, era_in _ _ _ hm.out])
        have HM : Hid (c ∈ a.data.toList.take (k + 1)) := hid (by rw [HS.out]; exact List.mem_append_left _ hm.out)
        go_wp2_with fail
        go_quiet (fail)
        go_wp2_with (at_builtin; refine wpList_push rfl _ _ 35 rfl El_u8 rfl [_] rfl rfl (by simp [Value.oneCell']) (hown.ext ((Ext.refl _).drewN _)) (by first | omega | simpa using hsz) (by unfold maxLen; omega) (by omega) ?_; intro a1 c1 w1 hown1 hb1)
        go_roundw
        case rel => exact ⟨k + 1, n + 1, c1, 1, a1, by omega, by omega, rfl, rfl, by go_num, hid (by rw [HA.out, List.length_append, ← HN.out]; rfl), .inl ⟨rfl, HM⟩, by rw [HA.out, bytesV_append]; exact hown1, (hext.drewN _).thenBelow hb1 (by omega)⟩
        case measure => simp [intOf]; omega
      · by_cases hxc : x = c
        · have HA : Hid ((a.data.toList.take (k + 1)).erase c = L.erase c) := hid (by rw [HS.out, hxc, era_hit _ _ hm.out])
          have HM : Hid (c ∈ a.data.toList.take (k + 1)) := hid (by rw [HS.out, hxc]; simp)
          subst hxc
          go_wp2_with fail
          go_quiet (fail)
          go_wp2_with fail
          go_roundw
          case rel => exact ⟨k + 1, n, cap, 1, g, by omega, by omega, rfl, rfl, by go_num, hid (by rw [HA.out, ← HN.out]), .inl ⟨rfl, HM⟩, by rw [HA.out]; exact hown.ext ((Ext.refl _).drewN _), hext.drewN _⟩
          case measure => simp [intOf]; omega
        · have HA : Hid ((a.data.toList.take (k + 1)).erase c = L.erase c ++ [x]) := hid (by rw [HS.out, era_miss _ _ _ hm.out hxc])
          have HM : Hid (¬ c ∈ a.data.toList.take (k + 1)) := hid (by rw [HS.out]; simp [hm.out]; exact fun h => hxc h.symm)
          have hne : ((c.toNat : Int) == (x.toNat : Int)) = false := by
            simp only [beq_eq_false_iff_ne]
            intro h
            exact hxc (UInt8.toNat_inj.1 (by omega))
          clear hxc
          go_wp2_with fail
          go_quiet (fail)
          go_wp2_with (at_builtin; refine wpList_push rfl _ _ 35 rfl El_u8 rfl [_] rfl rfl (by simp [Value.oneCell']) (hown.ext ((Ext.refl _).drewN _)) (by first | omega | simpa using hsz) (by unfold maxLen; omega) (by omega) ?_; intro a1 c1 w1 hown1 hb1)
          go_roundw
          case rel => exact ⟨k + 1, n + 1, c1, 0, a1, by omega, by omega, rfl, rfl, by go_num, hid (by rw [HA.out, List.length_append, ← HN.out]; rfl), .inr ⟨rfl, HM⟩, by rw [HA.out, bytesV_append]; exact hown1, (hext.drewN _).thenBelow hb1 (by omega)⟩
          case measure => simp [intOf]; omega
    · obtain rfl : k = a.size := by omega
      have e0 : a.data.toList.take a.size = a.data.toList := List.take_of_length_le (by simp)
      rw [e0] at hown hq HN
      clear e0
      rcases hq with ⟨rfl, hm⟩ | ⟨rfl, hm⟩
      · have HD : Hid (decide (c ∈ a.data.toList) = true) := hid (decide_eq_true hm.out)
        go_wp2_with (refine wpList_str rfl _ 35 9 rfl Try.underlying35 Try.underlying5 Try.underlying9 rfl (l := a.data.toList.erase c) HN.out hown.rd ?_)
        go_returns
        exact ⟨by rw [HE.out, HD.out]; rfl, hext⟩
      · have HD : Hid (decide (c ∈ a.data.toList) = false) := hid (decide_eq_false hm.out)
        go_wp2_with (refine wpList_str rfl _ 35 9 rfl Try.underlying35 Try.underlying5 Try.underlying9 rfl (l := a.data.toList.erase c) HN.out hown.rd ?_)
        go_returns
        exact ⟨by rw [HE.out, HD.out]; rfl, hext⟩
set_option maxHeartbeats 1000000 in
theorem l03Need_any (p s : ByteArray) (w : World) (hp : p.size ≤ 1048576) (hs : s.size ≤ 1048576) :
    Calls Try.prog 69 #[.string p, .string s] w (Ret (.int .i64 (needT p.data.toList s.data.toList s.size : Nat)) w) := by
  have HNL := hid (needT_le p.data.toList s.data.toList)
  have HGD := hid (getD_byte s)
  have HLE := hid (eraS_list)
  have HY := hid (fun (L : List UInt8) i (h : LeftT p.data.toList s.data.toList i L) (hi : i < s.size) => LeftT.yes h (by simpa using hi))
  have HNO := hid (fun (L : List UInt8) i (h : LeftT p.data.toList s.data.toList i L) (hi : i < s.size) => LeftT.no h (by simpa using hi))
  have HEX : Hid (∀ k (h : k < s.size) (h2 : 0 < (s.extract k (k + 1)).size), (s.extract k (k + 1))[0] = s[k]) := hid (fun k h h2 => by simp [ByteArray.getElem_extract])
  have HES : Hid (∀ k, k < s.size → (s.extract k (k + 1)).size = 1) := hid (fun k h => by rw [ByteArray.size_extract]; omega)
  go_enter Try.func69, Try.ntmps69
  go_wp2_with fail
  go_loopw [5, 6, 7] (fun l n i wr => ∃ (k m : Nat) (L : ByteArray), k ≤ s.size ∧ L.size ≤ p.size ∧ l = .string L ∧ n = .int .i64 (m : Int) ∧ i = .int .i64 (k : Int) ∧ m ≤ k ∧ Hid (m = needT p.data.toList s.data.toList k) ∧ Hid (LeftT p.data.toList s.data.toList k L.data.toList) ∧ Ext w wr) (fun _ _ i _ => s.size - (intOf i).toNat)
  case atStart => exact ⟨0, 0, p, by omega, by omega, rfl, rfl, rfl, by omega, hid rfl, hid (LeftT.zero _ _), Ext.refl _⟩
  case round =>
    obtain ⟨k, m, L, hk, hL, rfl, rfl, rfl, hmk, HM, HL, hE⟩ := hrel
    by_cases hlt : k < s.size
    · have h1 := HES.out k hlt
      have h2 := HEX.out k hlt
      have h3 := HGD.out k hlt
      have HY1 := hid (HY.out _ k HL.out hlt)
      have HN1 := hid (HNO.out _ k HL.out hlt)
      rw [h3] at HY1 HN1
      obtain ⟨x, hxx⟩ : ∃ x, s[k] = x := ⟨_, rfl⟩
      rw [hxx] at h2 HY1 HN1
      obtain ⟨b, hb⟩ : ∃ b, s.extract k (k + 1) = b := ⟨_, rfl⟩
      rw [hb] at h1
      have h2' : ∀ h : 0 < b.size, b[0] = x := by subst hb; exact h2
      have HTK := hid (fun w => l03Take_any L b x w (by omega) h1 h2')
      have hLe := eraS_size L x
      have HLL := hid (HLE.out L x)
      clear h1 h2 h2' h3 hxx
      cases hd : decide (x ∈ L.data.toList)
      · have HND := hid (of_decide_eq_false hd)
        rw [hd] at HTK
        clear hd hLe
        go_wp2_with fail
        refine (HTK.out _).mono ?_
        rintro e w1 ⟨rfl, hx⟩
        go_wp2_with fail
        go_roundw
        case rel => exact ⟨k + 1, m + 1, L, by omega, hL, rfl, by go_num, by go_num, by omega, hid (by rw [(HN1.out HND.out).2, ← HM.out]), hid (HN1.out HND.out).1, hE.trans hx⟩
        case measure => simp [intOf]; omega
      · have HND := hid (of_decide_eq_true hd)
        rw [hd] at HTK
        clear hd
        go_wp2_with fail
        refine (HTK.out _).mono ?_
        rintro e w1 ⟨rfl, hx⟩
        go_wp2_with fail
        go_roundw
        case rel => exact ⟨k + 1, m, eraS L x, by omega, by omega, rfl, rfl, by go_num, by omega, hid (by rw [(HY1.out HND.out).2, ← HM.out]), hid (by rw [HLL.out]; exact (HY1.out HND.out).1), hE.trans hx⟩
        case measure => simp [intOf]; omega
    · obtain rfl : k = s.size := by omega
      go_wp2_with fail
      go_returns
      exact ⟨by rw [← HM.out]; rfl, hE⟩
set_option maxHeartbeats 400000 in
theorem l03Blanks_any (p : ByteArray) (w : World) (hp : p.size ≤ 1048576) :
    Calls Try.prog 70 #[.string p] w (Same (.int .i64 (p.data.toList.count 63 : Nat)) w) := by
  have HT := hid (take_byte p)
  go_enter Try.func70, Try.ntmps70
  go_wp2_with fail
  go_loopw [3, 4] (fun n i wr => ∃ (k m : Nat), k ≤ p.size ∧ m ≤ k ∧ n = .int .i64 (m : Int) ∧ i = .int .i64 (k : Int) ∧ Hid (m = (p.data.toList.take k).count 63) ∧ wr = w) (fun _ i _ => p.size - (intOf i).toNat)
  case atStart => exact ⟨0, 0, by omega, by omega, rfl, rfl, hid (by simp), rfl⟩
  case round =>
    obtain ⟨k, m, hk, hm, rfl, rfl, HM, rfl⟩ := hrel
    by_cases hlt : k < p.size
    · have HS := hid (HT.out k hlt)
      obtain ⟨x, hxx⟩ : ∃ x, p[k] = x := ⟨_, rfl⟩
      rw [hxx] at HS
      have hxb : x.toNat < 256 := x.toNat_lt
      by_cases h63 : x = 63
      · have HC : Hid ((p.data.toList.take (k + 1)).count 63 = m + 1) := hid (by rw [HS.out, List.count_append, ← HM.out, h63, List.count_singleton_self])
        subst h63
        go_wp2_with fail
        go_roundw
        case rel => exact ⟨k + 1, m + 1, by omega, by omega, by go_num, by go_num, hid HC.out.symm, by first | rfl | trivial⟩
        case measure => simp [intOf]; omega
      · have HC : Hid ((p.data.toList.take (k + 1)).count 63 = m) := hid (by rw [HS.out, List.count_append, ← HM.out, List.count_eq_zero_of_not_mem (by simpa using fun h => h63 (Eq.symm h))]; omega)
        have hne : ((x.toNat : Int) == 63) = false := by
          simp only [beq_eq_false_iff_ne]
          intro h
          exact h63 (UInt8.toNat_inj.1 (by rw [show (63 : UInt8).toNat = 63 from rfl]; omega))
        clear h63
        go_wp2_with fail
        go_roundw
        case rel => exact ⟨k + 1, m, by omega, by omega, rfl, by go_num, hid HC.out.symm, by first | rfl | trivial⟩
        case measure => simp [intOf]; omega
    · obtain rfl : k = p.size := by omega
      have e0 : p.data.toList.take p.size = p.data.toList := List.take_of_length_le (by simp)
      rw [e0] at HM
      go_wp2_with fail
      go_returns
      exact ⟨by rw [← HM.out]; rfl, rfl⟩
theorem l03Can_any (p s : ByteArray) (w : World) (hp : p.size ≤ 1048576) (hs : s.size ≤ 1048576) :
    Calls Try.prog 50 #[.string p, .string s] w (Ret (.bool (canW p.data.toList s.data.toList)) w) := by
  have H : Hid (canW p.data.toList s.data.toList = decide (needT p.data.toList s.data.toList s.size ≤ p.data.toList.count 63)) := hid (by unfold canW; congr 2)
  have HN := hid (l03Need_any p s w hp hs)
  have HB := hid (fun w => l03Blanks_any p w hp)
  obtain ⟨n, hn⟩ : ∃ n, needT p.data.toList s.data.toList s.size = n := ⟨_, rfl⟩
  obtain ⟨b, hb⟩ : ∃ b, p.data.toList.count 63 = b := ⟨_, rfl⟩
  rw [hn] at H HN
  rw [hb] at H HB
  clear hn hb
  go_enter Try.func50, Try.ntmps50
  go_wp2_with fail
  refine HN.out.mono ?_
  rintro e w1 ⟨rfl, hx⟩
  go_wp2_with fail
  refine (HB.out _).mono ?_
  rintro e w2 ⟨rfl, rfl⟩
  go_wp2_with fail
  go_returns
  exact ⟨ret_bool (by rw [H.out, decide_eq_decide]), hx⟩
end Go.Proofs.Ytaigabenlccdaaa
