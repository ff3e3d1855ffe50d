/- Lists of strings in memory: what the laws' own functions on them compute. Conditions: at most 2^20 elements. -/
import Derived.Test.YtlnccdbmchjhlaaDoorMg1
namespace Go.Proofs.YtlnccdbmchjhlaaDoor
set_option linter.unusedVariables false
set_option linter.unusedSimpArgs false
open Go Go.RowKit

/-- A row in a block from B on that may be written; or none. -/
def OwnR (w : World) (B : Nat) (a : Option Addr) (xs : List Value) : Prop := xs = [] ∨ ∃ g, a = some ⟨g, 0, none⟩ ∧ B ≤ g ∧ Wr w g xs
theorem OwnR.rd {w : World} {B : Nat} {a : Option Addr} {xs : List Value} (h : OwnR w B a xs) : Rd w a xs := by
  rcases h with rfl | ⟨g, rfl, _, h⟩
  · exact Rd.nil _ _
  · exact h.rd
theorem OwnR.ext {w w' : World} {B : Nat} {a : Option Addr} {xs : List Value} (h : OwnR w B a xs) (k : Ext w w') : OwnR w' B a xs := by
  rcases h with rfl | ⟨g, rfl, hb, h⟩
  · exact .inl rfl
  · exact .inr ⟨g, rfl, hb, h.ext k⟩
theorem OwnR.mono {w : World} {B B' : Nat} {a : Option Addr} {xs : List Value} (h : OwnR w B a xs) (hB : B' ≤ B) : OwnR w B' a xs := by
  rcases h with rfl | ⟨g, rfl, hb, h⟩
  · exact .inl rfl
  · exact .inr ⟨g, rfl, Nat.le_trans hB hb, h⟩
theorem Own.ownR {w : World} {B : Nat} {e : TypeId} {a : Option Addr} {n c : Nat} {xs : List Value} (h : Own w B e 1 a n c xs) : OwnR w B a xs := by
  by_cases hn : 0 < n
  · obtain ⟨g, rfl, hB, _, _, h1⟩ := h.form hn
    exact .inr ⟨g, rfl, hB, Wr.of h1⟩
  · have : xs.length = 0 := by rw [h.length]; omega
    exact .inl (List.eq_nil_of_length_eq_zero this)
/-- A row comes back, which is the call's own. -/
def RetL (xs : List Value) (w : World) (e : Ending) (w' : World) : Prop := ∃ a c, e = .returned (.slice a xs.length c) ∧ OwnR w' w.heap.size a xs ∧ Ext w w'

theorem strsV_get (l : List ByteArray) (k : Nat) (h : k < l.length) : (strsV l)[k]? = some (.string l[k]) := by simp [strsV, h]
/-- The cells, by a fact for each. -/
theorem Rd.str {w : World} {a : Option Addr} {l : List ByteArray} (h : Rd w a (strsV l)) (hn : 0 < l.length) : ∃ b o, a = some ⟨b, o, none⟩ ∧ ∀ k (hk : k < l.length), w.cell? ⟨b, o + k, none⟩ = some (.string l[k]) := by
  obtain ⟨b, o, ha, hc⟩ := h.at (by rw [strsV_length]; exact hn)
  exact ⟨b, o, ha, fun k hk => hc k _ (strsV_get l k hk)⟩

set_option maxHeartbeats 400000 in
theorem toStringS_any (a : Option Addr) (c : Nat) (l : List ByteArray) (w : World) (h : Rd w a (strsV l)) (hl : l.length ≤ 1048576) :
    Calls Tryd.prog 20 #[.slice a l.length c] w (RetL (strsV l) w) := by
  have HR := hid h
  clear h
  go_enter Tryd.func20, Tryd.ntmps20
  go_wp2_with (refine wpList_make1 rfl _ _ 22 rfl El_str rfl l.length rfl rfl rfl rfl (by omega) (by unfold maxLen; omega) ?_; intro wm hwr _ hx)
  go_loopw [4] (fun i wr => ∃ k : Nat, k ≤ l.length ∧ i = .int .i64 k ∧ Wr wr w.heap.size ((List.range l.length).map fun j => if j < k then .string (l.getD j ⟨#[]⟩) else .string ⟨#[]⟩) ∧ Ext w wr) (fun i _ => l.length - (intOf i).toNat)
  case atStart => exact ⟨0, by omega, rfl, by simpa [List.map_const'] using hwr, hx⟩
  case round =>
    clear hwr hx
    obtain ⟨k, hk, rfl, hwr, hx⟩ := hrel
    by_cases hlt : k < l.length
    · obtain ⟨b, o, rfl, hc⟩ := (HR.out.ext hx).str (by omega)
      have hck := hc k hlt
      have HS := hid (show (Value.string (l.getD k ⟨#[]⟩)) = .string l[k] by rw [List.getD_eq_getElem?_getD, List.getElem?_eq_getElem hlt]; rfl)
      have HW := hid (hwr.set k (by simpa using hlt) (.string (l.getD k ⟨#[]⟩)))
      obtain ⟨f1, f2⟩ := hwr.fit k (by simpa using hlt)
      clear hwr hc
      obtain ⟨s, hs⟩ : ∃ s, l[k] = s := ⟨_, rfl⟩
      rw [hs] at hck HS
      clear hs
      go_wp2_with fail
      go_roundw
      case rel =>
        refine ⟨k + 1, by omega, by go_num, ?_, hx.setCell (by simp) _⟩
        have e := set_map_range l.length k (fun j => .string (l.getD j ⟨#[]⟩)) (.string ⟨#[]⟩) hlt
        have := HW.out
        rw [e, HS.out] at this
        exact this
      case measure => simp [intOf]; omega
    · obtain rfl : k = l.length := by omega
      have HW := hid hwr
      clear hwr
      go_wp2_with fail
      go_returns
      refine ⟨some ⟨w.heap.size, 0, none⟩, l.length, by rw [strsV_length]; rfl, ?_, hx⟩
      have e : (List.range l.length).map (fun j => if j < l.length then Value.string (l.getD j ⟨#[]⟩) else .string ⟨#[]⟩) = strsV l := by
        apply List.ext_getElem
        · simp [strsV]
        · intro j h1 h2
          simp at h1
          simp [strsV, h1]
      have := HW.out
      rw [e] at this
      exact .inr ⟨_, rfl, Nat.le_refl _, this⟩
def szG : Int → List ByteArray → Int
  | L, [] => L
  | L, s :: r => if L < s.size then -1 else szG (L - s.size) r
def szL (L : Int) (l : List ByteArray) : Int := if L < l.length then -1 else szG (L - l.length) l
def sumL (l : List ByteArray) : Nat := (l.map ByteArray.size).sum
theorem szG_ok : ∀ (L : Int) (l : List ByteArray), 0 ≤ L → ¬ szG L l < 0 → (sumL l : Int) ≤ L ∧ szG L l = L - sumL l
  | L, [], h0, h => by simp [szG, sumL]; exact h0
  | L, s :: r, h0, h => by
    rw [szG] at h ⊢
    split at h
    · omega
    · rename_i hs
      have := szG_ok (L - s.size) r (by omega) h
      rw [if_neg hs]
      simp only [sumL, List.map_cons, List.sum_cons] at *
      omega
theorem sumL_mem {l : List ByteArray} {s : ByteArray} (h : s ∈ l) : s.size ≤ sumL l := by
  induction l with
  | nil => cases h
  | cons a r ih =>
    simp only [sumL, List.map_cons, List.sum_cons] at *
    rcases List.mem_cons.1 h with rfl | h
    · omega
    · have := ih h; omega
theorem szL_ok {L : Int} {l : List ByteArray} (h0 : 0 ≤ L) (h : ¬ szL L l < 0) : (l.length : Int) + sumL l ≤ L ∧ szL L l = L - l.length - sumL l := by
  unfold szL at *
  split at h
  · omega
  · rename_i hs
    have := szG_ok _ _ (by omega) h
    rw [if_neg hs]
    omega
theorem szG_drop (L : Int) (l : List ByteArray) (k : Nat) (h : k < l.length) : szG L (l.drop k) = if L < l[k].size then -1 else szG (L - l[k].size) (l.drop (k + 1)) := by
  rw [List.drop_eq_getElem_cons h, szG]
set_option maxHeartbeats 400000 in
theorem szStringS_any (a : Option Addr) (c : Nat) (l : List ByteArray) (L : Int) (w : World) (h : Rd w a (strsV l)) (hl : l.length ≤ maxLen) (hs : ∀ s ∈ l, s.size ≤ maxLen) (h0 : 0 ≤ L) (h1 : L ≤ 1048576) :
    Calls Tryd.prog 16 #[.slice a l.length c, .int .i64 L] w (Same (.int .i64 (szL L l)) w) := by
  have HR := hid h
  have HS : Hid (∀ k (hk : k < l.length), l[k].size ≤ 9223372036854775807) := hid (fun k hk => hs _ (List.getElem_mem hk))
  clear h hs
  unfold maxLen at hl
  have HL : Hid (szL L l = if L < l.length then -1 else szG (L - l.length) l) := hid rfl
  by_cases hn : L < l.length
  · have h2 : L - l.length < 0 := by omega
    go_enter Tryd.func16, Tryd.ntmps16
    go_wp2_with fail
    go_returns
    exact ⟨ret_int (by rw [HL.out, if_pos hn]), rfl⟩
  · have h2 : ¬ L - l.length < 0 := by omega
    have HL2 : Hid (szL L l = szG (L - l.length) l) := hid (by rw [HL.out, if_neg hn])
    clear HL
    go_enter Tryd.func16, Tryd.ntmps16
    go_wp2_with fail
    go_loop [1, 5] (fun t i => ∃ (k : Nat) (m : Int), k ≤ l.length ∧ i = .int .i64 k ∧ t = .int .i64 m ∧ 0 ≤ m ∧ m ≤ 1048576 ∧ Hid (szG (L - l.length) l = szG m (l.drop k))) (fun _ i => l.length - (intOf i).toNat)
    case atStart => exact ⟨0, L - l.length, by omega, rfl, rfl, by omega, by omega, hid rfl⟩
    case round =>
      obtain ⟨k, m, hk, rfl, rfl, hm0, hm1, hz⟩ := hrel
      by_cases hlt : k < l.length
      · obtain ⟨b, o, rfl, hc⟩ := HR.out.str (by omega)
        have hck := hc k hlt
        have hsz := HS.out k hlt
        have HD := hid (szG_drop m l k hlt)
        clear hc
        obtain ⟨s, hs⟩ : ∃ s, l[k] = s := ⟨_, rfl⟩
        rw [hs] at hck hsz HD
        clear hs
        by_cases hms : m < s.size
        · have h3 : m - s.size < 0 := by omega
          go_wp2_with fail
          go_returns
          exact ⟨ret_int (by rw [HL2.out, hz.out, HD.out, if_pos hms]), rfl⟩
        · have h3 : ¬ m - s.size < 0 := by omega
          have HM := hid hms
          go_wp2_with fail
          go_round
          case rel => exact ⟨k + 1, m - s.size, by omega, by go_num, rfl, by omega, by omega, hid (by rw [hz.out, HD.out, if_neg HM.out])⟩
          case measure => simp [intOf]; omega
      · obtain rfl : k = l.length := by omega
        go_wp2_with fail
        go_returns
        exact ⟨ret_int (by rw [HL2.out, hz.out, List.drop_length]; rfl), rfl⟩
set_option maxHeartbeats 400000 in
theorem eqStringS_self (a b : Option Addr) (c d : Nat) (l : List ByteArray) (w : World) (h : Rd w a (strsV l)) (h' : Rd w b (strsV l)) (hl : l.length ≤ 1048576) :
    Calls Tryd.prog 25 #[.slice a l.length c, .slice b l.length d] w fun e w' => e = .returned (.bool true) ∧ Dr w w' := by
  have HR := hid h
  have HS := hid h'
  clear h h'
  go_enter Tryd.func25, Tryd.ntmps25
  go_wp2_with fail
  go_loopw [5] (fun i wr => ∃ k : Nat, k ≤ l.length ∧ i = .int .i64 k ∧ Dr w wr) (fun i _ => l.length - (intOf i).toNat)
  case atStart => exact ⟨0, by omega, rfl, Dr.refl _⟩
  case round =>
    obtain ⟨k, hk, rfl, hD⟩ := hrel
    by_cases hlt : k < l.length
    · obtain ⟨b1, o1, rfl, hc⟩ := (HR.out.ext hD.ext).str (by omega)
      obtain ⟨b2, o2, rfl, hd⟩ := (HS.out.ext hD.ext).str (by omega)
      have hck := hc k hlt
      have hdk := hd k hlt
      clear hc hd
      obtain ⟨s, hs⟩ : ∃ s, l[k] = s := ⟨_, rfl⟩
      rw [hs] at hck hdk
      clear hs
      go_wp2_with fail
      go_quiet (fail)
      go_wp2_with fail
      go_roundw
      case rel => exact ⟨k + 1, by omega, by go_num, hD.trans ⟨_, rfl⟩⟩
      case measure => simp [intOf]; omega
    · go_wp2_with fail
      go_returns
      exact ⟨rfl, hD⟩
def digs (k : Nat) (acc : List UInt8) : List UInt8 := if h : k = 0 then acc else digs (k / 10) (UInt8.ofNat (48 + k % 10) :: acc)
termination_by k
decreasing_by omega
theorem digs_step (k : Nat) (acc : List UInt8) (h : 0 < k) : digs k acc = digs (k / 10) (UInt8.ofNat (48 + k % 10) :: acc) := by
  rw [digs, dif_neg (by omega)]
theorem digs_zero (acc : List UInt8) : digs 0 acc = acc := by rw [digs, dif_pos rfl]
def markTx (k : Nat) : ByteArray := ⟨(109 :: digs k []).toArray⟩
theorem cons_bytes (x : UInt8) (l : List UInt8) : (⟨[x].toArray⟩ : ByteArray) ++ ⟨l.toArray⟩ = ⟨(x :: l).toArray⟩ := by
  apply ByteArray.ext
  simp
set_option maxHeartbeats 400000 in
theorem markText_any (k : Nat) (w : World) (h0 : 1 ≤ k) (h1 : k ≤ 4000000) : Calls Tryd.prog 40 #[.int .i64 k] w (Ret (.string (markTx k)) w) := by
  have HK : Hid (markTx k = ⟨(109 :: digs k []).toArray⟩) := hid rfl
  have hk0 : ¬ k = 0 := by omega
  go_enter Tryd.func40, Tryd.ntmps40
  go_wp2_with fail
  go_loopw [0, 3] (fun t s wr => ∃ (m : Nat) (acc : List UInt8), t = .int .i64 m ∧ s = .string ⟨acc.toArray⟩ ∧ Hid (digs k [] = digs m acc) ∧ acc.length + m ≤ k ∧ Ext w wr) (fun t _ _ => (intOf t).toNat)
  case atStart => exact ⟨k, [], rfl, rfl, hid rfl, by simp, Ext.refl _⟩
  case round =>
    obtain ⟨m, acc, rfl, rfl, hd, hlen, hx⟩ := hrel
    by_cases hm : 0 < m
    · have hmi : (0 : Int) < m := by omega
      have HM := hid (digs_step m acc hm)
      have q1 : (m : Int) % 10 = ((m % 10 : Nat) : Int) := by omega
      have q2 : (m : Int) / 10 = ((m / 10 : Nat) : Int) := by omega
      obtain ⟨r, hr⟩ : ∃ r, m % 10 = r := ⟨_, rfl⟩
      have hr10 : r < 10 := by omega
      obtain ⟨d, hdv⟩ : ∃ d, m / 10 = d := ⟨_, rfl⟩
      have hdm : d < m := by omega
      rw [hr] at q1 HM
      rw [hdv] at q2 HM
      have HR := hid hr
      have HD := hid hdv
      clear hr hdv
      have w8 : IntKind.u8.wrap (48 + (r : Int)) = 48 + (r : Int) := by simp [IntKind.wrap, IntKind.bits, IntKind.signed]; omega
      have HU : Hid (((UInt8.ofNat (48 + r)).toNat : Int) = 48 + (r : Int)) := hid (by simp; omega)
      obtain ⟨x, hx8⟩ : ∃ x : UInt8, UInt8.ofNat (48 + r) = x := ⟨_, rfl⟩
      rw [hx8] at HU HM
      clear hx8
      have HB : Hid (Rd (wr.alloc (.cells #[.int .u8 (48 + (r : Int))] 5)) (some ⟨wr.heap.size, 0, none⟩) (bytesV [x])) := hid (by
        intro j u hj
        match j with
        | 0 =>
          simp only [bytesV, List.map_cons, List.map_nil, List.getElem?_cons_zero, Option.some.injEq] at hj
          subst hj
          exact ⟨wr.heap.size, 0, rfl, by rw [HU.out]; simp⟩
        | j + 1 => simp [bytesV] at hj)
      have HZ := hid (cons_bytes (x) acc)
      go_wp2_with (refine wpList_str rfl _ 82 9 rfl Tryd.underlying82 Tryd.underlying5 Tryd.underlying9 rfl (l := [x]) rfl HB.out ?_)
      refine ⟨⟨d, x :: acc, rfl, by rw [HZ.out], hid (by rw [hd.out, HM.out]), by simp; omega, hx.alloc _⟩, ?_⟩
      simp [intOf]
      omega
    · obtain rfl : m = 0 := by omega
      have HZ := hid (cons_bytes 109 acc)
      go_wp2_with fail
      go_returns
      refine ⟨?_, hx⟩
      rw [HK.out, hd.out, digs_zero, ← HZ.out]
      rfl
def marksL (n k : Nat) : List ByteArray := (List.range n).map fun j => markTx (k + j)
theorem marksL_length (n k : Nat) : (marksL n k).length = n := by simp [marksL]
end Go.Proofs.YtlnccdbmchjhlaaDoor
