/- Several texts in one: GapL, PlL. Conditions: see each. -/
import Derived.Test.YtabljchbchjjcaaGreatDoorMg21
import Derived.Test.YtabljchbchjjcaaGreatDoorMg10
import Derived.Test.YtabljchbchjjcaaGreatDoorMg15
import Derived.Test.YtabljchbchjjcaaGreatDoorMg13
import Derived.Test.YtabljchbchjjcaaGreatDoorMg14
section
namespace Go.Proofs.YtabljchbchjjcaaGreatDoor
set_option linter.unusedVariables false
set_option linter.unusedSimpArgs false
open Go Go.RowKit
def chS (k : Nat) : ByteArray := ⟨#[UInt8.ofNat (97 + k)]⟩
theorem chS_size (k : Nat) : (chS k).size = 1 := rfl
theorem enc_ch (k : Nat) (h : k < 26) : Utf8.encode (97 + (k : Int)) = chS k := by
  have : ∀ x : Fin 26, Utf8.encode (97 + ((x.val : Nat) : Int)) = chS x.val := by decide +kernel
  exact this ⟨k, h⟩
def hkB (l : List ByteArray) (p q : ByteArray) (k : Nat) : Bool := hasL l (p ++ chS k ++ q)
def hkL (l : List ByteArray) (p q : ByteArray) (m : Nat) : List UInt8 := ((List.range m).filter (hkB l p q)).map fun k => UInt8.ofNat (97 + k)
theorem hkL_succ (l : List ByteArray) (p q : ByteArray) (m : Nat) : hkL l p q (m + 1) = hkL l p q m ++ if hkB l p q m then [UInt8.ofNat (97 + m)] else [] := by
  unfold hkL
  rw [List.range_succ, List.filter_append, List.map_append]
  cases h : hkB l p q m <;> simp [h]
theorem hkL_le (l : List ByteArray) (p q : ByteArray) (m : Nat) : (hkL l p q m).length ≤ m := by
  unfold hkL
  rw [List.length_map]
  have := List.length_filter_le (hkB l p q) (List.range m)
  rw [List.length_range] at this
  exact this
def hookS (l : List ByteArray) (p q : ByteArray) : ByteArray := ⟨(hkL l p q 26).toArray⟩
theorem u8_ch (k : Nat) (h : k < 26) : ((UInt8.ofNat (97 + k)).toNat : Int) = 97 + (k : Int) := by simp; omega
set_option maxRecDepth 100000 in
set_option maxHeartbeats 1000000 in
theorem letters_any (p q : ByteArray) (a : Option Addr) (c : Nat) (l : List ByteArray) (w : World) (h : Rd w a (strsV l)) (hl : l.length ≤ 1048576) (hi : incB l = true) (hp : p.size ≤ 1048576) (hq : q.size ≤ 1048576) :
    Calls Tryz.prog 26 #[.agg #[.string p, .string q, .slice a l.length c]] w (Ret (.string (hookS l p q)) w) := by
  have HR : Hid (∀ w', Ext w w' → Rd w' a (strsV l)) := hid (fun w' k => h.ext k)
  have HI := hid hi
  have HS := hid (hkL_succ l p q)
  have HLE := hid (hkL_le l p q)
  have HB : Hid (∀ k, hkB l p q k = hasL l (p ++ chS k ++ q)) := hid (fun k => rfl)
  have HF : Hid (hookS l p q = ⟨(hkL l p q 26).toArray⟩) := hid rfl
  clear h hi
  go_enter Tryz.func26, Tryz.ntmps26
  go_wp2_with fail
  go_loopw [4] (fun v wr => ∃ (k : Nat) (z : Int), k ≤ 26 ∧ Hid (z = 97 + (k : Int)) ∧ 97 ≤ z ∧ z ≤ 123 ∧ v = .int .u8 z ∧ Hid (Lib.IsBuilderF 80 5 (w.heap.size + 1) (w.heap.size + 1) (Lib.byteCells (hkL l p q k)) wr) ∧ Ext (w.alloc (.cells #[.string p, .string q, .slice a l.length c] 62)) wr) (fun v _ => 123 - (intOf v).toNat)
  case atStart => exact ⟨0, 97, by omega, hid rfl, by omega, by omega, rfl, hid (Lib.IsBuilderF.of (by simpa [hkL, Lib.byteCells] using Lib.fresh_isBuilder 80 5 (w.alloc (.cells #[.string p, .string q, .slice a l.length c] 62)))), (Ext.refl _).alloc _⟩
  case round =>
    obtain ⟨k, z, hk, hz, hz1, hz2, rfl, hb, hx⟩ := hrel
    have hE : Ext w wr := ((Ext.refl w).alloc _).trans hx
    have g0 := hx.cell (b := w.heap.size) (o := 0) (v := .string p) (by simp)
    have g1 := hx.cell (b := w.heap.size) (o := 1) (v := .string q) (by simp)
    have g2 := hx.cell (b := w.heap.size) (o := 2) (v := .slice a l.length c) (by simp)
    have hsz := hx.size
    simp only [World.size_alloc] at hsz
    by_cases hlt : z ≤ 122
    · have hk2 : k < 26 := by have := hz.out; omega
      have he := enc_ch k hk2
      rw [← hz.out] at he
      have hx1 := chS_size k
      have HBk := HB.out k
      have HU := hid (u8_ch k hk2)
      rw [← hz.out] at HU
      obtain ⟨x, hxk⟩ : ∃ x, chS k = x := ⟨_, rfl⟩
      rw [hxk] at he hx1 HBk
      have HB1 := hid HBk
      have hx2 : x.size ≤ 1 := by omega
      clear hxk hx1 HBk
      have w32 : IntKind.i32.wrap z = z := by simp [IntKind.wrap, IntKind.bits, IntKind.signed]; omega
      have w8 : IntKind.u8.wrap (z + 1) = z + 1 := by simp [IntKind.wrap, IntKind.bits, IntKind.signed]; omega
      have HZ1 : Hid (z + 1 = 97 + ((k + 1 : Nat) : Int)) := hid (by have := hz.out; omega)
      go_wp2_with fail
      refine (has_any a c l _ _ (HR.out _ hE) hl HI.out).mono ?_
      rintro e w1 ⟨rfl, hy⟩
      rw [← HB1.out]
      have hb1 := hid (bldr_below hb.out hy)
      have hsz1 := hy.size
      cases hh : hkB l p q k
      · have HH := hid hh
        clear hh
        go_wp2_with fail
        go_roundw
        case rel => exact ⟨k + 1, z + 1, by omega, HZ1, by omega, by omega, rfl, hid (by rw [HS.out k, HH.out]; simpa using hb1.out), hx.trans hy⟩
        case measure => simp [intOf]; omega
      · have HH := hid hh
        clear hh
        go_wp2_with fail
        refine (Any.Builder_WriteByte_k Tryz.laysH167 Tryz.Builder_Extra_H167 (w.heap.size + 1) (w.heap.size + 1) _ z _ hb1.out (by rw [Lib.byteCells_length]; have := HLE.out k; omega) (by omega)).mono ?_
        rintro e w2 ⟨rfl, hb2, hbel, -⟩
        have HB2 := hid hb2
        clear hb2
        go_wp2_with fail
        go_roundw
        case rel =>
          refine ⟨k + 1, z + 1, by omega, HZ1, by omega, by omega, rfl, hid ?_, (hx.trans hy).thenBelow hbel (by simp)⟩
          rw [HS.out k, HH.out, if_pos rfl, Lib.byteCells, List.map_append]
          have := HB2.out
          rw [← HU.out] at this
          exact .inr this
        case measure => simp [intOf]; omega
    · obtain rfl : k = 26 := by have := hz.out; omega
      go_wp2_with fail
      refine (Any.Builder_String_any_k Tryz.laysH169 Tryz.Builder_Extra_H169 (w.heap.size + 1) (w.heap.size + 1) _ _ hb.out (by omega)).mono ?_
      rintro e w2 ⟨rfl, -, hbel, -⟩
      go_wp2_with fail
      go_returns
      exact ⟨by rw [HF.out]; rfl, hE.thenBelow hbel (by omega)⟩
end Go.Proofs.YtabljchbchjjcaaGreatDoor
end
section
namespace Go.Proofs.YtabljchbchjjcaaGreatDoor
set_option linter.unusedVariables false
set_option linter.unusedSimpArgs false
open Go Go.RowKit
theorem hasL_mem {l : List ByteArray} (h : incB l = true) (x : ByteArray) : hasL l x = true ↔ x ∈ l := by
  unfold hasL
  rw [decide_eq_true_eq]
  constructor
  · rintro ⟨h1, h2⟩
    rw [← h2]
    exact wAt_mem l _ h1
  · intro hm
    obtain ⟨i, hi, he⟩ := List.getElem_of_mem hm
    rw [wAt_eq l i hi] at he
    have hp : posL l x = i := posL_eq (by omega) (fun j hj => by rw [← he]; exact incB_lt h i hj hi) (fun _ => by rw [he]; exact lessB_self x)
    rw [hp]
    exact ⟨hi, he⟩
/-- Whether a letter stands in a text. -/
def inC (s : ByteArray) (u : UInt8) : Bool := s.data.toList.any fun v => v == u
theorem chS_of {u : UInt8} (h : 97 ≤ u.toNat) : chS (u.toNat - 97) = ⟨#[u]⟩ := by
  unfold chS
  rw [show 97 + (u.toNat - 97) = u.toNat by omega, UInt8.ofNat_toNat]
theorem hk_in (l : List ByteArray) (p q : ByteArray) {u : UInt8} (h1 : 97 ≤ u.toNat) (h2 : u.toNat ≤ 122) : inC (hookS l p q) u = hasL l (p ++ ⟨#[u]⟩ ++ q) := by
  have e : inC (hookS l p q) u = (hkL l p q 26).any fun v => v == u := rfl
  rw [e, Bool.eq_iff_iff, List.any_eq_true, ← chS_of h1]
  constructor
  · rintro ⟨x, hx, he⟩
    obtain rfl : x = u := by simpa using he
    obtain ⟨k, hk, hu⟩ := List.mem_map.1 hx
    obtain ⟨hk1, hk2⟩ := List.mem_filter.1 hk
    have hk3 := List.mem_range.1 hk1
    have hk4 : x.toNat - 97 = k := by
      have := u8_ch k hk3
      rw [hu] at this
      omega
    rw [hk4]
    exact hk2
  · intro h
    refine ⟨u, List.mem_map.2 ⟨u.toNat - 97, List.mem_filter.2 ⟨List.mem_range.2 (by omega), h⟩, ?_⟩, by simp⟩
    rw [show 97 + (u.toNat - 97) = u.toNat by omega, UInt8.ofNat_toNat]
theorem ext_list (s : ByteArray) (a b : Nat) : (s.extract a b).data.toList = (s.data.toList.drop a).take (b - a) := by
  rw [ByteArray.data_extract, Array.toList_extract, List.extract_eq_take_drop]
theorem word_cut (y : ByteArray) {k : Nat} (hk : k < y.size) : y.extract 0 k ++ ⟨#[bAt y k]⟩ ++ y.extract (k + 1) y.size = y := by
  have hl := lenL y
  have hb : y.data.toList[k]? = some (bAt y k) := by
    rw [List.getElem?_eq_getElem (by omega)]
    unfold bAt
    rw [List.getD_eq_getElem?_getD, List.getElem?_eq_getElem (by omega)]
    rfl
  apply ba_ext
  rw [ByteArray.data_append, ByteArray.data_append, Array.toList_append, Array.toList_append, ext_list, ext_list]
  rw [List.drop_zero, Nat.sub_zero, List.append_assoc, List.take_of_length_le (show ((y.data.toList.drop (k + 1)).length ≤ y.size - (k + 1)) by rw [List.length_drop]; omega)]
  obtain ⟨hlt, he⟩ := List.getElem?_eq_some_iff.1 hb
  conv => rhs; rw [← List.take_append_drop k y.data.toList, List.drop_eq_getElem_cons hlt, he]
  rfl
theorem bAt_mem {y : ByteArray} {k : Nat} (hk : k < y.size) : bAt y k ∈ y.data.toList := by
  unfold bAt
  rw [List.getD_eq_getElem?_getD, List.getElem?_eq_getElem (by rw [lenL]; exact hk)]
  exact List.getElem_mem _
/-- The letter that was taken out is among those between the parts just if the word is there. -/
theorem gap_in (l : List ByteArray) {y : ByteArray} (hy : longOk y = true) {k : Nat} (hk : k < y.size) : inC (hookS l (y.extract 0 k) (y.extract (k + 1) y.size)) (bAt y k) = hasL l y := by
  obtain ⟨-, -, h3⟩ := longOk_parts hy
  obtain ⟨h1, h2⟩ := h3 _ (bAt_mem hk)
  rw [hk_in l _ _ h1 h2, word_cut y hk]
theorem hookS_sz (l : List ByteArray) (p q : ByteArray) : (hookS l p q).size ≤ 26 := by
  show (hkL l p q 26).toArray.size ≤ 26
  simpa using hkL_le l p q 26
theorem wordOk_of {s : ByteArray} (h1 : 1 ≤ s.size) (h2 : s.size ≤ 12) (h3 : ∀ u ∈ s.data.toList, 97 ≤ u.toNat ∧ u.toNat ≤ 122) : wordOk s = true := by
  unfold wordOk allB smallB
  rw [Bool.and_eq_true, decide_eq_true_eq, List.all_eq_true]
  refine ⟨⟨h1, h2⟩, fun u hu => ?_⟩
  have := h3 u hu
  rw [decide_eq_true_eq]
  omega
theorem gap_ok {y : ByteArray} (hy : longOk y = true) {k : Nat} (hk : k < y.size) : wordOk (y.extract 0 k ++ y.extract (k + 1) y.size) = true := by
  obtain ⟨h1, h2, h3⟩ := longOk_parts hy
  refine wordOk_of ?_ ?_ ?_
  · rw [ByteArray.size_append, ByteArray.size_extract, ByteArray.size_extract]; omega
  · rw [ByteArray.size_append, ByteArray.size_extract, ByteArray.size_extract]; omega
  · intro u hu
    rw [ByteArray.data_append, Array.toList_append, ext_list, ext_list, List.mem_append] at hu
    rcases hu with hu | hu
    · exact h3 u (List.mem_of_mem_drop (List.mem_of_mem_take hu))
    · exact h3 u (List.mem_of_mem_drop (List.mem_of_mem_take hu))
theorem core_ok {y : ByteArray} (hy : longOk y = true) {n : Nat} (h1 : 1 ≤ n) (hn : n ≤ y.size) : wordOk (y.extract 0 n) = true := by
  obtain ⟨-, h2, h3⟩ := longOk_parts hy
  refine wordOk_of ?_ ?_ ?_
  · rw [ByteArray.size_extract]; omega
  · rw [ByteArray.size_extract]; omega
  · intro u hu
    rw [ext_list] at hu
    exact h3 u (List.mem_of_mem_drop (List.mem_of_mem_take hu))
theorem ext_nil (y : ByteArray) {k : Nat} (hk : y.size ≤ k) : y.extract k y.size = ⟨#[]⟩ := by
  apply ba_ext
  rw [ext_list, List.drop_of_length_le (by rw [lenL]; exact hk)]
  simp
theorem ext_zero (y : ByteArray) : y.extract 0 0 = ⟨#[]⟩ := by
  apply ba_ext
  rw [ext_list]
  rfl
/-- Places of letters in words: what each of them is. -/
def PlcOk (l : List ByteArray) (core : ByteArray) (P : List (ByteArray × Int)) : Prop := ∀ p ∈ P, ∃ k : Nat, p.2 = k ∧ p.1 ∈ l ∧ k + core.size ≤ p.1.size ∧ p.1.extract k (k + core.size) = core
theorem PlcOk.nil (l : List ByteArray) (core : ByteArray) : PlcOk l core [] := fun p hp => by simp at hp
theorem PlcOk.snoc {l : List ByteArray} {core : ByteArray} {P : List (ByteArray × Int)} (h : PlcOk l core P) {y : ByteArray} (hy : y ∈ l) {k : Nat} (hk : k + core.size ≤ y.size) (hp : Lib.hasPrefix (y.extract k y.size).data.toList core.data.toList = true) : PlcOk l core (P ++ [(y, (k : Int))]) := fun p hm => by
  rcases List.mem_append.1 hm with hm | hm
  · exact h p hm
  · obtain rfl := List.mem_singleton.1 hm
    refine ⟨k, rfl, hy, hk, ?_⟩
    apply ba_ext
    unfold Lib.hasPrefix at hp
    rw [List.isPrefixOf_iff_prefix] at hp
    have hl := lenL core
    rw [List.prefix_iff_eq_take] at hp
    rw [hl, ext_list] at hp
    rw [ext_list, show k + core.size - k = core.size by omega]
    rw [hp, List.take_take]
    congr 1
    omega
/-- Places as cells. -/
def plcV (l : List (ByteArray × Int)) : List Value := l.flatMap fun p => [.string p.1, .int .i64 p.2]
theorem plcV_append (l q : List (ByteArray × Int)) : plcV (l ++ q) = plcV l ++ plcV q := by simp [plcV]
theorem plcV_length (l : List (ByteArray × Int)) : (plcV l).length = l.length * 2 := by
  induction l with
  | nil => rfl
  | cons a t ih => rw [plcV, List.flatMap_cons, List.length_append]; change _ + (plcV t).length = _; rw [ih]; simp; omega
def plcAt (l : List (ByteArray × Int)) (k : Nat) : ByteArray × Int := l.getD k (⟨#[]⟩, 0)
theorem plcAt_mem {l : List (ByteArray × Int)} {k : Nat} (h : k < l.length) : plcAt l k ∈ l := by
  unfold plcAt
  rw [List.getD_eq_getElem?_getD, List.getElem?_eq_getElem h]
  exact List.getElem_mem h
theorem plcV_get : ∀ (l : List (ByteArray × Int)) (k : Nat), k < l.length → (plcV l)[k * 2]? = some (.string (plcAt l k).1) ∧ (plcV l)[k * 2 + 1]? = some (.int .i64 (plcAt l k).2)
  | [], k, h => by simp at h
  | a :: t, 0, h => by simp [plcV, plcAt]
  | a :: t, k + 1, h => by
    have := plcV_get t k (by simpa using h)
    have e : plcV (a :: t) = .string a.1 :: .int .i64 a.2 :: plcV t := by simp [plcV]
    rw [e, show (k + 1) * 2 = k * 2 + 1 + 1 by omega, show k * 2 + 1 + 1 + 1 = k * 2 + 1 + 1 + 1 from rfl]
    simpa [plcAt] using this
theorem Rd.plc {w : World} {a : Option Addr} {l : List (ByteArray × Int)} (h : Rd w a (plcV l)) (hn : 0 < l.length) : ∃ b o, a = some ⟨b, o, none⟩ ∧ ∀ k, k < l.length → w.cell? ⟨b, o + k * 2, none⟩ = some (.string (plcAt l k).1) ∧ w.cell? ⟨b, o + (k * 2 + 1), none⟩ = some (.int .i64 (plcAt l k).2) := by
  obtain ⟨b, o, ha, hc⟩ := h.at (by rw [plcV_length]; omega)
  exact ⟨b, o, ha, fun k hk => ⟨hc _ _ (plcV_get l k hk).1, hc _ _ (plcV_get l k hk).2⟩⟩
theorem El_plc : El Tryz.prog 35 39 (.agg #[.string ⟨#[]⟩, .int .i64 0]) 2 24 := by
  obtain ⟨i, h1, h2, h3, h4⟩ := info_parts (show (Tryz.prog.info? 39).map (fun i => (i.zero, i.size, i.bytes)) = some (some (.agg #[.string ⟨#[]⟩, .int .i64 0]), 2, 24) by kernel_rfl)
  exact ⟨Tryz.underlying35, ⟨i, h1, h2, h3, h4⟩, rfl, by decide⟩
end Go.Proofs.YtabljchbchjjcaaGreatDoor
end
