/- Values of letters, by both. Conditions stand at each. -/
import Derived.Test.YtcgedkpbobgkhaaGreatDoorCh02a
namespace Go.Proofs.YtcgedkpbobgkhaaGreatDoor
set_option linter.unusedVariables false
set_option linter.unusedSimpArgs false
open Go Go.RowKit
/-- A tile set lies in block g. -/
structure TileAt (w : World) (g : Nat) (s : ByteArray) (a b : Option Addr) (m n c d : Nat) (k : Int) : Prop where
  c0 : w.cell? ⟨g, 0, none⟩ = some (.string s)
  c1 : w.cell? ⟨g, 1, none⟩ = some (.slice a m c)
  c2 : w.cell? ⟨g, 2, none⟩ = some (.slice b n d)
  c3 : w.cell? ⟨g, 3, none⟩ = some (.int .i64 k)
theorem TileAt.ext {w w' : World} {g : Nat} {s : ByteArray} {a b : Option Addr} {m n c d : Nat} {k : Int} (h : TileAt w g s a b m n c d k) (x : Ext w w') : TileAt w' g s a b m n c d k :=
  ⟨x.cell h.c0, x.cell h.c1, x.cell h.c2, x.cell h.c3⟩
/-- Where a letter stands first; -1 where it does not. -/
def findL (s : ByteArray) (x : UInt8) : Int := match s.data.toList.findIdx? (· == x) with
  | some i => i
  | none => -1
theorem u8_eq {x y : UInt8} (h : (x.toNat : Int) = y.toNat) : x = y := UInt8.toNat_inj.1 (by omega)
theorem findL_at (s : ByteArray) (x : UInt8) (j : Nat) (hj : j < s.size) (hall : ∀ q (hq : q < s.size), q < j → s[q] ≠ x) (h : s[j] = x) : findL s x = j := by
  have hd : j < s.data.toList.length := by simpa using hj
  have : s.data.toList.findIdx? (· == x) = some j := by
    rw [List.findIdx?_eq_some_iff_getElem]
    refine ⟨hd, by have h' : s.data[j]'hj = x := h; simpa using h', fun q hq => ?_⟩
    have hq' : q < s.size := by omega
    have : s.data[q]'hq' ≠ x := hall q hq' hq
    simpa using this
  unfold findL
  rw [this]
theorem findL_none (s : ByteArray) (x : UInt8) (hall : ∀ q (hq : q < s.size), s[q] ≠ x) : findL s x = -1 := by
  have : s.data.toList.findIdx? (· == x) = none := by
    rw [List.findIdx?_eq_none_iff]
    intro y hy
    obtain ⟨q, hq, rfl⟩ := List.getElem_of_mem hy
    have hq' : q < s.size := by simpa using hq
    have : s.data[q]'hq' ≠ x := hall q hq'
    simpa using this
  unfold findL
  rw [this]
set_option maxHeartbeats 400000 in
theorem l02Find_any (s : ByteArray) (a b : Option Addr) (m n c d g : Nat) (k : Int) (x : UInt8) (w : World) (hs : s.size ≤ 1048576) (h : TileAt w g s a b m n c d k) :
    Calls Tryz.prog 52 #[.pointer (some ⟨g, 0, none⟩), .int .u8 x.toNat] w (Same (.int .i64 (findL s x)) w) := by
  have c0 := h.c0
  clear h
  go_enter Tryz.func52, Tryz.ntmps52
  go_wp2_with fail
  go_loopw [5] (fun i wr => ∃ j : Nat, j ≤ s.size ∧ i = .int .i64 j ∧ Hid (∀ q (hq : q < s.size), q < j → s[q] ≠ x) ∧ wr = w) (fun i _ => s.size - (intOf i).toNat)
  case atStart => exact ⟨0, by omega, rfl, hid (fun q _ h => by omega), rfl⟩
  case round =>
    obtain ⟨j, hj, rfl, hall, rfl⟩ := hrel
    by_cases hlt : j < s.size
    · by_cases hg : (s[j].toNat : Int) = x.toNat
      · have HF := hid (findL_at s x j hlt hall.out (u8_eq hg))
        go_wp2_with fail
        go_returns
        exact ⟨ret_int HF.out.symm, rfl⟩
      · have HG : Hid (s[j] ≠ x) := hid (fun h => hg (by rw [h]))
        go_wp2_with fail
        go_roundw
        case rel => exact ⟨j + 1, by omega, by go_num, hid (fun q hq h => by
          by_cases hqj : q = j
          · subst hqj; exact HG.out
          · exact hall.out q hq (by omega)), trivial⟩
        case measure => simp [intOf]; omega
    · have HF := hid (findL_none s x (fun q hq => hall.out q hq (by omega)))
      go_wp2_with fail
      go_returns
      exact ⟨ret_int HF.out.symm, rfl⟩
/-- The value of a letter. -/
def valL (s : ByteArray) (vs : List Int) (x : UInt8) : Int := if 0 ≤ findL s x then vs.getD (findL s x).toNat 0 else 0
theorem findL_lt (s : ByteArray) (x : UInt8) (h : 0 ≤ findL s x) : (findL s x).toNat < s.size := by
  unfold findL at *
  cases hq : s.data.toList.findIdx? (· == x)
  · rw [hq] at h; simp at h
  · rename_i j
    rw [List.findIdx?_eq_some_iff_getElem] at hq
    obtain ⟨h1, _⟩ := hq
    simpa using h1
set_option maxHeartbeats 400000 in
theorem l02Value_any (s : ByteArray) (a b : Option Addr) (n c d g : Nat) (vs : List Int) (k : Int) (x : UInt8) (w : World) (hs : s.size ≤ 1048576) (h : TileAt w g s a b vs.length n c d k) (hr : Rd w a (intsV vs)) (hv : vs.length = s.size) :
    Calls Tryz.prog 34 #[.pointer (some ⟨g, 0, none⟩), .int .u8 x.toNat] w (Same (.int .i64 (valL s vs x)) w) := by
  have HF := hid (l02Find_any s a b vs.length n c d g k x w hs h)
  have c1 := h.c1
  have HL := hid (findL_lt s x)
  have HV : Hid (valL s vs x = if 0 ≤ findL s x then vs.getD (findL s x).toNat 0 else 0) := hid rfl
  have HE := hid hv
  clear h hv
  obtain ⟨f, hf⟩ : ∃ f, findL s x = f := ⟨_, rfl⟩
  rw [hf] at HF HL HV
  clear hf
  by_cases hn : 0 ≤ f
  · obtain ⟨j, rfl⟩ : ∃ j : Nat, f = j := ⟨f.toNat, by omega⟩
    have hj : j < vs.length := by have := HL.out (by omega); have := HE.out; omega
    obtain ⟨b1, o1, rfl, hc⟩ := hr.int (by omega)
    have hcj := hc j hj
    have HG : Hid (valL s vs x = vs[j]) := hid (by rw [HV.out, if_pos hn]; simp [List.getD_eq_getElem?_getD, hj])
    have hjs : j < 1048576 := by have := HE.out; omega
    clear hc hr HL HV
    go_enter Tryz.func34, Tryz.ntmps34
    go_wp2_with fail
    refine HF.out.mono ?_
    rintro e w1 ⟨rfl, rfl⟩
    go_wp2_with fail
    go_returns
    exact ⟨ret_int HG.out.symm, rfl⟩
  · have HG : Hid (valL s vs x = 0) := hid (by rw [HV.out, if_neg hn])
    have hn' : f < 0 := by omega
    clear hr HL HV
    go_enter Tryz.func34, Tryz.ntmps34
    go_wp2_with fail
    refine HF.out.mono ?_
    rintro e w1 ⟨rfl, rfl⟩
    go_wp2_with fail
    go_returns
    exact ⟨ret_int HG.out.symm, rfl⟩
theorem indexByte_find (l : List UInt8) (c : UInt8) : Lib.indexByte l c = match l.findIdx? (· == c) with | some i => (i : Int) | none => -1 := by
  induction l with
  | nil => rfl
  | cons b l ih =>
    rw [Lib.indexByte, List.findIdx?_cons, ih]
    by_cases h : (b == c) = true
    · simp [h]
    · rw [if_neg h, if_neg h]
      cases hq : l.findIdx? (· == c)
      · simp
      · rename_i j
        have : ¬ ((j : Int) == -1) = true := by simp
        simp only [this]
        simp
theorem indexByte_findL (s : ByteArray) (x : UInt8) : Lib.indexByte s.data.toList ((x.toNat : Int)).toNat.toUInt8 = findL s x := by
  rw [show ((x.toNat : Int)).toNat.toUInt8 = x by simp, indexByte_find]
  rfl
set_option maxHeartbeats 400000 in
theorem valueOf_any (s : ByteArray) (a b : Option Addr) (n c d : Nat) (vs : List Int) (k : Int) (x : UInt8) (w : World) (hs : s.size ≤ 1048576) (hr : Rd w a (intsV vs)) (hv : vs.length = s.size)
    (hI : Lib.indexByte s.data.toList ((x.toNat : Int)).toNat.toUInt8 = findL s x := indexByte_findL s x) :
    Calls Tryz.prog 65 #[tileV s a b vs.length n c d k, .int .u8 x.toNat] w (Ret (.int .i64 (valL s vs x)) w) := by
  have HF := hid (fun w' => Tryz.strings_IndexByte s x.toNat w')
  rw [hI] at HF
  clear hI
  have HL := hid (findL_lt s x)
  have HV : Hid (valL s vs x = if 0 ≤ findL s x then vs.getD (findL s x).toNat 0 else 0) := hid rfl
  have HE := hid hv
  have HR := hid (hr.ext ((Ext.refl w).alloc (.cells #[.string s, .slice a vs.length c, .slice b n d, .int .i64 k] 34)))
  clear hv hr
  obtain ⟨f, hf⟩ : ∃ f, findL s x = f := ⟨_, rfl⟩
  rw [hf] at HF HL HV
  clear hf
  by_cases hn : 0 ≤ f
  · obtain ⟨j, rfl⟩ : ∃ j : Nat, f = j := ⟨f.toNat, by omega⟩
    have hj : j < vs.length := by have := HL.out (by omega); have := HE.out; omega
    obtain ⟨b1, o1, rfl, hc⟩ := HR.out.int (by omega)
    have hcj := hc j hj
    have HG : Hid (valL s vs x = vs[j]) := hid (by rw [HV.out, if_pos hn]; simp [List.getD_eq_getElem?_getD, hj])
    have hjs : j < 1048576 := by have := HE.out; omega
    clear hc HR HL HV
    go_enter Tryz.func65, Tryz.ntmps65
    go_wp2_with fail
    refine (HF.out _).mono ?_
    rintro e w1 ⟨rfl, rfl⟩
    go_wp2_with fail
    go_returns
    exact ⟨ret_int HG.out.symm, (Ext.refl w).alloc _⟩
  · have HG : Hid (valL s vs x = 0) := hid (by rw [HV.out, if_neg hn])
    have hn' : f < 0 := by omega
    clear HR HL HV
    go_enter Tryz.func65, Tryz.ntmps65
    go_wp2_with fail
    refine (HF.out _).mono ?_
    rintro e w1 ⟨rfl, rfl⟩
    go_wp2_with fail
    go_returns
    exact ⟨ret_int HG.out.symm, (Ext.refl w).alloc _⟩
/-- The value of the first m letters of t. -/
def sumT (s : ByteArray) (vs : List Int) (t : ByteArray) (m : Nat) : Int := ((t.data.toList.take m).map (valL s vs)).sum
theorem sumT_succ (s : ByteArray) (vs : List Int) (t : ByteArray) (m : Nat) (h : m < t.size) : sumT s vs t (m + 1) = sumT s vs t m + valL s vs t[m] := by
  have hd : m < t.data.toList.length := by simpa using h
  unfold sumT
  rw [List.take_succ_eq_append_getElem hd, List.map_append, List.sum_append]
  have : t.data.toList[m] = t[m] := by simp; rfl
  simp [this]
theorem valL_in (s : ByteArray) (vs : List Int) (x : UInt8) (h : ∀ i (h : i < vs.length), 0 ≤ vs[i] ∧ vs[i] ≤ 20) : 0 ≤ valL s vs x ∧ valL s vs x ≤ 20 := by
  unfold valL
  split
  · rw [List.getD_eq_getElem?_getD]
    by_cases hl : (findL s x).toNat < vs.length
    · rw [List.getElem?_eq_getElem hl]; exact h _ hl
    · rw [List.getElem?_eq_none (by omega)]; simp
  · simp
end Go.Proofs.YtcgedkpbobgkhaaGreatDoor
