/- Words taken from a lexicon, and words with a prefix. Conditions: valid lexicons. -/
import Derived.Test.YtflpiebiacainaaDoorCh05f
import Derived.Test.YtflpiebiacainaaDoorCh05h
namespace Go.Proofs.YtflpiebiacainaaDoor
set_option linter.unusedVariables false
set_option linter.unusedSimpArgs false
open Go Go.RowKit
/-- A list without the word at a place. -/
def cutAt (l : List ByteArray) (p : Nat) : List ByteArray := l.take p ++ l.drop (p + 1)
theorem cutAt_length {l : List ByteArray} {p : Nat} (h : p < l.length) : (cutAt l p).length = l.length - 1 := by simp [cutAt]; omega
theorem cutAt_inAt {l : List ByteArray} {p : Nat} {x : ByteArray} (h : p ≤ l.length) : cutAt (inAt l p x) p = l := by
  unfold cutAt inAt
  rw [List.append_assoc, List.take_append_of_le_length (by simp; omega), List.take_of_length_le (by rw [List.length_take]; omega), List.drop_append]
  have e : (l.take p).length = p := by simp; omega
  rw [e]
  have e2 : List.drop (p + 1) (List.take p l) = [] := List.drop_of_length_le (by rw [List.length_take]; omega)
  rw [e2]
  simp
theorem Delete_one (b c : Nat) (l : List ByteArray) (p B : Nat) (w : World) (ho : Own w B 9 1 (some ⟨b, 0, none⟩) l.length c (strsV l)) (hp : p < l.length) (hl : l.length ≤ 1048576) (hB : B ≤ w.heap.size) :
    Calls Tryd.prog 30 #[.slice (some ⟨b, 0, none⟩) l.length c, .int .i64 p, .int .i64 ((p : Int) + 1)] w fun e w' => e = .returned (.slice (some ⟨b, 0, none⟩) (cutAt l p).length c) ∧ Rd w' (some ⟨b, 0, none⟩) (strsV (cutAt l p)) ∧ Below B w w' := by
  obtain ⟨g, hg, hgB, hlt, hfz, hrow⟩ := ho.form (by omega)
  simp only [Option.some.injEq, Addr.mk.injEq, and_true] at hg
  subst hg
  have hrd := ho.rd
  have hle := ho.le
  have hcell : ∀ i, i < l.length → w.cell? ⟨b, 0 + i, none⟩ = some (.string (wAt l i)) := fun i hi => by
    obtain ⟨b', o', ha, hc⟩ := hrd i (.string (wAt l i)) (by simp [strsV, hi, wAt_eq l i hi])
    simp only [Option.some.injEq, Addr.mk.injEq, and_true] at ha
    obtain ⟨rfl, rfl⟩ := ha
    exact hc
  have hcap : c ≤ 9223372036854775807 := by
    rcases ho with ⟨h0, h1, _⟩ | ⟨_, h⟩
    · omega
    · rcases h with ⟨_, h3⟩ | ⟨g, cap, cur, hv, hg, hh, h4, h5, _⟩
      · omega
      · simp only [Value.slice.injEq] at hv
        obtain ⟨_, _, rfl⟩ := hv
        exact h5
  refine (Tryd.slices_Delete_string_cells b 0 l.length c p (p + 1) (wAt l) w hle hcap (by omega) (by omega) hcell (fun j _ => hfz _)).mono ?_
  rintro e w' ⟨he, q, rfl⟩
  have hlen : (cutAt l p).length = l.length - (p + 1 - p) := by rw [cutAt_length hp]; omega
  refine ⟨by rw [he, hlen], ?_, setCells_below hgB _ _ _ _ ⟨rfl, rfl, rfl, by simp [World.drewN] <;> exact hB, fun k hk => rfl⟩⟩
  have hvs : (((Lib.strsOf (wAt l) l.length).take p ++ (Lib.strsOf (wAt l) l.length).drop (p + 1) ++ List.replicate (p + 1 - p) []).map encStr) = strsV (cutAt l p) ++ [encStr []] := by
    have e1 : Lib.strsOf (wAt l) l.length = rawL l := by
      unfold Lib.strsOf rawL
      apply List.ext_getElem
      · simp
      · intro i h1 h2
        have h3 : i < l.length := by simpa using h1
        simp [wAt_eq l i h3]
    rw [e1, show p + 1 - p = 1 by omega, ← rawL_enc (cutAt l p)]
    simp [cutAt, rawL]
  rw [hvs]
  have hin := World.cell?_setCells_in b (strsV (cutAt l p) ++ [encStr []]) 0 (w.drewN q) (fun j hj => by
    have : j < l.length := by
      simp only [List.length_append, List.length_cons, List.length_nil] at hj
      have e : (strsV (cutAt l p)).length = l.length - 1 := by rw [← cutAt_length hp]; simp [strsV]
      omega
    have h := hcell j this
    have h2 : (w.drewN q).cell? ⟨b, 0 + j, none⟩ = some (.string (wAt l j)) := h
    rw [h2]
    rfl)
  intro j u hj
  have hj2 := (List.getElem?_eq_some_iff.1 hj)
  refine ⟨b, 0, rfl, ?_⟩
  rw [hin j (by rw [List.length_append]; have := hj2.1; omega), List.getElem_append_left hj2.1]
  rw [hj2.2]
/-- A list of words, a code. -/
def RetXC (L : List ByteArray) (k : Int) (w : World) (e : Ending) (w' : World) : Prop := ∃ a c, e = .returned (.tuple #[lexV a L.length c, .int .i64 k]) ∧ Rd w' a (strsV L) ∧ Ext w w'
set_option maxHeartbeats 1000000 in
theorem RemoveWord_yes (a : Option Addr) (c : Nat) (l : List ByteArray) (x : ByteArray) (w : World) (h : Rd w a (strsV l)) (hs : ∀ s ∈ l, s.size ≤ 1048576) (hk : lexOk l = true) (hh : hasL l x = true) :
    Calls Tryd.prog 12 #[lexV a l.length c, .string x] w (RetXC (cutAt l (posL l x)) 0 w) := by
  have h200 := lexOk_200 hk
  have HR : Hid (∀ w', Ext w w' → Rd w' a (strsV l)) := hid (fun w' k => h.ext k)
  have HV := hid (fun w' (k : Ext w w') => ValidLexicon_any a c l w' (h.ext k) (by omega) hs)
  have HI := hid (lexOk_inc hk)
  have hp : posL l x < l.length := by
    unfold hasL at hh
    simp only [decide_eq_true_eq] at hh
    exact hh.1
  have HBS := hid (fun w' (k : Ext w w') => BinarySearch_any a c l x w' (h.ext k) (by omega) HI.out)
  rw [hk] at HV
  rw [hh] at HBS
  obtain ⟨p, hpp⟩ : ∃ p, posL l x = p := ⟨_, rfl⟩
  rw [hpp] at HBS hp ⊢
  clear h hk hh hpp
  go_enter Tryd.func12, Tryd.ntmps12
  go_wp2_with fail
  refine (HV.out _ (((Ext.refl w).alloc _).alloc _)).mono ?_
  rintro e w1 ⟨rfl, hE⟩
  have r0 := hE.cell (b := w.heap.size + 1) (o := 0) (v := .slice none 0 0) (by simp)
  have b0 := hE.cell (b := w.heap.size) (o := 0) (v := .slice a l.length c) (by simp)
  have rf : w1.frozen? ⟨w.heap.size + 1, 0, none⟩ = false := by rw [hE.cells.2 _ _ (by simp)]; simp
  have hE1 := (((Ext.refl w).alloc _).alloc _).trans hE
  clear hE HV
  go_wp2_with fail
  refine (HBS.out _ hE1).mono ?_
  rintro e w2 ⟨rfl, hD⟩
  have hx := hD.ext
  have r1 := hx.cell r0
  have b1 := hx.cell b0
  have rf1 : w2.frozen? ⟨w.heap.size + 1, 0, none⟩ = false := by rw [hx.cells.2 _ _ (World.block_lt_of_cell? _ _ r0)]; exact rf
  have hE2 := hE1.trans hx
  clear hx hD r0 b0 rf hE1 HBS
  go_wp2_with fail
  refine (Clone_any a c l _ (HR.out _ hE2) (by omega)).mono ?_
  rintro e w3 ⟨a', c', rfl, ho, hx⟩
  obtain ⟨g, hg, hgB, hlt, -, -⟩ := ho.form (by omega)
  subst hg
  have r2 := hx.cell r1
  have rf2 : w3.frozen? ⟨w.heap.size + 1, 0, none⟩ = false := by rw [hx.cells.2 _ _ (World.block_lt_of_cell? _ _ r1)]; exact rf1
  have hE3 := hE2.trans hx
  have HO := hid ho
  have hr1 := World.block_lt_of_cell? _ _ r1
  simp only [] at hr1
  have hz3 := hx.size
  have q1 : IntKind.i64.wrap ((p : Int) + 1) = (p : Int) + 1 := IntWalk.i64_in _ (by omega)
  clear hx ho r1 rf1 b1 hE2
  go_wp2_with fail
  refine (Delete_one g c' l p w2.heap.size w3 HO.out hp (by omega) hz3).mono ?_
  rintro e w4 ⟨rfl, hr, hb⟩
  have r3 : w4.cell? ⟨w.heap.size + 1, 0, none⟩ = some (.slice none 0 0) := by rw [Below.cell hb (p := ⟨w.heap.size + 1, 0, none⟩) hr1]; exact r2
  have rf3 : w4.frozen? ⟨w.heap.size + 1, 0, none⟩ = false := by rw [Below.frozen hb (p := ⟨w.heap.size + 1, 0, none⟩) hr1]; exact rf2
  have hE4 := hE3.thenBelow hb (by omega)
  have HRR := hid hr
  clear r2 rf2 hb hr HO
  go_wp2_with fail
  refine bodyPost_ret (v := .tuple #[lexV (some ⟨g, 0, none⟩) (cutAt l p).length c', .int .i64 0]) (by simp [results, Tryd.results12, go_sem, r3, rf3]) rfl ⟨_, _, rfl, ?_, hE4.setCell (by simp) _⟩
  intro j u hj
  obtain ⟨b', o', e1, e2⟩ := HRR.out j u hj
  refine ⟨b', o', e1, ?_⟩
  simp only [Option.some.injEq, Addr.mk.injEq, and_true] at e1
  rw [World.cell?_setCell_other _ _ _ _ (by simp <;> omega)]
  exact e2
/-- How many words from a place on begin with a prefix. -/
def runP (l : List ByteArray) (x : ByteArray) (k : Nat) : Nat := ((l.drop k).takeWhile fun s => Lib.hasPrefix s.data.toList x.data.toList).length
theorem runP_stop {l : List ByteArray} {x : ByteArray} {k : Nat} (h : k < l.length → Lib.hasPrefix (wAt l k).data.toList x.data.toList = false) : runP l x k = 0 := by
  unfold runP
  by_cases hk : k < l.length
  · rw [List.drop_eq_getElem_cons hk, List.takeWhile_cons, wAt_eq l k hk, h hk]
    rfl
  · rw [List.drop_of_length_le (by omega)]
    rfl
theorem runP_go {l : List ByteArray} {x : ByteArray} {k : Nat} (hk : k < l.length) (h : Lib.hasPrefix (wAt l k).data.toList x.data.toList = true) : runP l x k = runP l x (k + 1) + 1 := by
  unfold runP
  rw [List.drop_eq_getElem_cons hk, List.takeWhile_cons, wAt_eq l k hk, h]
  rfl
theorem runP_le (l : List ByteArray) (x : ByteArray) (k : Nat) : runP l x k ≤ l.length - k := by
  unfold runP
  have := (List.takeWhile_prefix (l := l.drop k) (fun s => Lib.hasPrefix s.data.toList x.data.toList)).length_le
  simpa using this
set_option maxHeartbeats 1000000 in
theorem prefixRange_any (a : Option Addr) (c : Nat) (l : List ByteArray) (x : ByteArray) (w : World) (h : Rd w a (strsV l)) (hl : l.length ≤ 1048576) (hi : incB l = true) :
    Calls Tryd.prog 31 #[.slice a l.length c, .string x] w (Ret (.tuple #[.int .i64 (posL l x), .int .i64 (runP l x (posL l x))]) w) := by
  have HR : Hid (∀ w', Ext w w' → Rd w' a (strsV l)) := hid (fun w' k => h.ext k)
  have HBS := hid (BinarySearch_any a c l x w h hl hi)
  have hp := posL_le l x
  obtain ⟨p, hpp⟩ : ∃ p, posL l x = p := ⟨_, rfl⟩
  rw [hpp] at HBS hp ⊢
  have HS := hid (fun k h => @runP_stop l x k h)
  have HG := hid (fun k h1 h2 => @runP_go l x k h1 h2)
  obtain ⟨n, hn⟩ : ∃ n, runP l x p = n := ⟨_, rfl⟩
  have hnl := runP_le l x p
  rw [hn] at hnl ⊢
  have HN := hid hn
  have HHP := hid (fun s w' => Tryd.strings_HasPrefix s x w')
  clear h hpp hn hi
  go_enter Tryd.func31, Tryd.ntmps31
  go_wp2_with fail
  refine HBS.out.mono ?_
  rintro e w1 ⟨rfl, hD⟩
  have hE := hD.ext
  clear hD HBS
  go_wp2_with fail
  go_loopw [8] (fun i wr => ∃ k : Nat, p ≤ k ∧ k ≤ l.length ∧ i = .int .i64 k ∧ Hid (runP l x k + (k - p) = n) ∧ Ext w wr) (fun i _ => l.length - (intOf i).toNat)
  case atStart => exact ⟨p, Nat.le_refl _, hp, rfl, hid (by rw [HN.out]; omega), hE⟩
  case round =>
    obtain ⟨k, hpk, hk, rfl, hm, hx⟩ := hrel
    clear hE
    by_cases hlt : k < l.length
    · obtain ⟨b, o, rfl, hc⟩ := (HR.out _ hx).word (by omega)
      have ck := hc k hlt
      have HSk := hid (HS.out k)
      have HGk := hid (HG.out k hlt)
      obtain ⟨s, hs⟩ : ∃ s, wAt l k = s := ⟨_, rfl⟩
      rw [hs] at ck HSk HGk
      obtain ⟨q, hq⟩ : ∃ q, o + k = q := ⟨_, rfl⟩
      rw [hq] at ck
      have HC := hid (HHP.out s wr)
      obtain ⟨B, hB⟩ : ∃ B, Lib.hasPrefix s.data.toList x.data.toList = B := ⟨_, rfl⟩
      rw [hB] at HC HSk HGk
      clear hc hs hB
      go_wp2_with fail
      refine HC.out.mono ?_
      rintro e w2 ⟨rfl, rfl⟩
      cases B
      · have hz := HSk.out (fun _ => rfl)
        have hkn : k - p = n := by have := hm.out; omega
        have q1 : IntKind.i64.wrap ((k : Int) - p) = n := by rw [IntWalk.i64_in _ (by omega)]; omega
        clear hz
        go_wp2_with fail
        go_returns
        exact ⟨by first | rfl | simp; omega, hx⟩
      · have hz := HGk.out rfl
        have HZ : Hid (runP l x (k + 1) + (k + 1 - p) = n) := hid (by have := hm.out; omega)
        clear hz
        go_wp2_with fail
        go_roundw
        case rel => exact ⟨k + 1, by omega, by omega, by go_num, HZ, hx⟩
        case measure => simp [intOf]; omega
    · obtain rfl : k = l.length := by omega
      have hz := HS.out l.length (fun h => absurd h (Nat.lt_irrefl _))
      have hkn : l.length - p = n := by have := hm.out; omega
      have q1 : IntKind.i64.wrap ((l.length : Int) - p) = n := by rw [IntWalk.i64_in _ (by omega)]; omega
      clear hz
      go_wp2_with fail
      go_returns
      exact ⟨by first | rfl | simp; omega, hx⟩
set_option maxHeartbeats 1000000 in
theorem PrefixRange_yes (a : Option Addr) (c : Nat) (l : List ByteArray) (x : ByteArray) (w : World) (h : Rd w a (strsV l)) (hs : ∀ s ∈ l, s.size ≤ 1048576) (hk : lexOk l = true) :
    Calls Tryd.prog 14 #[lexV a l.length c, .string x] w (Ret (.tuple #[.int .i64 (posL l x), .int .i64 (runP l x (posL l x)), .int .i64 0]) w) := by
  have h200 := lexOk_200 hk
  have hx0 := (Ext.refl w).alloc (.cells #[.slice a l.length c] 26)
  have HV := hid (ValidLexicon_any a c l _ (h.ext hx0) (by omega) hs)
  have HP := hid (fun w' (k : Ext w w') => prefixRange_any a c l x w' (h.ext k) (by omega) (lexOk_inc hk))
  rw [hk] at HV
  obtain ⟨p, hpp⟩ : ∃ p, posL l x = p := ⟨_, rfl⟩
  rw [hpp] at HP ⊢
  obtain ⟨n, hn⟩ : ∃ n, runP l x p = n := ⟨_, rfl⟩
  rw [hn] at HP ⊢
  clear h hk hpp hn
  go_enter Tryd.func14, Tryd.ntmps14
  go_wp2_with fail
  refine HV.out.mono ?_
  rintro e w1 ⟨rfl, hE⟩
  have b0 := hE.cell (b := w.heap.size) (o := 0) (v := .slice a l.length c) (by simp)
  have hE1 := hx0.trans hE
  clear hE HV hx0
  go_wp2_with fail
  refine (HP.out _ hE1).mono ?_
  rintro e w2 ⟨rfl, hx⟩
  have hE2 := hE1.trans hx
  clear hx b0
  go_wp2_with fail
  go_returns
  exact ⟨rfl, hE2⟩
end Go.Proofs.YtflpiebiacainaaDoor
