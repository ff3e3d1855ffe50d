/- The squares on which a play lays letters. Conditions stand at each. -/
import Derived.Test.YtpjmenfnaembcaaDoorCh12f
import Derived.Test.YtpjmenfnaembcaaDoorBase2
import Derived.Lib.OthersKept
namespace Go.Proofs.YtpjmenfnaembcaaDoor
set_option linter.unusedVariables false
set_option linter.unusedSimpArgs false
open Go Go.RowKit
theorem El_i64 : El Tryd.prog 53 2 (.int .i64 0) 1 8 := by
  obtain ⟨i, h1, h2, h3, h4⟩ := info_parts (show (Tryd.prog.info? 2).map (fun i => (i.zero, i.size, i.bytes)) = some (some (.int .i64 0), 1, 8) by kernel_rfl)
  exact ⟨Tryd.underlying53, ⟨i, h1, h2, h3, h4⟩, rfl, by decide⟩
theorem El_int : El Tryd.prog 57 3 (.int .i64 0) 1 8 := by
  obtain ⟨i, h1, h2, h3, h4⟩ := info_parts (show (Tryd.prog.info? 3).map (fun i => (i.zero, i.size, i.bytes)) = some (some (.int .i64 0), 1, 8) by kernel_rfl)
  exact ⟨Tryd.underlying57, ⟨i, h1, h2, h3, h4⟩, rfl, by decide⟩
theorem El_sq : El Tryd.prog 37 56 (.agg #[.int .i64 0, .int .i64 0]) 2 16 := by
  obtain ⟨i, h1, h2, h3, h4⟩ := info_parts (show (Tryd.prog.info? 56).map (fun i => (i.zero, i.size, i.bytes)) = some (some (.agg #[.int .i64 0, .int .i64 0]), 2, 16) by kernel_rfl)
  exact ⟨Tryd.underlying37, ⟨i, h1, h2, h3, h4⟩, rfl, by decide⟩
def intsV (l : List Nat) : List Value := l.map fun i : Nat => .int .i64 (i : Int)
theorem intsV_length (l : List Nat) : (intsV l).length = l.length := by simp [intsV]
theorem intsV_append (l r : List Nat) : intsV (l ++ r) = intsV l ++ intsV r := by simp [intsV]
theorem intsV_get (l : List Nat) (k : Nat) (h : k < l.length) : (intsV l)[k]? = some (.int .i64 (l.getD k 0 : Nat)) := by simp [intsV, h, List.getD_eq_getElem?_getD]
theorem Rd.ints {w : World} {a : Option Addr} {l : List Nat} (h : Rd w a (intsV l)) (hn : 0 < l.length) : ∃ b o, a = some ⟨b, o, none⟩ ∧ ∀ k, k < l.length → w.cell? ⟨b, o + k, none⟩ = some (.int .i64 (l.getD k 0 : Nat)) := by
  obtain ⟨b, o, ha, hc⟩ := h.at (by rw [intsV_length]; exact hn)
  exact ⟨b, o, ha, fun k hk => hc k _ (intsV_get l k hk)⟩
def sqsV (r c : Int) (d : Bool) (l : List Nat) : List Value := l.flatMap fun i : Nat => [.int .i64 (sqR r d i), .int .i64 (sqC c d i)]
theorem sqsV_append (r c : Int) (d : Bool) (l q : List Nat) : sqsV r c d (l ++ q) = sqsV r c d l ++ sqsV r c d q := by simp [sqsV]
theorem sqsV_length (r c : Int) (d : Bool) (l : List Nat) : (sqsV r c d l).length = l.length * 2 := by
  induction l with
  | nil => rfl
  | cons a t ih => rw [sqsV, List.flatMap_cons, List.length_append]; change _ + (sqsV r c d t).length = _; rw [ih]; simp; omega
theorem sqsV_get (r c : Int) (d : Bool) : ∀ (l : List Nat) (k : Nat), k < l.length → (sqsV r c d l)[k * 2]? = some (.int .i64 (sqR r d (l.getD k 0 : Nat))) ∧ (sqsV r c d l)[k * 2 + 1]? = some (.int .i64 (sqC c d (l.getD k 0 : Nat)))
  | [], k, h => by simp at h
  | a :: t, 0, h => by simp [sqsV]
  | a :: t, k + 1, h => by
    have := sqsV_get r c d t k (by simpa using h)
    have e : sqsV r c d (a :: t) = .int .i64 (sqR r d a) :: .int .i64 (sqC c d a) :: sqsV r c d t := by simp [sqsV]
    rw [e, show (k + 1) * 2 = k * 2 + 1 + 1 by omega, show k * 2 + 1 + 1 + 1 = k * 2 + 1 + 1 + 1 from rfl]
    simpa using this
theorem Rd.sqs {w : World} {a : Option Addr} {r c : Int} {d : Bool} {l : List Nat} (h : Rd w a (sqsV r c d l)) (hn : 0 < l.length) : ∃ b o, a = some ⟨b, o, none⟩ ∧ ∀ k, k < l.length → w.cell? ⟨b, o + k * 2, none⟩ = some (.int .i64 (sqR r d (l.getD k 0 : Nat))) ∧ w.cell? ⟨b, o + (k * 2 + 1), none⟩ = some (.int .i64 (sqC c d (l.getD k 0 : Nat))) := by
  obtain ⟨b, o, ha, hc⟩ := h.at (by rw [sqsV_length]; omega)
  exact ⟨b, o, ha, fun k hk => ⟨hc _ _ (sqsV_get r c d l k hk).1, hc _ _ (sqsV_get r c d l k hk).2⟩⟩
/-- A row of integers of the call's own comes back. -/
def RetI (t : TypeId) (l : List Nat) (w : World) (e : Ending) (w' : World) : Prop := ∃ a c, e = .returned (.slice a l.length c) ∧ Own w' w.heap.size t 1 a l.length c (intsV l) ∧ Ext w w'
set_option maxHeartbeats 1000000 in
theorem l12Fresh_any (b o : Nat) (n : Int) (p cs : ByteArray) (r c : Int) (s : ByteArray) (w : World) (hB : BdAt w b o n p cs) (h1 : 5 ≤ n) (h2 : n ≤ 15) (hc : (cs.size : Int) = n * n) (hin : inRC n r c = true) (hl : c + s.size ≤ n) :
    Calls Tryd.prog 35 #[.pointer (some ⟨b, o, none⟩), playV r c false s] w (RetI 2 (frL (fun i => sqAt n cs r (c + (i : Nat))) s.size) w) := by
  obtain ⟨r1, r2, r3, r4⟩ := inRC_true hin
  have HB : Hid (∀ w', Ext w w' → BdAt w' b o n p cs) := hid (fun w' k => hB.ext k)
  have HC := hid hc
  obtain ⟨g, hg⟩ : ∃ g : Nat → Int, (fun i : Nat => sqAt n cs r (c + (i : Nat))) = g := ⟨_, rfl⟩
  have HG : Hid (∀ i : Nat, sqAt n cs r (c + (i : Nat)) = g i) := hid (fun i => by rw [← hg])
  rw [hg]
  clear hg hc hin hB
  have HS := hid (frL_succ g)
  have HLE := hid (frL_le g)
  have HFB : Hid (∀ x, freeB x = decide (x = 46)) := hid (fun x => rfl)
  go_enter Tryd.func35, Tryd.ntmps35
  go_wp2_with fail
  go_loopw [5, 6] (fun v i wr => ∃ (k m cap : Nat) (a' : Option Addr), k ≤ s.size ∧ m ≤ k ∧ i = .int .i64 k ∧ v = .slice a' m cap ∧ Hid (m = (frL g k).length) ∧ Own wr (w.heap.size + 1) 2 1 a' m cap (intsV (frL g k)) ∧ Ext (w.alloc (.cells #[.int .i64 r, .int .i64 c, .bool false, .string s] 31)) wr) (fun _ i _ => s.size - (intOf i).toNat)
  case atStart => exact ⟨0, 0, 0, some ⟨w.heap.size + 1, 0, none⟩, by omega, by omega, rfl, rfl, hid rfl, Own.empty _ _ _ _ _, (Ext.refl _).alloc _⟩
  case round =>
    obtain ⟨k, m, cap, a', hk, hmk, rfl, rfl, hm, hown, hx⟩ := hrel
    have a0 := hx.cell (b := w.heap.size) (o := 0) (v := .int .i64 r) (by simp)
    have a1 := hx.cell (b := w.heap.size) (o := 1) (v := .int .i64 c) (by simp)
    have a3 := hx.cell (b := w.heap.size) (o := 3) (v := .string s) (by simp)
    have hE : Ext w wr := ((Ext.refl w).alloc _).trans hx
    have hsz := hx.size
    simp only [World.size_alloc] at hsz
    by_cases hlt : k < s.size
    · have HGk := HG.out k
      have HIn : Hid (inRC n r (c + (k : Int)) = true) := hid (by simp [inRC, inB]; omega)
      have HCk := hid (fun w' h => l11At_any b o n p cs r (c + (k : Int)) w' h h1 h2 HC.out HIn.out)
      rw [HGk] at HCk
      obtain ⟨x, hxg⟩ : ∃ x, g k = x := ⟨_, rfl⟩
      rw [hxg] at HCk
      have HX := hid hxg
      clear hxg HGk
      have HOWN := hid hown
      clear hown
      go_wp2_with fail
      refine (HCk.out _ (HB.out _ hE)).mono ?_
      rintro e w4 ⟨rfl, hD⟩
      have hz := hD.ext
      have hown := HOWN.out.ext hz
      have hz4 := hz.size
      clear hD HCk
      by_cases h46 : x = 46
      · subst h46
        have HF : Hid (freeB (g k) = true) := hid (by rw [HX.out]; rfl)
        go_wp2_with (at_builtin; refine wpList_push rfl _ _ 53 rfl El_i64 rfl [_] rfl rfl (by simp [Value.oneCell']) hown (by omega) (by unfold maxLen; omega) (by omega) ?_; intro a2 c3 w5 hown2 hb2)
        go_roundw
        case rel => exact ⟨k + 1, m + 1, c3, a2, by omega, by omega, by go_num, rfl, hid (by rw [HS.out, HF.out]; simp [← hm.out]), by rw [HS.out, HF.out, if_pos rfl, intsV_append]; exact hown2, (hx.trans hz).thenBelow hb2 (by simp)⟩
        case measure => simp [intOf]; omega
      · have HF : Hid (freeB (g k) = false) := hid (by rw [HFB.out, HX.out, decide_eq_false h46])
        have q46 : (x == 46) = false := by simpa using h46
        clear h46
        go_wp2_with fail
        go_roundw
        case rel => exact ⟨k + 1, m, cap, a', by omega, by omega, by go_num, rfl, hid (by rw [HS.out, HF.out]; simpa using hm.out), by rw [HS.out, HF.out]; simpa using hown, hx.trans hz⟩
        case measure => simp [intOf]; omega
    · obtain rfl : k = s.size := by omega
      have HOWN := hid hown
      clear hown
      go_wp2_with fail
      go_returns
      exact ⟨a', cap, by rw [← hm.out]; rfl, by rw [← hm.out]; exact HOWN.out.mono (by omega), hE⟩
theorem Own.blocks {w w' : World} {B : Nat} {e : TypeId} {size : Nat} {a : Option Addr} {n c : Nat} {xs : List Value} (h : Own w B e size a n c xs) (k : ∀ (q : Nat) (cur : Array Value) (e' : TypeId) (fz : Nat × Nat), w.heap[q]? = some (Obj.cells cur e' fz) → w'.heap[q]? = w.heap[q]?) : Own w' B e size a n c xs := by
  rcases h with h | ⟨h1, h2⟩
  · exact .inl h
  · refine .inr ⟨h1, ?_⟩
    rcases h2 with h2 | ⟨g, cap, cur, hv, hg, hh, r⟩
    · exact .inl h2
    · exact .inr ⟨g, cap, cur, hv, hg, by rw [k g _ _ _ hh]; exact hh, r⟩
theorem iterAt_cells {w : World} {b : Nat} {s : ByteArray} {k k' : Nat} (hit : w.heap[b]? = some (.stringIter s k)) : ∀ (q : Nat) (cur : Array Value) (e' : TypeId) (fz : Nat × Nat), w.heap[q]? = some (Obj.cells cur e' fz) → (w.iterAt b s k').heap[q]? = w.heap[q]? := by
  intro q cur e' fz hq
  have hne : q ≠ b := by
    rintro rfl
    rw [hit] at hq
    simp at hq
  exact Go.Lib.iterAt_other w b q s k' hne
theorem iter_heap_at (w : World) (s : ByteArray) (b : Nat) (h : w.heap.size = b) : (w.iter s 0).heap[b]? = some (.stringIter s 0) := by
  subst h
  exact World.iter_heap w s 0
theorem iterAt_ext {w w' : World} {b : Nat} {s : ByteArray} {k' : Nat} (hx : Ext w w') (hb : w.heap.size ≤ b) : Ext w (w'.iterAt b s k') :=
  ⟨hx.below.os, hx.below.tape, hx.below.output, Nat.le_trans hx.size (by simp [World.iterAt]), fun j hj => by rw [← hx.below.block j hj]; simp [World.iterAt, Array.getElem?_modify, Array.getElem?_set, Array.getElem?_setIfInBounds]; omega⟩
theorem Ext.iter {w w' : World} (h : Ext w w') {b : Nat} {s : ByteArray} {k : Nat} (hb : w.heap[b]? = some (.stringIter s k)) : w'.heap[b]? = some (.stringIter s k) := by
  rw [h.below.block b (Array.getElem?_eq_some_iff.1 hb).1]; exact hb
theorem iterPos_of {w : World} {b : Nat} {s : ByteArray} {k : Nat} (hb : w.heap[b]? = some (.stringIter s k)) : w.iterPos b = k := by
  show (match w.heap[b]? with | some (.stringIter _ p) => p | _ => 0) = k
  rw [hb]
theorem main_ascii {s : ByteArray} (h : allB letterB s = true) (k : Nat) (hk : k < s.size) : s[k].toNat < 128 := by
  have := allB_at h k hk
  simp only [letterB, smallB, capB, Bool.or_eq_true, decide_eq_true_eq] at this
  omega
/-- The squares that a play fills anew, and their places in the word, come back. -/
def RetSq (r c : Int) (d : Bool) (l : List Nat) (w : World) (e : Ending) (w' : World) : Prop := ∃ a1 c1 a2 c2, e = .returned (.tuple #[.slice a1 l.length c1, .slice a2 l.length c2]) ∧ Own w' w.heap.size 56 2 a1 l.length c1 (sqsV r c d l) ∧ Own w' w.heap.size 3 1 a2 l.length c2 (intsV l) ∧ Ext w w'
set_option maxRecDepth 100000 in
set_option maxHeartbeats 2000000 in
theorem newSquares_any (n : Int) (p cs : ByteArray) (r c : Int) (d : Bool) (s : ByteArray) (w : World) (h1 : 5 ≤ n) (h2 : n ≤ 15) (hc : (cs.size : Int) = n * n) (hcell : allB cellB cs = true) (hin : inRC n r c = true) (hl : (if d then r else c) + (s.size : Int) ≤ n) (hm : allB letterB s = true) :
    Calls Tryd.prog 36 #[boardV n p cs, playV r c d s] w (RetSq r c d (frL (fun i => plAt n cs r c d i) s.size) w) := by
  obtain ⟨r1, r2, r3, r4⟩ := inRC_true hin
  have hs15 : s.size ≤ 15 := by cases d <;> simp at hl <;> omega
  have HC := hid hc
  have HA := hid (main_ascii hm)
  have HIN := hid (fun i hi => plAt_in hin hl i hi)
  have HNZ : Hid (∀ i, i < s.size → plAt n cs r c d i ≠ 0) := hid (fun i hi => by
    rw [plAt_eq]
    exact sqAt_ne h1 h2 hc hcell (plAt_in hin hl i hi))
  have HPS : Hid (∀ i : Nat, sqAt n cs (sqR r d i) (sqC c d i) = plAt n cs r c d i) := hid (fun i => (plAt_sq n cs r c d i).symm)
  obtain ⟨g, hg⟩ : ∃ g : Nat → Int, (fun i : Nat => plAt n cs r c d i) = g := ⟨_, rfl⟩
  have HG : Hid (∀ i : Nat, plAt n cs r c d (i : Nat) = g i) := hid (fun i => by rw [← hg])
  rw [hg]
  clear hg hc hin hcell hm hl
  have HS := hid (frL_succ g)
  have HFB : Hid (∀ x, freeB x = decide (x = 46)) := hid (fun x => rfl)
  go_enter Tryd.func36, Tryd.ntmps36
  go_wp2_with fail
  go_loopw [6, 7] (fun v u wr => ∃ (k m cap1 cap2 : Nat) (a1 a2 : Option Addr), k ≤ s.size ∧ m ≤ k ∧ v = .slice a1 m cap1 ∧ u = .slice a2 m cap2 ∧ wr.heap[w.heap.size + 4]? = some (.stringIter s k) ∧ Hid (m = (frL g k).length) ∧ Hid (Own wr (w.heap.size + 2) 56 2 a1 m cap1 (sqsV r c d (frL g k))) ∧ Hid (Own wr (w.heap.size + 2) 3 1 a2 m cap2 (intsV (frL g k))) ∧ Ext ((w.alloc (.cells #[.int .i64 n, .string p, .string cs] 29)).alloc (.cells #[.int .i64 r, .int .i64 c, .bool d, .string s] 31)) wr) (fun _ _ wr => s.size - wr.iterPos (w.heap.size + 4))
  case atStart => exact ⟨0, 0, 0, 0, some ⟨w.heap.size + 2, 0, none⟩, some ⟨w.heap.size + 3, 0, none⟩, by omega, by omega, rfl, rfl, iter_heap_at _ s _ (by first | (simp only [World.size_alloc]; done) | (simp only [World.size_alloc]; omega)), hid rfl, hid (Own.empty _ _ _ _ _), hid (Own.empty _ _ _ _ _), (((Ext.refl _).alloc _).alloc _).alloc _⟩
  case round =>
    obtain ⟨k, m, cap1, cap2, a1, a2, hk, hmk, rfl, rfl, hit, hmm, ho1, ho2, hx⟩ := hrel
    have hsz := hx.size
    simp only [World.size_alloc] at hsz
    by_cases hlt : k < s.size
    · have hnx : ∀ ty, (Instr.next (.pointer (some ⟨w.heap.size + 4, 0, none⟩)) true ty).run Tryd.prog wr = _ := fun ty => Go.Lib.run_next_ascii_at wr (w.heap.size + 4) s k ty hit hlt (HA.out k hlt)
      have hit2 := Go.Lib.iterAt_heap wr (w.heap.size + 4) s k (k + 1) hit
      have hx2 := iterAt_ext (s := s) (k' := k + 1) hx (show _ ≤ w.heap.size + 4 by simp only [World.size_alloc]; omega)
      have ho1 := hid (ho1.out.blocks (iterAt_cells (k' := k + 1) hit))
      have ho2 := hid (ho2.out.blocks (iterAt_cells (k' := k + 1) hit))
      have HM1 := hid (iterPos_of hit)
      have hlit := (Array.getElem?_eq_some_iff.1 hit).1
      have hsW : wr.heap.size = (wr.iterAt (w.heap.size + 4) s (k + 1)).heap.size := by simp [World.iterAt]
      obtain ⟨W, hW⟩ : ∃ W, wr.iterAt (w.heap.size + 4) s (k + 1) = W := ⟨_, rfl⟩
      rw [hW] at hnx hit2 hx2 ho1 ho2 hsW
      clear hW hx hit
      have a0 := hx2.cell (b := w.heap.size) (o := 0) (v := .int .i64 n) (by go_cell)
      have a1' := hx2.cell (b := w.heap.size) (o := 1) (v := .string p) (by go_cell)
      have a2' := hx2.cell (b := w.heap.size) (o := 2) (v := .string cs) (by go_cell)
      have b0 := hx2.cell (b := w.heap.size + 1) (o := 0) (v := .int .i64 r) (by go_cell)
      have b1 := hx2.cell (b := w.heap.size + 1) (o := 1) (v := .int .i64 c) (by go_cell)
      have b2 := hx2.cell (b := w.heap.size + 1) (o := 2) (v := .bool d) (by go_cell)
      have b3 := hx2.cell (b := w.heap.size + 1) (o := 3) (v := .string s) (by go_cell)
      have HSq := hid (fun w' => square_any r c d s (k : Int) w' (by omega) (by omega) (by omega))
      have HOn := hid (fun w' => on_any n p cs (sqR r d (k : Int)) (sqC c d (k : Int)) w' h1 h2 HC.out)
      rw [HPS.out k, HG.out k] at HOn
      have hnz := HNZ.out k hlt
      rw [HG.out k] at hnz
      obtain ⟨x, hxg⟩ : ∃ x, g k = x := ⟨_, rfl⟩
      rw [hxg] at HOn hnz
      have HX := hid hxg
      have HNX := hid hnz
      obtain ⟨R1, hR1⟩ : ∃ R1, sqR r d (k : Int) = R1 := ⟨_, rfl⟩
      obtain ⟨C1, hC1⟩ : ∃ C1, sqC c d (k : Int) = C1 := ⟨_, rfl⟩
      have HSV : Hid (sqsV r c d [k] = [.int .i64 R1, .int .i64 C1]) := hid (by simp [sqsV, hR1, hC1])
      rw [hR1, hC1] at HSq HOn
      clear hxg hnz hR1 hC1 hlit
      go_wp2_with fail
      refine (HSq.out _).mono ?_
      rintro e w2 ⟨rfl, hy⟩
      replace a0 := hy.cell a0
      replace a1' := hy.cell a1'
      replace a2' := hy.cell a2'
      have lt0 := World.block_lt_of_cell? _ _ a0
      go_wp2_with fail
      refine (HOn.out _).mono ?_
      rintro e w3 ⟨rfl, hz⟩
      have t0 := hz.cell (b := w2.heap.size) (o := 0) (v := .int .i64 R1) (by simp)
      have t1 := hz.cell (b := w2.heap.size) (o := 1) (v := .int .i64 C1) (by simp)
      have hz2 := hy.trans (((Ext.refl w2).alloc (.cells #[.int .i64 R1, .int .i64 C1] 56)).trans hz)
      have hE3 := hx2.trans hz2
      have hit3 := hz2.iter hit2
      have ho1 := hid (ho1.out.ext hz2)
      have ho2 := hid (ho2.out.ext hz2)
      have hs3 := hz2.size
      clear hy hz hz2 a0 a1' a2' b0 b1 b2 b3 lt0 hit2 HSq HOn
      by_cases h46 : x = 46
      · subst h46
        have HF : Hid (freeB (g k) = true) := hid (by rw [HX.out]; rfl)
        have e46 : letB 46 = false := rfl
        rw [e46]
        clear e46
        have hown1 := ho1.out
        have hown2 := ho2.out
        clear ho1 ho2
        go_wp2_with (at_builtin; first | (refine wpList_pushK rfl (.tmp 25) (.tmp 27) 37 rfl El_sq rfl [.int .i64 R1, .int .i64 C1] rfl rfl (by simp [Value.oneCell']) hown1 (by omega) (by unfold maxLen; omega) (by omega) ?_; intro a3 c3 w4 hown3 hb3 hk3; have hown2' := hk3.own (by decide) hown2; have hit4 := hk3.iter hit3; have hs4 := hk3.1; have HO3 := hid hown3; have hE4 := hE3.thenBelow hb3 (by simp); clear hown3 hown2 hown1 hit3 hk3 hb3 hE3) | (refine wpList_pushK rfl (.tmp 29) (.tmp 31) 57 rfl El_int rfl [_] rfl rfl (by simp [Value.oneCell']) hown2' (by omega) (by unfold maxLen; omega) (by omega) ?_; intro a4 c4 w5 hown4 hb4 hk4; have HO3' := hid (hk4.own (by decide) HO3.out); have hit5 := hk4.iter hit4; have HO4 := hid hown4; have hE5 := hE4.thenBelow hb4 (by simp); clear hown4 hown2' HO3 hit4 hk4 hb4 hE4))
        refine ⟨⟨k + 1, m + 1, c3, c4, a3, a4, by omega, by omega, rfl, rfl, hit5, hid (by rw [HS.out, HF.out]; simp [← hmm.out]), hid (by rw [HS.out, HF.out, if_pos rfl, sqsV_append, HSV.out]; exact HO3'.out), hid (by rw [HS.out, HF.out, if_pos rfl, intsV_append]; exact HO4.out), hE5⟩, ?_⟩
        rw [iterPos_of hit5, HM1.out]
        omega
      · have HF : Hid (freeB (g k) = false) := hid (by rw [HFB.out, HX.out, decide_eq_false h46])
        have el : letB x = true := by unfold letB; simp [h46, HNX.out]
        rw [el]
        clear el h46
        go_wp2_with fail
        refine ⟨⟨k + 1, m, cap1, cap2, a1, a2, by omega, by omega, rfl, rfl, hit3, hid (by rw [HS.out, HF.out]; simpa using hmm.out), hid (by rw [HS.out, HF.out]; simpa using ho1.out), hid (by rw [HS.out, HF.out]; simpa using ho2.out), hE3⟩, ?_⟩
        rw [iterPos_of hit3, HM1.out]
        omega
    · obtain rfl : k = s.size := by omega
      have hnx : ∀ ty, (Instr.next (.pointer (some ⟨w.heap.size + 4, 0, none⟩)) true ty).run Tryd.prog wr = _ := fun ty => Go.Lib.run_next_end_at wr (w.heap.size + 4) s s.size ty hit hlt
      have hE : Ext w wr := (((Ext.refl w).alloc _).alloc _).trans hx
      go_wp2_with fail
      go_returns
      exact ⟨a1, cap1, a2, cap2, by rw [← hmm.out]; rfl, by rw [← hmm.out]; exact ho1.out.mono (by omega), by rw [← hmm.out]; exact ho2.out.mono (by omega), hE⟩
end Go.Proofs.YtpjmenfnaembcaaDoor
