/- Lexicons: which are valid. Conditions: at most 2^20 words, each of at most 2^20 bytes. -/
import Derived.Test.YtabljchbchjjcaaGreatDoorMg10
import Derived.Sort.Walk0
import Derived.Test.YtabljchbchjjcaaGreatDoorMg11
namespace Go.Proofs.YtabljchbchjjcaaGreatDoor
set_option linter.unusedVariables false
set_option linter.unusedSimpArgs false
open Go Go.RowKit

/-- The word with a number. -/
def wAt (l : List ByteArray) (k : Nat) : ByteArray := l.getD k ⟨#[]⟩
theorem wAt_eq (l : List ByteArray) (k : Nat) (h : k < l.length) : l[k] = wAt l k := by simp [wAt, List.getD_eq_getElem?_getD, h]
theorem wAt_mem (l : List ByteArray) (k : Nat) (h : k < l.length) : wAt l k ∈ l := by rw [← wAt_eq l k h]; exact List.getElem_mem h
def lessB (p q : ByteArray) : Bool := Op.bytesLess p.toList q.toList
theorem less_not {p q : ByteArray} (h : Op.bytesLess p.toList q.toList = true) : Op.bytesLess q.toList p.toList = false ∧ (q.toList == p.toList) = false := by
  rw [Go.Proofs.bytesLess_eq, decide_eq_true_eq] at h
  refine ⟨?_, ?_⟩
  · rw [Go.Proofs.bytesLess_eq, decide_eq_false_iff_not]
    exact List.lt_asymm h
  · rw [beq_eq_false_iff_ne]
    intro e
    rw [e] at h
    exact List.lt_irrefl _ h
theorem less_or {p q : ByteArray} (h : Op.bytesLess p.toList q.toList = false) : (Op.bytesLess q.toList p.toList || q.toList == p.toList) = true := by
  rw [Go.Proofs.bytesLess_eq, decide_eq_false_iff_not] at h
  rw [Go.Proofs.bytesLess_eq, Bool.or_eq_true, decide_eq_true_eq, beq_iff_eq]
  rcases List.le_iff_lt_or_eq.1 (List.not_lt.1 h) with h | h
  · exact .inl h
  · exact .inr h
def incB (l : List ByteArray) : Bool := (List.range (l.length - 1)).all fun i => lessB (wAt l i) (wAt l (i + 1))
def lexOk (l : List ByteArray) : Bool := decide (l.length ≤ 200) && (incB l && l.all longOk)
theorem incB_yes {l : List ByteArray} (h : ∀ i, i + 1 < l.length → lessB (wAt l i) (wAt l (i + 1)) = true) : incB l = true := by
  unfold incB
  rw [List.all_eq_true]
  intro i hi
  exact h i (by have := List.mem_range.1 hi; omega)
theorem incB_no {l : List ByteArray} (i : Nat) (hi : i + 1 < l.length) (h : lessB (wAt l i) (wAt l (i + 1)) = false) : incB l = false := by
  unfold incB
  rw [List.all_eq_false]
  exact ⟨i, List.mem_range.2 (by omega), by simp [h]⟩
theorem allL_no {l : List ByteArray} (i : Nat) (hi : i < l.length) (h : longOk (wAt l i) = false) : l.all longOk = false := by
  rw [List.all_eq_false]
  exact ⟨wAt l i, wAt_mem l i hi, by simp [h]⟩
theorem allL_yes {l : List ByteArray} (h : ∀ i, i < l.length → longOk (wAt l i) = true) : l.all longOk = true := by
  rw [List.all_eq_true]
  intro x hx
  obtain ⟨i, hi, rfl⟩ := List.getElem_of_mem hx
  rw [wAt_eq l i hi]
  exact h i hi
/-- The cells, each by its word. -/
theorem Rd.word {w : World} {a : Option Addr} {l : List ByteArray} (h : Rd w a (strsV l)) (hn : 0 < l.length) : ∃ b o, a = some ⟨b, o, none⟩ ∧ ∀ k, k < l.length → w.cell? ⟨b, o + k, none⟩ = some (.string (wAt l k)) := by
  obtain ⟨b, o, ha, hc⟩ := h.str hn
  exact ⟨b, o, ha, fun k hk => by rw [hc k hk, wAt_eq l k hk]⟩

set_option maxHeartbeats 400000 in
theorem increasing_any (a : Option Addr) (c : Nat) (l : List ByteArray) (w : World) (h : Rd w a (strsV l)) (hl : l.length ≤ 1048576) :
    Calls Tryz.prog 60 #[.slice a l.length c] w fun e w' => e = .returned (.bool (incB l)) ∧ Dr w w' := by
  have HR := hid h
  have HY := hid (@incB_yes l)
  have HN := hid (@incB_no l)
  clear h
  go_enter Tryz.func60, Tryz.ntmps60
  go_wp2_with fail
  go_loopw [3] (fun i wr => ∃ k : Nat, (k ≤ l.length ∨ k = 1) ∧ 1 ≤ k ∧ i = .int .i64 k ∧ Hid (∀ j, j + 1 < k → j + 1 < l.length → lessB (wAt l j) (wAt l (j + 1)) = true) ∧ Dr w wr) (fun i _ => l.length - (intOf i).toNat)
  case atStart => exact ⟨1, by omega, by omega, rfl, hid (fun j hj _ => by omega), Dr.refl _⟩
  case round =>
    obtain ⟨k, hk, hk1, rfl, hall, hD⟩ := hrel
    by_cases hlt : k < l.length
    · obtain ⟨b, o, rfl, hc⟩ := (HR.out.ext hD.ext).word (by omega)
      obtain ⟨q, rfl⟩ : ∃ q, k = q + 1 := ⟨k - 1, by omega⟩
      have c0 := hc q (by omega)
      have c1 := hc (q + 1) hlt
      have HL : Hid (lessB (wAt l q) (wAt l (q + 1)) = Op.bytesLess (wAt l q).toList (wAt l (q + 1)).toList) := hid rfl
      obtain ⟨s, hs⟩ : ∃ s, wAt l q = s := ⟨_, rfl⟩
      obtain ⟨t, ht⟩ : ∃ t, wAt l (q + 1) = t := ⟨_, rfl⟩
      rw [hs] at c0
      rw [ht] at c1
      rw [hs, ht] at HL
      have HS := hid (And.intro hs ht)
      clear hs ht hc
      have e1 : ((q + 1 : Nat) : Int) - 1 = (q : Int) := by omega
      obtain ⟨p0, hp0⟩ : ∃ p0, o + q = p0 := ⟨_, rfl⟩
      obtain ⟨p1, hp1⟩ : ∃ p1, o + (q + 1) = p1 := ⟨_, rfl⟩
      rw [hp0] at c0
      rw [hp1] at c1
      cases hb : Op.bytesLess s.toList t.toList
      · have HB := hid hb
        go_wp2_with fail
        go_quiet (fail)
        go_wp2_with fail
        go_returns
        exact ⟨ret_bool (HN.out q hlt (by rw [HS.out.1, HS.out.2, HL.out, HB.out])).symm, hD.trans ⟨_, rfl⟩⟩
      · have HB := hid hb
        go_wp2_with fail
        go_quiet (fail)
        go_wp2_with fail
        go_roundw
        case rel => exact ⟨q + 2, by omega, by omega, by go_num, hid (fun j hj hj' => by
          by_cases hjq : j = q
          · subst hjq; rw [HS.out.1, HS.out.2, HL.out, HB.out]
          · exact hall.out j (by omega) hj'), hD.trans ⟨_, rfl⟩⟩
        case measure => simp [intOf]; omega
    · go_wp2_with fail
      go_returns
      exact ⟨ret_bool (HY.out (fun i hi => hall.out i (by omega) hi)).symm, hD⟩
set_option maxHeartbeats 1000000 in
theorem ValidLexicon_any (a : Option Addr) (c : Nat) (l : List ByteArray) (w : World) (h : Rd w a (strsV l)) (hl : l.length ≤ 1048576) (hs : ∀ s ∈ l, s.size ≤ 1048576) :
    Calls Tryz.prog 38 #[lexV a l.length c] w (Ret (.bool (lexOk l)) w) := by
  have H : Hid (lexOk l = (decide (l.length ≤ 200) && (incB l && l.all longOk))) := hid rfl
  have HR : Hid (∀ w', Ext w w' → Rd w' a (strsV l)) := hid (fun w' k => h.ext k)
  have HS : Hid (∀ k, k < l.length → (wAt l k).size ≤ 1048576) := hid (fun k hk => hs _ (wAt_mem l k hk))
  have HY := hid (@allL_yes l)
  have HN := hid (@allL_no l)
  clear h hs
  by_cases h2 : l.length ≤ 200
  · go_enter Tryz.func38, Tryz.ntmps38
    go_wp2_with fail
    refine (increasing_any a c l _ (HR.out _ ((Ext.refl w).alloc _)) hl).mono ?_
    rintro e w1 ⟨rfl, hD⟩
    have b0 := hD.ext.cell (b := w.heap.size) (o := 0) (v := .slice a l.length c) (by simp)
    have hE : Ext w w1 := ((Ext.refl w).alloc _).trans hD.ext
    clear hD
    cases hi : incB l
    · have HI := hid hi
      go_wp2_with fail
      go_returns
      exact ⟨ret_bool (by rw [H.out, HI.out]; simp), hE⟩
    · have HI := hid hi
      clear hi
      go_wp2_with fail
      go_loopw [18] (fun i wr => ∃ k : Nat, k ≤ l.length ∧ i = .int .i64 k ∧ Hid (∀ j, j < k → j < l.length → longOk (wAt l j) = true) ∧ Ext w wr) (fun i _ => l.length - (intOf i).toNat)
      case atStart => exact ⟨0, by omega, rfl, hid (fun j hj _ => by omega), hE⟩
      case round =>
        clear hE b0
        obtain ⟨k, hk, rfl, hall, hE⟩ := hrel
        by_cases hlt : k < l.length
        · obtain ⟨b, o, rfl, hc⟩ := (HR.out _ hE).word (by omega)
          have c0 := hc k hlt
          have hz := HS.out k hlt
          obtain ⟨s, hs⟩ : ∃ s, wAt l k = s := ⟨_, rfl⟩
          rw [hs] at c0 hz
          have HSS := hid hs
          clear hs hc
          go_wp2_with fail
          refine (isLong_any s _ hz).mono ?_
          rintro e w2 ⟨rfl, hx⟩
          cases hg : longOk s
          · have HG := hid hg
            go_wp2_with fail
            go_returns
            exact ⟨ret_bool (by rw [H.out, HN.out k hlt (by rw [HSS.out, HG.out])]; simp), hE.trans hx⟩
          · have HG := hid hg
            clear hg
            go_wp2_with fail
            go_roundw
            case rel => exact ⟨k + 1, by omega, by go_num, hid (fun j hj hj' => by
              by_cases hjk : j = k
              · subst hjk; rw [HSS.out, HG.out]
              · exact hall.out j (by omega) hj'), hE.trans hx⟩
            case measure => simp [intOf]; omega
        · have HA := hid (HY.out (fun i hi => hall.out i (by omega) hi))
          clear hall
          go_wp2_with fail
          go_returns
          exact ⟨ret_bool (by rw [H.out, HI.out, HA.out]; simp [h2]), hE⟩
  · have H2 := hid (decide_eq_false h2)
    go_enter Tryz.func38, Tryz.ntmps38
    go_wp2_with fail
    go_returns
    exact ⟨ret_bool (by rw [H.out, H2.out]; rfl), (Ext.refl w).alloc _⟩
/-- A lexicon lies there. -/
def LxAt (w : World) (b o : Nat) (l : List ByteArray) : Prop := ∃ a c, w.cell? ⟨b, o, none⟩ = some (.slice a l.length c) ∧ Rd w a (strsV l)
theorem LxAt.ext {w w' : World} {b o : Nat} {l : List ByteArray} (h : LxAt w b o l) (k : Ext w w') : LxAt w' b o l := by
  obtain ⟨a, c, h1, h2⟩ := h
  exact ⟨a, c, k.cell h1, h2.ext k⟩
set_option maxHeartbeats 2000000 in
theorem l05Ok_any (b o : Nat) (l : List ByteArray) (w : World) (h : LxAt w b o l) (hl : l.length ≤ 1048576) (hs : ∀ s ∈ l, s.size ≤ 1048576) :
    Calls Tryz.prog 17 #[.pointer (some ⟨b, o, none⟩)] w fun e w' => e = .returned (.bool (lexOk l)) ∧ Dr w w' := by
  have H : Hid (lexOk l = (decide (l.length ≤ 200) && (incB l && l.all longOk))) := hid rfl
  obtain ⟨a, c, hcell, hrd⟩ := h
  have HR : Hid (∀ w', Dr w w' → Rd w' a (strsV l)) := hid (fun w' k => hrd.ext k.ext)
  have HC : Hid (∀ w', Dr w w' → w'.cell? ⟨b, o, none⟩ = some (.slice a l.length c)) := hid (fun w' k => k.ext.cell hcell)
  have HS : Hid (∀ k, k < l.length → (wAt l k).size ≤ 1048576) := hid (fun k hk => hs _ (wAt_mem l k hk))
  have HY := hid (@allL_yes l)
  have HN := hid (@allL_no l)
  have IY := hid (@incB_yes l)
  have IN := hid (@incB_no l)
  clear hrd hs
  go_enter Tryz.func17, Tryz.ntmps17
  go_wp2_with fail
  go_loopw [3] (fun i wr => ∃ k : Nat, k ≤ l.length ∧ i = .int .i64 k ∧ Hid (∀ j, j < k → j < l.length → longOk (wAt l j) = true) ∧ Hid (∀ j, j + 1 < k → j + 1 < l.length → lessB (wAt l j) (wAt l (j + 1)) = true) ∧ Dr w wr) (fun i _ => l.length - (intOf i).toNat)
  case atStart => exact ⟨0, by omega, rfl, hid (fun j hj _ => by omega), hid (fun j hj _ => by omega), Dr.refl _⟩
  case round =>
    clear hcell
    obtain ⟨k, hk, rfl, hall, hinc, hD⟩ := hrel
    have hcell := HC.out _ hD
    by_cases hlt : k < l.length
    · obtain ⟨b1, o1, rfl, hc⟩ := (HR.out _ hD).word (by omega)
      have c0 := hc k hlt
      have hz := HS.out k hlt
      obtain ⟨s, hs⟩ : ∃ s, wAt l k = s := ⟨_, rfl⟩
      rw [hs] at c0 hz
      have HSS := hid hs
      clear hs
      obtain ⟨p0, hp0⟩ : ∃ p0, o1 + k = p0 := ⟨_, rfl⟩
      rw [hp0] at c0
      cases hg : longOk s
      · have HG := hid hg
        clear hc
        go_wp2_with fail
        go_quiet ((go_at_call 29; exact Calls.quiet_of_same ((l05Long_any s _ hz).mono fun _ _ h => ⟨by rw [h.1, hg], h.2.symm⟩)))
        go_wp2_with fail
        go_returns
        exact ⟨ret_bool (by rw [H.out, HN.out k hlt (by rw [HSS.out, HG.out])]; simp), hD.trans ⟨_, rfl⟩⟩
      · have HG := hid hg
        have HA : Hid (∀ j, j < k + 1 → j < l.length → longOk (wAt l j) = true) := hid (fun j hj hj' => by
          by_cases hjk : j = k
          · subst hjk; rw [HSS.out, HG.out]
          · exact hall.out j (by omega) hj')
        by_cases h0 : k = 0
        · subst h0
          clear hc
          simp only [Nat.add_zero] at hp0
          subst hp0
          go_wp2_with fail
          go_quiet ((go_at_call 29; exact Calls.quiet_of_same ((l05Long_any s _ hz).mono fun _ _ h => ⟨by rw [h.1, hg], h.2.symm⟩)))
          go_wp2_with fail
          go_roundw
          case rel => exact ⟨1, by omega, by go_num, HA, hid (fun j hj _ => by omega), hD.trans ⟨_, rfl⟩⟩
          case measure => simp [intOf]; omega
        · obtain ⟨q, rfl⟩ : ∃ q, k = q + 1 := ⟨k - 1, by omega⟩
          have c1 := hc q (by omega)
          have e1 : ((q + 1 : Nat) : Int) - 1 = (q : Int) := by omega
          have e2 : ¬ ((q + 1 : Nat) : Int) ≤ 0 := by omega
          obtain ⟨t, ht⟩ : ∃ t, wAt l q = t := ⟨_, rfl⟩
          have HL : Hid (lessB (wAt l q) (wAt l (q + 1)) = Op.bytesLess t.toList s.toList) := hid (by rw [ht, HSS.out]; rfl)
          rw [ht] at c1
          obtain ⟨p1, hp1⟩ : ∃ p1, o1 + q = p1 := ⟨_, rfl⟩
          rw [hp1] at c1
          clear hc ht
          cases hb : Op.bytesLess t.toList s.toList
          · have HB := hid hb
            have hor := less_or hb
            go_wp2_with fail
            go_quiet ((go_at_call 29; exact Calls.quiet_of_same ((l05Long_any s _ hz).mono fun _ _ h => ⟨by rw [h.1, hg], h.2.symm⟩)))
            go_wp2_with fail
            go_returns
            exact ⟨ret_bool (by rw [H.out, IN.out q hlt (by rw [HL.out, HB.out])]; simp), hD.trans ⟨_, rfl⟩⟩
          · have HB := hid hb
            obtain ⟨f1, f2⟩ := less_not hb
            go_wp2_with fail
            go_quiet ((go_at_call 29; exact Calls.quiet_of_same ((l05Long_any s _ hz).mono fun _ _ h => ⟨by rw [h.1, hg], h.2.symm⟩)))
            go_wp2_with fail
            go_roundw
            case rel => exact ⟨q + 2, by omega, by go_num, HA, hid (fun j hj hj' => by
              by_cases hjq : j = q
              · subst hjq; rw [HL.out, HB.out]
              · exact hinc.out j (by omega) hj'), hD.trans ⟨_, rfl⟩⟩
            case measure => simp [intOf]; omega
    · have HA := hid (HY.out (fun i hi => hall.out i (by omega) hi))
      have HB := hid (IY.out (fun i hi => hinc.out i (by omega) hi))
      have HD : Hid (decide (l.length ≤ 200) = decide ((l.length : Int) ≤ 200)) := hid (by rw [decide_eq_decide]; omega)
      clear hall hinc
      go_wp2_with fail
      go_returns
      refine ⟨ret_bool ?_, hD⟩
      rw [H.out, HA.out, HB.out]
      simp
      omega
end Go.Proofs.YtabljchbchjjcaaGreatDoor
