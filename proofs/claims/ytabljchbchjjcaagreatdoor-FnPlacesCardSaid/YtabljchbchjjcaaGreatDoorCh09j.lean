/- Letters and places at an automaton that was built from a small lexicon. Conditions: at most 6 words. -/
import Derived.Test.YtabljchbchjjcaaGreatDoorCh06s
import Derived.Test.YtabljchbchjjcaaGreatDoorMg22
namespace Go.Proofs.YtabljchbchjjcaaGreatDoor
set_option linter.unusedVariables false
set_option linter.unusedSimpArgs false
open Go Go.RowKit
/-- An automaton that was built from a small lexicon's forms. -/
structure GoodD (w : World) (aD : Option Addr) (LD : List NdP) (l : List ByteArray) : Prop where
  rd : DgRd w aD LD
  tab : TabF w
  ok : lexOk l = true
  six : l.length ≤ 6
  auto : ∃ N O r, AutoOk (srtF l) N O r ∧ ndsOf LD = numM N O
theorem GoodD.ext {w w' : World} {aD : Option Addr} {LD : List NdP} {l : List ByteArray} (h : GoodD w aD LD l) (k : Ext w w') : GoodD w' aD LD l := ⟨h.rd.ext k, h.tab.ext k, h.ok, h.six, h.auto⟩
theorem both_good (aD : Option Addr) (cD : Nat) (LD : List NdP) (l : List ByteArray) (w : World) (h : GoodD w aD LD l) :
    Calls Tryz.prog 22 #[dawgV aD LD.length cD] w fun e w' => ∃ a c, e = .returned (.tuple #[lexV a l.length c, .bool true]) ∧ Rd w' a (strsV l) ∧ Ext w w' := by
  obtain ⟨N, O, r, hA, hM⟩ := h.auto
  exact bothLexicon_good aD cD LD l N O r w h.rd hA hM h.ok h.six h.tab
set_option maxHeartbeats 2000000 in
theorem MiddleLetters_good (aD : Option Addr) (cD : Nat) (LD : List NdP) (l : List ByteArray) (p q : ByteArray) (w : World) (h : GoodD w aD LD l) (hpq : wordOk (p ++ q) = true) (hp : p.size ≤ 1048576) (hq : q.size ≤ 1048576) (hz : (p ++ q).size ≤ 1048576) :
    Calls Tryz.prog 13 #[dawgV aD LD.length cD, .string p, .string q] w (Ret (.tuple #[.string (hookS l p q), .int .i64 0]) w) := by
  have hx0 := (Ext.refl w).alloc (.cells #[.slice aD LD.length cD] 30)
  have HB := hid (both_good aD cD LD l _ (h.ext hx0))
  have HIW := hid (fun w' => IsWord_any (p ++ q) w' hz)
  rw [hpq] at HIW
  have HI := hid (lexOk_inc h.ok)
  have h6 := h.six
  clear h hpq hz
  go_enter Tryz.func13, Tryz.ntmps13
  go_wp2_with fail
  refine HB.out.mono ?_
  rintro e w1 ⟨a, c, rfl, hr, hx⟩
  have hE := hx0.trans hx
  have RL := hid hr
  clear hr HB hx0 hx
  have hx := (Ext.refl w1).alloc (.cells #[.slice a l.length c] 26)
  have p0 : (w1.alloc (.cells #[.slice a l.length c] 26)).cell? ⟨w1.heap.size, 0, none⟩ = some (.slice a l.length c) := by simp
  replace hE := hE.trans hx
  replace RL := hid (RL.out.ext hx)
  clear hx
  go_wp2_with fail
  refine (HIW.out _).mono ?_
  rintro e w2 ⟨rfl, hx⟩
  replace p0 := hx.cell p0
  replace hE := hE.trans hx
  replace RL := hid (RL.out.ext hx)
  clear hx
  go_wp2_with fail
  refine (letters_any p q a c l _ RL.out (by omega) HI.out hp hq).mono ?_
  rintro e w3 ⟨rfl, hx⟩
  replace hE := hE.trans hx
  clear hx p0
  go_wp2_with fail
  go_returns
  exact ⟨rfl, hE⟩
theorem nob_f (s : ByteArray) : (⟨#[]⟩ : ByteArray) ++ s = s := by
  apply ba_ext
  simp
theorem nob_b (s : ByteArray) : s ++ (⟨#[]⟩ : ByteArray) = s := by
  apply ba_ext
  simp
set_option maxHeartbeats 1000000 in
theorem FrontLetters_good (aD : Option Addr) (cD : Nat) (LD : List NdP) (l : List ByteArray) (s : ByteArray) (w : World) (h : GoodD w aD LD l) (hs : wordOk s = true) (hz : s.size ≤ 1048576) :
    Calls Tryz.prog 11 #[dawgV aD LD.length cD, .string s] w (Ret (.tuple #[.string (hookS l ⟨#[]⟩ s), .int .i64 0]) w) := by
  have hx0 := (Ext.refl w).alloc (.cells #[.slice aD LD.length cD] 30)
  have HB := hid (MiddleLetters_good aD cD LD l ⟨#[]⟩ s _ (h.ext hx0) (by rw [nob_f]; exact hs) (by decide) hz (by rw [nob_f]; exact hz))
  clear h hs
  go_enter Tryz.func11, Tryz.ntmps11
  go_wp2_with fail
  refine HB.out.mono ?_
  rintro e w1 ⟨rfl, hx⟩
  go_wp2_with fail
  go_returns
  exact ⟨rfl, hx0.trans hx⟩
set_option maxHeartbeats 1000000 in
theorem BackLetters_good (aD : Option Addr) (cD : Nat) (LD : List NdP) (l : List ByteArray) (s : ByteArray) (w : World) (h : GoodD w aD LD l) (hs : wordOk s = true) (hz : s.size ≤ 1048576) :
    Calls Tryz.prog 12 #[dawgV aD LD.length cD, .string s] w (Ret (.tuple #[.string (hookS l s ⟨#[]⟩), .int .i64 0]) w) := by
  have hx0 := (Ext.refl w).alloc (.cells #[.slice aD LD.length cD] 30)
  have HB := hid (MiddleLetters_good aD cD LD l s ⟨#[]⟩ _ (h.ext hx0) (by rw [nob_b]; exact hs) hz (by decide) (by rw [nob_b]; exact hz))
  clear h hs
  go_enter Tryz.func12, Tryz.ntmps12
  go_wp2_with fail
  refine HB.out.mono ?_
  rintro e w1 ⟨rfl, hx⟩
  go_wp2_with fail
  go_returns
  exact ⟨rfl, hx0.trans hx⟩
/-- Places, each of them right. -/
def RetPl (l : List ByteArray) (core : ByteArray) (w : World) (e : Ending) (w' : World) : Prop := ∃ a c P, e = .returned (.tuple #[.slice a P.length c, .int .i64 0]) ∧ P.length ≤ 100 ∧ PlcOk l core P ∧ Rd w' a (plcV P) ∧ Ext w w'
set_option maxRecDepth 100000 in
set_option maxHeartbeats 4000000 in
theorem PlacesOf_good (aD : Option Addr) (cD : Nat) (LD : List NdP) (l : List ByteArray) (core : ByteArray) (w : World) (h : GoodD w aD LD l) (hc : wordOk core = true) (hz : 1 ≤ core.size ∧ core.size ≤ 12) :
    Calls Tryz.prog 9 #[dawgV aD LD.length cD, .string core] w (RetPl l core w) := by
  have hx0 := (Ext.refl w).alloc (.cells #[.slice aD LD.length cD] 30)
  have HB := hid (both_good aD cD LD l _ (h.ext hx0))
  have HIW := hid (fun w' => IsWord_any core w' (by omega))
  rw [hc] at HIW
  have h6 := h.six
  have HSZ : Hid (∀ i, i < l.length → (wAt l i).size ≤ 12) := hid (fun i hi => (longOk_parts ((lexOk_parts h.ok).2.2 _ (wAt_mem l i hi))).2.1)
  have HHP := hid (fun s w' => Tryz.strings_HasPrefix s core w')
  obtain ⟨hz1, hz2⟩ := hz
  clear h hc
  go_enter Tryz.func9, Tryz.ntmps9
  go_wp2_with fail
  refine HB.out.mono ?_
  rintro e w1 ⟨a, c, rfl, hr, hx⟩
  have hE := hx0.trans hx
  have RL := hid hr
  clear hr HB hx0 hx
  have hx := (Ext.refl w1).alloc (.cells #[.slice a l.length c] 26)
  have p0 : (w1.alloc (.cells #[.slice a l.length c] 26)).cell? ⟨w1.heap.size, 0, none⟩ = some (.slice a l.length c) := by simp
  replace hE := hE.trans hx
  replace RL := hid (RL.out.ext hx)
  clear hx
  go_wp2_with fail
  refine (HIW.out _).mono ?_
  rintro e w2 ⟨rfl, hx⟩
  replace p0 := hx.cell p0
  replace hE := hE.trans hx
  replace RL := hid (RL.out.ext hx)
  clear hx HIW
  have hlt0 := World.block_lt_of_cell? _ _ p0
  go_wp2_with fail
  have HE2 := hid hE
  go_loopw [8, 26] (fun v i wr => ∃ (k m cap : Nat) (a' : Option Addr) (P : List (ByteArray × Int)), k ≤ l.length ∧ i = .int .i64 (k : Int) ∧ v = .slice a' m cap ∧ m ≤ 12 * k ∧ Hid (P.length = m) ∧ Hid (PlcOk l core P) ∧ Hid (Own wr w2.heap.size 39 2 a' m cap (plcV P)) ∧ Ext w2 wr) (fun _ i _ => l.length - (intOf i).toNat)
  case atStart => exact ⟨0, 0, 0, some ⟨w2.heap.size, 0, none⟩, [], by omega, rfl, rfl, by omega, hid rfl, hid (PlcOk.nil _ _), hid (Own.empty _ _ _ _ _), (Ext.refl _).alloc _⟩
  case round =>
    obtain ⟨k, m, cap, a', P, hk, rfl, rfl, hm, HPl, HPo, hown, hx⟩ := hrel
    by_cases hlt : k < l.length
    · obtain ⟨b1, o1, rfl, hcl⟩ := (RL.out.ext hx).word (by omega)
      have c1 := hcl k hlt
      have hsz := HSZ.out k hlt
      have HMY := hid (wAt_mem l k hlt)
      obtain ⟨y, hy⟩ : ∃ y, wAt l k = y := ⟨_, rfl⟩
      rw [hy] at c1 hsz HMY
      have hx' := hid hx
      have hown' := hown
      clear hcl hy hx hown
      go_wp2_with fail
      go_loopw [8, 11] (fun v i wr => ∃ (j m2 cap : Nat) (a' : Option Addr) (P : List (ByteArray × Int)), j ≤ 12 ∧ j ≤ y.size + 1 ∧ i = .int .i64 (j : Int) ∧ v = .slice a' m2 cap ∧ m2 ≤ 12 * k + j ∧ Hid (P.length = m2) ∧ Hid (PlcOk l core P) ∧ Hid (Own wr w2.heap.size 39 2 a' m2 cap (plcV P)) ∧ Ext w2 wr) (fun _ i _ => 13 - (intOf i).toNat)
      case atStart => exact ⟨0, m, cap, a', P, by omega, by omega, rfl, rfl, by omega, HPl, HPo, hown', hx'.out⟩
      case round =>
        clear HPl HPo hown' hx' c1 p0
        obtain ⟨j, m2, cap, a', P, hj, hj2, rfl, rfl, hm2, HPl, HPo, hown, hx⟩ := hrel
        have q1 : IntKind.i64.wrap ((j : Int) + core.size) = (j : Int) + core.size := IntWalk.i64_in _ (by omega)
        by_cases hfit : (j : Int) + core.size ≤ y.size
        · have hjy : (j : Int) ≤ y.size := by omega
          have HC := hid (HHP.out (y.extract j y.size))
          obtain ⟨T, hT⟩ : ∃ T, Lib.hasPrefix (y.extract j y.size).data.toList core.data.toList = T := ⟨_, rfl⟩
          rw [hT] at HC
          have HT := hid hT
          clear hT
          have hsz2 := hx.size
          go_wp2_with fail
          refine (HC.out _).mono ?_
          rintro e w3 ⟨rfl, rfl⟩
          cases T
          · go_wp2_with fail
            go_roundw
            case rel => exact ⟨j + 1, m2, cap, a', P, by omega, by omega, by go_num, rfl, by omega, HPl, HPo, hown, hx⟩
            case measure => simp [intOf]; omega
          · have HP2 := hid (HPo.out.snoc HMY.out (k := j) (by omega) HT.out)
            have hown2 := hown.out
            go_wp2_with (at_builtin; refine wpList_push rfl _ _ 35 rfl El_plc rfl [_, _] rfl rfl (by simp [Value.oneCell']) hown2 (by omega) (by unfold maxLen; omega) (by omega) ?_; intro a3 c3 w4 hown3 hb3; have HO := hid hown3; clear hown3 hown2)
            go_roundw
            case rel => exact ⟨j + 1, m2 + 1, c3, a3, P ++ [(y, (j : Int))], by omega, by omega, by go_num, rfl, by omega, hid (by rw [List.length_append, HPl.out]; rfl), HP2, hid (by rw [plcV_append]; exact HO.out), hx.thenBelow hb3 (by omega)⟩
            case measure => simp [intOf]; omega
        · go_wp2_with fail
          go_roundw
          case rel => exact ⟨k + 1, m2, cap, a', P, by omega, by go_num, rfl, by omega, HPl, HPo, hown, hx⟩
          case measure => simp [intOf]; omega
    · go_wp2_with fail
      go_returns
      exact ⟨a', cap, P, by rw [HPl.out]; rfl, by rw [HPl.out]; omega, HPo.out, hown.out.rd, HE2.out.trans hx⟩
end Go.Proofs.YtabljchbchjjcaaGreatDoor
