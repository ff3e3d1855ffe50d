/- The forms of a word: the iterator of the program, collected; and by the reference. Conditions: at most 2^20 bytes. -/
import Derived.Test.YtabljchbchjjcaaGreatDoorMg14
import Derived.Test.YtabljchbchjjcaaGreatDoorMg2
import Derived.RangeFuncBox
import Derived.RangeFuncNested
import Derived.RangeFuncCalls
import Derived.RangeFuncLeaves
import Derived.Shelf.Abstract
import Derived.OwnWalkIn
import Derived.TacticsInMore
import Derived.LoopNIn
import Derived.LoopIn
import Derived.Maps.AppendAt
namespace Go.Proofs.YtabljchbchjjcaaGreatDoor
set_option linter.unusedVariables false
set_option linter.unusedSimpArgs false
open Go Go.RowKit Go.Shelf
attribute [local go_sem] Oper.semAt_some
/-- A list of the call's own and a code come back. -/
def RetF (l : List ByteArray) (k : Int) (w : World) (e : Ending) (w' : World) : Prop := ∃ a c, e = .returned (.tuple #[.slice a l.length c, .int .i64 k]) ∧ OwnR w' w.heap.size a (strsV l) ∧ Ext w w'
def formL (x : ByteArray) (m : Nat) : List ByteArray := (List.range m).map fun k => formS x (k + 1)
theorem formL_length (x : ByteArray) (m : Nat) : (formL x m).length = m := by simp [formL]
theorem formL_succ (x : ByteArray) (m : Nat) : formL x (m + 1) = formL x m ++ [formS x (m + 1)] := by simp [formL, List.range_succ]
def fosL (x : ByteArray) : List ByteArray := if wordOk x then formL x x.size else []
def fosC (x : ByteArray) : Int := if wordOk x then 0 else 7
theorem formS_last (x : ByteArray) : formS x x.size = revS x := by unfold formS; rw [if_pos rfl]
theorem formS_mid (x : ByteArray) (k : Nat) (h : k ≠ x.size) : formS x k = revS (x.extract 0 k) ++ (⟨#[62]⟩ ++ x.extract k x.size) := by
  unfold formS; rw [if_neg h]; exact ba_ext (by simp only [appL, List.append_assoc])
theorem extract_all (x : ByteArray) : x.extract 0 x.size = x := ba_ext (by
  rw [extL, List.drop_zero, Nat.sub_zero, ← lenL x, List.take_length])
theorem Ext.grownNone {W W' : World} (h : Ext W W') : W.grownBy W' none := ⟨h.below.os, h.below.tape, h.below.output, h.size, fun k hk _ => h.below.block k hk⟩
theorem abides_ext {β : Type} {B : Nat} {J : β → World → Prop} (hJ : AbidesFrom B J) {s : β} {W W' : World} (h : J s W) (hx : Ext W W') : J s W' :=
  hJ s W W' none h hx.grownNone (fun r e => by cases e)
set_option maxRecDepth 100000 in
set_option maxHeartbeats 2000000 in
theorem forms1_in (n : Nat) (hn : 1 ≤ n) (l Bn n₀ B : Nat) (x : ByteArray) (hx : x.size ≤ 1048576) (hBn : Bn < n₀) (J Jx : List ByteArray → World → Prop) (hJ : AbidesFrom B J)
    (hY : ∀ pre s W, J pre W → pre.length < x.size → YieldAt Fence.wide (n - 1) Tryz.prog l #[.string s] W fun e W' =>
      (e = .returned (.bool true) ∧ J (pre ++ [s]) W' ∧ Below n₀ W W') ∨ (e = .returned (.bool false) ∧ Jx (pre ++ [s]) W'))
    (W : World) (hn₀ : n₀ ≤ W.heap.size) (hb : W.cell? ⟨Bn, 0, none⟩ = some (.string x)) (h0 : J [] W) :
    CallsIn Fence.wide n Tryz.prog 87 #[.func (.yield l) #[] #[], .pointer (some ⟨Bn, 0, none⟩)] W fun e W' => (∃ v, e = .returned v) ∧
      ((∃ ys, ys = formL x x.size ∧ J ys W') ∨ (∃ pre, Jx pre W')) := by
  have HFS := hid (formL_succ x)
  have HFM := hid (formS_mid x)
  have HFL := hid (formS_last x)
  have HAL := hid (extract_all x)
  have HLE := hid (formL_length x)
  have HRV : Hid (∀ k w', Calls Tryz.prog 36 #[.string (x.extract 0 k)] w' (Ret (.string (revS (x.extract 0 k))) w')) := hid (fun k w' => reversed_any _ _ (by rw [ByteArray.size_extract]; omega))
  have HY := hid hY
  have HJ := hid (fun (s : List ByteArray) (W W' : World) (h : J s W) (hx : Ext W W') => abides_ext hJ h hx)
  clear hY hJ
  refine callsIn_of_wp Tryz.func87 rfl trivial ?_ rfl
  simp only [Tryz.ntmps87, List.size_toArray, List.length_cons, List.length_nil, Nat.reduceAdd, Nat.reduceSub, Array.replicate_succ, Array.replicate_zero, List.push_toArray, List.append_toArray, List.nil_append, List.cons_append]
  gi_wp2
  gi_loopw [3] (fun i wr => ∃ k j : Nat, k + 1 = j ∧ k ≤ x.size ∧ i = .int .i64 (j : Int) ∧ wr.cell? ⟨Bn, 0, none⟩ = some (.string x) ∧ n₀ ≤ wr.heap.size ∧ Hid (J (formL x k) wr)) (fun i _ => x.size + 1 - (intOf i).toNat)
  case atStart => exact ⟨0, 1, rfl, by omega, rfl, hb, hn₀, hid h0⟩
  case round =>
    clear hb h0 hn₀
    obtain ⟨k, j, hkj, hk, rfl, hb, hn₀, hJs⟩ := hrel
    by_cases hlt : j ≤ x.size
    · have HR := hid (fun w' => HRV.out j w')
      have HL := hid (show (formL x k).length < x.size by rw [HLE.out]; omega)
      have HS := hid (HFS.out k)
      rw [hkj] at HS
      obtain ⟨R, hR⟩ : ∃ R, revS (x.extract 0 j) = R := ⟨_, rfl⟩
      have sR : R.size = j := by rw [← hR, revS_size, ByteArray.size_extract]; omega
      rw [hR] at HR
      obtain ⟨A, hA⟩ : ∃ A, x.extract 0 j = A := ⟨_, rfl⟩
      rw [hA] at HR
      have HRE := hid hR
      clear hR
      have hk1 : 1 ≤ n := hn
      by_cases he : j = x.size
      · have HR := hid (fun w' => reversed_any x w' hx)
        have HRx : Hid (revS x = R) := hid (by rw [← HRE.out, he, HAL.out])
        rw [HRx.out] at HR
        have HF : Hid (formS x j = R) := hid (by rw [he, HFL.out, HRx.out])
        rw [HF.out] at HS
        clear HRE hA
        gi_wp2
        refine And.intro ?_ ?_
        exact trivial
        gi_at_call 36
        refine (callsIn_wide.2 (HR.out _)).mono ?_
        rintro e w2 ⟨rfl, hx2⟩
        have hb2 := hx2.cell hb
        have hJ2 := hid (HJ.out _ _ _ hJs.out hx2)
        obtain ⟨fn, tmps, assign, body, hy, hRR⟩ := HY.out (formL x k) R w2 hJ2.out HL.out
        have hz2 := hx2.size
        gi_wp2
        refine hRR.mono ?_
        rintro e W3 (⟨rfl, hJ3, hk3⟩ | ⟨rfl, hJx3⟩)
        · have hb3 := (hk3.cell (p := ⟨Bn, 0, none⟩) hBn).trans hb2
          have hz3 := hk3.size
          have HJ3 := hid hJ3
          gi_wp2
          go_roundw
          case rel => exact ⟨k + 1, j + 1, by omega, by omega, by go_num, hb3, by omega, hid (by rw [hkj, HS.out]; exact HJ3.out)⟩
          case measure => simp [intOf]; omega
        · gi_wp2
          refine bodyPost_ret (results_none rfl _ _ _) rfl ?_
          exact ⟨⟨_, rfl⟩, .inr ⟨_, hJx3⟩⟩
      · have HF : Hid (formS x j = R ++ (⟨#[62]⟩ ++ x.extract j x.size)) := hid (by rw [HFM.out j he, HRE.out])
        obtain ⟨E, hE⟩ : ∃ E, x.extract j x.size = E := ⟨_, rfl⟩
        have sE : E.size ≤ 1048576 := by rw [← hE, ByteArray.size_extract]; omega
        rw [hE] at HF
        rw [HF.out] at HS
        have hnl : (j : Int) < (x.size : Int) := by omega
        have hle : (j : Int) ≤ (x.size : Int) := by omega
        gi_wp2
        refine And.intro ?_ ?_
        exact trivial
        gi_at_call 36
        refine (callsIn_wide.2 (HR.out _)).mono ?_
        rintro e w2 ⟨rfl, hx2⟩
        have hb2 := hx2.cell hb
        have hJ2 := hid (HJ.out _ _ _ hJs.out hx2)
        obtain ⟨fn, tmps, assign, body, hy, hRR⟩ := HY.out (formL x k) (R ++ (⟨#[62]⟩ ++ E)) w2 hJ2.out HL.out
        have hz2 := hx2.size
        gi_wp2
        refine hRR.mono ?_
        rintro e W3 (⟨rfl, hJ3, hk3⟩ | ⟨rfl, hJx3⟩)
        · have hb3 := (hk3.cell (p := ⟨Bn, 0, none⟩) hBn).trans hb2
          have hz3 := hk3.size
          have HJ3 := hid hJ3
          gi_wp2
          go_roundw
          case rel => exact ⟨k + 1, j + 1, by omega, by omega, by go_num, hb3, by omega, hid (by rw [hkj, HS.out]; exact HJ3.out)⟩
          case measure => simp [intOf]; omega
        · gi_wp2
          refine bodyPost_ret (results_none rfl _ _ _) rfl ?_
          exact ⟨⟨_, rfl⟩, .inr ⟨_, hJx3⟩⟩
    · obtain rfl : k = x.size := by omega
      gi_wp2
      go_end0
      exact ⟨⟨_, rfl⟩, .inl ⟨_, rfl, hJs.out⟩⟩
theorem formsSeq (n : Nat) (hn : 1 ≤ n) (Bn n₀ : Nat) (x : ByteArray) (hx : x.size ≤ 1048576) (hBn : Bn < n₀) (w : World) (hn₀ : n₀ ≤ w.heap.size) (hb : w.cell? ⟨Bn, 0, none⟩ = some (.string x)) :
    SeqStopsK Fence.wide n Tryz.prog 87 #[.pointer (some ⟨Bn, 0, none⟩)] (fun s : ByteArray => #[Value.string s]) (Below n₀) (fun ys => ys = formL x x.size) (fun _ => True) x.size w := fun l J Jx W hW hJ _ hY h0 =>
  (forms1_in n hn l Bn n₀ _ x hx hBn J Jx hJ hY W (Nat.le_trans hn₀ hW.size) ((hW.cell (p := ⟨Bn, 0, none⟩) (by show Bn < w.heap.size; omega)).trans hb) h0).mono fun e W' ⟨h1, h2⟩ => ⟨h1, h2.imp id fun ⟨pre, h⟩ => ⟨pre, trivial, h⟩⟩
theorem forms_any (x : ByteArray) (w : World) : Calls Tryz.prog 62 #[.string x] w fun e w' => e = .returned (.func (.func 87) #[] #[.pointer (some ⟨w.heap.size, 0, none⟩)]) ∧ w' = w.alloc (.cells #[.string x] 9) := by
  go_enter Tryz.func62, Tryz.ntmps62
  go_wp2_with fail
  go_returns
  exact ⟨rfl, rfl⟩
end Go.Proofs.YtabljchbchjjcaaGreatDoor
