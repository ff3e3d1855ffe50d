/- Boards: standard ones. Conditions stand at each. -/
import Derived.Test.YtmohfdfjlgekaaaGreatDoorCh11j
namespace Go.Proofs.YtmohfdfjlgekaaaGreatDoor
set_option linter.unusedVariables false
set_option linter.unusedSimpArgs false
open Go Go.RowKit

def stdCol (n r k : Nat) : List UInt8 := (List.range k).map fun (c : Nat) => stdP n r c
def stdL (n r : Nat) : List UInt8 := (List.range r).flatMap fun r => stdCol n r n
theorem stdCol_succ (n r k : Nat) : stdCol n r (k + 1) = stdCol n r k ++ [stdP n r k] := by simp [stdCol, List.range_succ]
theorem stdL_succ (n r : Nat) : stdL n (r + 1) = stdL n r ++ stdCol n r n := by simp [stdL, List.range_succ]
theorem stdCol_length (n r k : Nat) : (stdCol n r k).length = k := by simp [stdCol]
theorem stdL_length (n r : Nat) : (stdL n r).length = r * n := by
  induction r with
  | zero => simp [stdL]
  | succ r ih => rw [stdL_succ, List.length_append, ih, stdCol_length, Nat.add_mul, Nat.one_mul]
def stdS (n : Nat) : ByteArray := ⟨(stdL n n).toArray⟩
def standardV (n : Int) : Value := if inB n 5 15 then .tuple #[boardV n (stdS n.toNat) (freeS (n * n).toNat), .int .i64 0] else .tuple #[boardV 0 noS noS, .int .i64 2]

set_option maxRecDepth 100000 in
set_option maxHeartbeats 1000000 in
theorem sStandardBoard_any (n : Int) (w : World) : Calls Tryz.prog 91 #[.int .i64 n] w (Ret (standardV n) w) := by
  have HR : Hid (standardV n = if inB n 5 15 then .tuple #[boardV n (stdS n.toNat) (freeS (n * n).toNat), .int .i64 0] else .tuple #[boardV 0 noS noS, .int .i64 2]) := hid rfl
  go_enter Tryz.func91, Tryz.ntmps91
  go_wp2_with fail
  refine (l11Size_any _ _).mono ?_
  rintro e w1 ⟨rfl, hz⟩
  subst hz
  cases hin : inB n 5 15
  · go_wp2_with fail
    go_returns
    exact ⟨by rw [HR.out, hin]; rfl, (Ext.refl w).alloc _⟩
  · obtain ⟨i1, i2⟩ := inB_true hin
    obtain ⟨n, rfl⟩ := nat_of i1
    have HI := hid hin
    clear hin
    have hn2 : n * n ≤ 15 * 15 := Nat.mul_le_mul (by omega) (by omega)
    obtain ⟨q, hq⟩ : ∃ q : Nat, n * n = q := ⟨_, rfl⟩
    have zq : (n : Int) * n = (q : Int) := by rw [← hq]; simp
    rw [zq] at HR
    have HN := hid hq
    rw [hq] at hn2
    clear hq
    have HL : Hid (∀ w, Calls Tryz.prog 66 #[.int .u8 46, .int .i64 q] w (Ret (.string (freeS q)) w)) := hid (fun w => l02Repeat_any 46 q w (by omega))
    go_wp2_with fail
    go_loopw [4, 5] (fun v i wr => ∃ (c cap : Nat) (a : Option Addr), c ≤ n ∧ i = .int .i64 c ∧ v = .slice a (c * n) cap ∧ Own wr (w.heap.size + 2) 5 1 a (c * n) cap (bytesV (stdL n c)) ∧ Ext ((w.alloc (.cells #[.int .i64 0, .string ⟨#[]⟩, .string ⟨#[]⟩] 25)).alloc (.cells #[] 5)) wr) (fun _ i _ => n - (intOf i).toNat)
    case atStart => exact ⟨0, 0, some ⟨w.heap.size + 1, 0, none⟩, by omega, rfl, by simp, by simpa [stdL, bytesV] using Own.empty _ _ _ _ _, Ext.refl _⟩
    case round =>
      obtain ⟨c, cap, a, hc, rfl, rfl, hown, hext⟩ := hrel
      have hsz := hext.size
      simp only [World.size_alloc] at hsz
      by_cases hlt : c < n
      · go_wp2_with fail
        go_loopw [4, 6] (fun v i wr => ∃ (k cap : Nat) (a : Option Addr), k ≤ n ∧ i = .int .i64 k ∧ v = .slice a (c * n + k) cap ∧ Own wr (w.heap.size + 2) 5 1 a (c * n + k) cap (bytesV (stdL n c ++ stdCol n c k)) ∧ Ext ((w.alloc (.cells #[.int .i64 0, .string ⟨#[]⟩, .string ⟨#[]⟩] 25)).alloc (.cells #[] 5)) wr) (fun _ i _ => n - (intOf i).toNat)
        case atStart => exact ⟨0, cap, a, by omega, rfl, rfl, by simpa [stdCol] using hown, hext⟩
        case round =>
          clear hown hext hsz
          obtain ⟨k, cap, a, hk, rfl, rfl, hown, hext⟩ := hrel
          have hsz := hext.size
          simp only [World.size_alloc] at hsz
          by_cases hlk : k < n
          · have hcn : c * n ≤ n * n := Nat.mul_le_mul_right n hc
            rw [HN.out] at hcn
            go_wp2_with fail
            refine (l11Standard_any n c k _ (by omega) (by omega) (by omega) (by omega) (by omega) (by omega)).mono ?_
            rintro e w2 ⟨rfl, hz⟩
            subst hz
            go_wp2_with (at_builtin; refine wpList_push rfl _ _ 22 rfl El_u8 rfl [_] rfl rfl (by simp [Value.oneCell']) hown (by omega) (by unfold maxLen; omega) (by omega) ?_; intro a' c' w' hown' hb')
            refine ⟨⟨k + 1, c', a', by omega, by go_num, rfl, ?_, hext.thenBelow hb' (by simp)⟩, by simp [intOf]; omega⟩
            rw [stdCol_succ, ← List.append_assoc, bytesV_append _ [_]]
            exact hown'
          · obtain rfl : k = n := by omega
            go_wp2_with fail
            refine ⟨⟨c + 1, cap, a, by omega, by go_num, by rw [Nat.add_mul, Nat.one_mul], ?_, hext⟩, by simp [intOf]; omega⟩
            rw [stdL_succ, Nat.add_mul, Nat.one_mul]
            exact hown
      · obtain rfl : c = n := by omega
        rw [HN.out] at hown
        have HO := hid hown
        clear hown
        rw [HN.out]
        have q5 : IntKind.i64.wrap (q : Int) = q := IntWalk.i64_in _ (by omega)
        go_wp2_with fail
        refine wp_region_flow_at (C := Ext) 8 [fun v _ => v = .int .i64 (c : Int), fun v _ => v = .slice a q cap, fun v _ => v = .string (stdS c), fun v _ => v = .int .i64 (c : Int), fun v _ => v = .int .i64 (c : Int), fun v _ => v = .int .i64 (q : Int), fun v _ => v = .string (freeS q), fun v _ => v = .agg #[.int .i64 (c : Int), .string (stdS c), .string (freeS q)]]
          [[(0, none)], [(4, none)], [(30, some 1)], [(0, none)], [(0, none)], [(32, some 3), (33, some 4)], [(34, some 5)], [(29, some 0), (31, some 2), (35, some 6)]] (by kernel_rfl) (by kernel_rfl) Ext.refl (fun _ _ _ => Ext.trans) ?_ ?_ ?_
        · intro F hF
          simp only [List.mem_cons, List.not_mem_nil, or_false] at hF
          rcases hF with rfl | rfl | rfl | rfl | rfl | rfl | rfl | rfl <;> exact fun _ _ _ h _ => h
        · refine ⟨?_, ?_, ?_, ?_, ?_, ?_, ?_, ?_, trivial⟩
          · rintro ρ w1 hw hcst hfn hk
            clear hw
            simp only [known, List.getD_cons_zero, List.getD_cons_succ, Nat.reduceAdd] at hk
            simp only [List.getD_cons_zero, List.getD_cons_succ, Nat.reduceAdd, flowAt]
            go_simp
            exact ⟨Ext.refl _, by first | rfl | trivial⟩
          · rintro ρ w1 hw hcst hfn hk
            clear hw
            simp only [known, List.getD_cons_zero, List.getD_cons_succ, Nat.reduceAdd] at hk
            simp only [List.getD_cons_zero, List.getD_cons_succ, Nat.reduceAdd, flowAt]
            go_simp
            exact ⟨Ext.refl _, by first | rfl | trivial⟩
          · rintro ρ w1 hw hcst hfn hk
            simp only [known, List.getD_cons_zero, List.getD_cons_succ, Nat.reduceAdd] at hk
            simp only [List.getD_cons_zero, List.getD_cons_succ, Nat.reduceAdd]
            exact flow_str (src := 22) (dst := 9) (e := 5) rfl Tryz.underlying22 Tryz.underlying5 Tryz.underlying9 hk.1 ((stdL_length _ _).trans HN.out).symm (HO.out.ext (Ext.drew (Ext.refl _) |>.trans hw)).rd
          · rintro ρ w1 hw hcst hfn hk
            clear hw
            simp only [known, List.getD_cons_zero, List.getD_cons_succ, Nat.reduceAdd] at hk
            simp only [List.getD_cons_zero, List.getD_cons_succ, Nat.reduceAdd, flowAt]
            go_simp
            exact ⟨Ext.refl _, by first | rfl | trivial⟩
          · rintro ρ w1 hw hcst hfn hk
            clear hw
            simp only [known, List.getD_cons_zero, List.getD_cons_succ, Nat.reduceAdd] at hk
            simp only [List.getD_cons_zero, List.getD_cons_succ, Nat.reduceAdd, flowAt]
            go_simp
            exact ⟨Ext.refl _, by first | rfl | trivial⟩
          · rintro ρ w1 hw hcst hfn hk
            clear hw
            simp only [known, List.getD_cons_zero, List.getD_cons_succ, Nat.reduceAdd] at hk
            simp only [List.getD_cons_zero, List.getD_cons_succ, Nat.reduceAdd, flowAt]
            go_simp
            exact ⟨Ext.refl _, by first | rfl | trivial⟩
          · rintro ρ w1 hw hcst hfn hk
            simp only [known, List.getD_cons_zero, List.getD_cons_succ, Nat.reduceAdd] at hk
            simp only [List.getD_cons_zero, List.getD_cons_succ, Nat.reduceAdd, flowAt]
            go_simp
            exact flow_ret (HL.out _)
          · rintro ρ w1 hw hcst hfn hk
            clear hw
            simp only [known, List.getD_cons_zero, List.getD_cons_succ, Nat.reduceAdd] at hk
            simp only [List.getD_cons_zero, List.getD_cons_succ, Nat.reduceAdd, flowAt]
            go_simp
            exact ⟨Ext.refl _, by first | rfl | trivial⟩
        intro vs w1 hw hf
        simp only [flowFacts, Nat.reduceAdd] at hf
        obtain ⟨e0, e1, e2, e3, e4, e5, e6, e7, -⟩ := hf
        simp only [List.take_succ_cons, List.take_zero, List.drop_succ_cons, List.drop_zero, putAll, Act.put, Nat.reduceAdd, List.setIfInBounds_toArray, List.set_cons_zero, List.set_cons_succ, e0, e1, e2, e3, e4, e5, e6, e7]
        clear e0 e1 e2 e3 e4 e5 e6 e7
        have hx := hext.trans ((Ext.drew (Ext.refl _)).trans hw)
        have r0 := hx.cell (b := w.heap.size) (o := 0) (v := .int .i64 0) (by simp)
        have r1 := hx.cell (b := w.heap.size) (o := 1) (v := .string ⟨#[]⟩) (by simp)
        have r2 := hx.cell (b := w.heap.size) (o := 2) (v := .string ⟨#[]⟩) (by simp)
        have rf : ∀ j, w1.frozen? ⟨w.heap.size, j, none⟩ = false := fun j => by rw [hx.cells.2 _ _ (by simp; omega)]; simp
        have hE : Ext w w1 := (((Ext.refl w).alloc _).alloc _).trans hx
        clear hx hw hext
        go_wp2_with fail
        refine bodyPost_ret (v := .tuple #[boardV c (stdS c) (freeS q), .int .i64 0]) (by simp [results, Tryz.results91, go_sem, r0, r1, r2, rf, boardV]) rfl ⟨by rw [HR.out, HI.out]; rfl, ((hE.setCell (by simp) _).setCell (by simp) _).setCell (by simp) _⟩
end Go.Proofs.YtmohfdfjlgekaaaGreatDoor
