/- Words sorted by the reference; the forms of all words. Conditions: at most 2^20 words. -/
import Derived.Test.YtabljchbchjjcaaGreatDoorMg12
import Derived.Test.YtabljchbchjjcaaGreatDoorMg16
import Derived.Test.YtabljchbchjjcaaGreatDoorApp0
namespace Go.Proofs.YtabljchbchjjcaaGreatDoor
set_option linter.unusedVariables false
set_option linter.unusedSimpArgs false
open Go Go.RowKit Go.Sort
theorem leq_le (s t : ByteArray) : (Op.bytesLess s.toList t.toList || s.toList == t.toList) = leW s t := by
  rw [Go.Proofs.bytesLess_eq, Lib.toList_data, Lib.toList_data]
  unfold leW leB
  rw [Bool.eq_iff_iff]
  simp [List.le_iff_lt_or_eq]
/-- A list that can be read comes back. -/
def RetRd (L : List ByteArray) (w : World) (e : Ending) (w' : World) : Prop := ∃ a c, e = .returned (.slice a L.length c) ∧ L.length ≤ c ∧ Rd w' a (strsV L) ∧ Ext w w'
def SortC (n : Nat) : Prop := ∀ (l : List ByteArray) (a : Option Addr) (c : Nat) (w : World), l.length = n → l.length ≤ 1048576 → l.length ≤ c → Rd w a (strsV l) → Calls Tryz.prog 32 #[.slice a l.length c] w (RetRd (sortW l) w)
set_option maxRecDepth 100000 in
set_option maxHeartbeats 4000000 in
theorem l09Sort_long (l : List ByteArray) (ih : ∀ m, m < l.length → SortC m) (a : Option Addr) (c : Nat) (w : World) (hn : 2 ≤ l.length) (hl : l.length ≤ 1048576) (hc : l.length ≤ c) (h : Rd w a (strsV l)) :
    Calls Tryz.prog 32 #[.slice a l.length c] w (RetRd (sortW l) w) := by
  obtain ⟨b, o, rfl, hcells⟩ := h.word (by omega)
  obtain ⟨k0, hk0⟩ : ∃ k, l.length / 2 = k := ⟨_, rfl⟩
  have hk1 : 0 < k0 := by omega
  have hk2 : k0 < l.length := by omega
  have lt1 : (l.take k0).length = k0 := by rw [List.length_take]; omega
  have lt2 : (l.drop k0).length = l.length - k0 := List.length_drop
  have H1 := hid (fun (w' : World) (k : Ext w w') => ih k0 hk2 (l.take k0) (some ⟨b, o, none⟩) c w' lt1 (by omega) (by omega) ((h.take k0).ext k))
  have H2 := hid (fun (w' : World) (k : Ext w w') => ih (l.length - k0) (by omega) (l.drop k0) (some ⟨b, o + k0, none⟩) (c - k0) w' lt2 (by omega) (by omega) ((h.drop k0).ext k))
  rw [lt1] at H1
  rw [lt2] at H2
  have HS := hid (restM_all (l.take k0) (l.drop k0))
  rw [List.take_append_drop] at HS
  have la : (sortW (l.take k0)).length = k0 := by rw [sortW_length, lt1]
  have lb : (sortW (l.drop k0)).length = l.length - k0 := by rw [sortW_length, lt2]
  obtain ⟨A, hA⟩ : ∃ A, sortW (l.take k0) = A := ⟨_, rfl⟩
  obtain ⟨C, hC⟩ : ∃ C, sortW (l.drop k0) = C := ⟨_, rfl⟩
  obtain ⟨M, hM⟩ : ∃ M, sortW l = M := ⟨_, rfl⟩
  rw [hA] at la H1 HS
  rw [hC] at lb H2 HS
  rw [hM] at HS ⊢
  have hq : Int.tdiv (l.length : Int) 2 = (k0 : Int) := by rw [Int.tdiv_eq_ediv_of_nonneg (by omega)]; omega
  have hML : M.length = l.length := by rw [← hM, sortW_length]
  have HK := hid hk0
  have LA := hid la
  have LB := hid lb
  have LM := hid hML
  have hA1 : 0 < A.length := by omega
  have hC1 : 0 < C.length := by omega
  have hAC : A.length + C.length ≤ 1048576 := by omega
  have H1' : Hid (∀ (w' : World), Ext w w' → Calls Tryz.prog 32 #[.slice (some ⟨b, o, none⟩) k0 c] w' (RetRd A w')) := H1
  clear h hcells ih hA hC hM hk0 lt1 lt2 la lb hML
  go_enter Tryz.func32, Tryz.ntmps32
  go_wp2_with fail
  refine (H1.out _ (Ext.refl _)).mono ?_
  rintro e w1 ⟨a1, c1, rfl, hc1, hr1, hx1⟩
  have hx1h := hid hx1
  have R1' := hid hr1
  clear hr1 hx1
  go_wp2_with fail
  refine (H2.out _ hx1h.out).mono ?_
  rintro e w2 ⟨a2, c2, rfl, hc2, hr2, hx2⟩
  have R1 := hid (R1'.out.ext hx2)
  have R2 := hid hr2
  have hE := hid (hx1h.out.trans hx2)
  obtain ⟨b1, o1, rfl, -⟩ := R1.out.word (by omega)
  obtain ⟨b2, o2, rfl, -⟩ := R2.out.word (by omega)
  clear hr2 hx2 hx1h R1' H1 H2
  go_wp2_with fail
  go_loopw [6, 7, 8] (fun v6 v7 v8 wr => ∃ (i k : Nat) (out : List ByteArray) (ao : Option Addr) (co : Nat), v6 = .slice ao out.length co ∧ v7 = .int .i64 (i : Int) ∧ v8 = .int .i64 (k : Int) ∧ i ≤ A.length ∧ k ≤ C.length ∧ out.length = i + k ∧ Hid (Own wr w2.heap.size 9 1 ao out.length co (strsV out)) ∧ Hid (out ++ restM A C i k = M) ∧ Ext w2 wr) (fun _ _ v8 _ => C.length - (intOf v8).toNat)
  case atStart => exact ⟨0, 0, [], some ⟨w2.heap.size, 0, none⟩, 0, rfl, rfl, rfl, by omega, by omega, rfl, hid (Own.empty _ _ _ _ _), hid (by rw [List.nil_append]; exact HS.out), (Ext.refl _).alloc _⟩
  case round =>
    obtain ⟨i, k, out, ao, co, rfl, rfl, rfl, hi, hk, hol, HO, HR, hx⟩ := hrel
    have HOL := hid hol
    have hob : out.length ≤ 1048576 := by omega
    clear hol
    by_cases hkl : k < C.length
    · go_wp2_with fail
      go_loopw [6, 7] (fun v6 v7 wr => ∃ (i : Nat) (out : List ByteArray) (ao : Option Addr) (co : Nat), v6 = .slice ao out.length co ∧ v7 = .int .i64 (i : Int) ∧ i ≤ A.length ∧ out.length = i + k ∧ Hid (Own wr w2.heap.size 9 1 ao out.length co (strsV out)) ∧ Hid (out ++ restM A C i k = M) ∧ Ext w2 wr) (fun _ v7 _ => A.length - (intOf v7).toNat)
      case atStart => exact ⟨i, out, ao, co, rfl, rfl, hi, HOL.out, HO, HR, hx⟩
      case round =>
        clear HO HR hx HOL hob hi
        obtain ⟨i, out, ao, co, rfl, rfl, hi, hol, HO, HR, hx⟩ := hrel
        have HOL := hid hol
        have hob : out.length ≤ 1048576 := by omega
        clear hol
        have hd2 : wr.cell? ⟨b2, o2 + k, none⟩ = some (.string (wAt C k)) := by
          obtain ⟨b9, o9, e9, hcl⟩ := (R2.out.ext hx).word (by omega)
          simp only [Option.some.injEq, Addr.mk.injEq, and_true] at e9
          obtain ⟨rfl, rfl⟩ := e9
          exact hcl k hkl
        have hxs := hx.size
        by_cases hil : i < A.length
        · have hd1 : wr.cell? ⟨b1, o1 + i, none⟩ = some (.string (wAt A i)) := by
            obtain ⟨b9, o9, e9, hcl⟩ := (R1.out.ext hx).word (by omega)
            simp only [Option.some.injEq, Addr.mk.injEq, and_true] at e9
            obtain ⟨rfl, rfl⟩ := e9
            exact hcl i hil
          by_cases hle : leW (wAt A i) (wAt C k) = true
          · have hst := restM_a hil hkl hle
            obtain ⟨s, hs⟩ : ∃ s, wAt A i = s := ⟨_, rfl⟩
            obtain ⟨t, ht⟩ : ∃ t, wAt C k = t := ⟨_, rfl⟩
            rw [hs] at hd1 hle hst
            rw [ht] at hd2 hle
            obtain ⟨p, hp⟩ : ∃ p, o1 + i = p := ⟨_, rfl⟩
            obtain ⟨q, hqq⟩ : ∃ q, o2 + k = q := ⟨_, rfl⟩
            rw [hp] at hd1
            rw [hqq] at hd2
            have HST := hid hst
            have HLE := hid hle
            clear hs ht hst hle
            go_wp2_with fail
            refine wp_region_flow_at (C := Ext) 15 [fun v _ => v = .int .i64 (i : Int), fun v _ => v = .slice (some ⟨b1, o1, none⟩) A.length c1, fun v _ => v = .int .i64 (A.length : Int), fun v _ => v = .bool true, fun v _ => v = .bool true, fun v _ => v = .slice (some ⟨b1, o1, none⟩) A.length c1, fun v _ => v = .int .i64 (i : Int), fun v _ => v = .pointer (some ⟨b1, p, none⟩), fun v _ => v = .string s, fun v _ => v = .slice (some ⟨b2, o2, none⟩) C.length c2, fun v _ => v = .int .i64 (k : Int), fun v _ => v = .pointer (some ⟨b2, q, none⟩), fun v _ => v = .string t, fun v _ => v = .bool true, fun v _ => v = .bool true]
              [[(7, none)], [(4, none)], [(32, some 1)], [(31, some 0), (33, some 2)], [(34, some 3)], [(4, none)], [(7, none)], [(36, some 5), (37, some 6)], [(38, some 7)], [(5, none)], [(8, none)], [(40, some 9), (41, some 10)], [(42, some 11)], [(39, some 8), (43, some 12)], [(35, some 4), (44, some 13)]] (by kernel_rfl) (by kernel_rfl) Ext.refl (fun _ _ _ => Ext.trans) ?_ ?_ ?_
            · intro F hF
              simp only [List.mem_cons, List.not_mem_nil, or_false] at hF
              rcases hF with rfl | rfl | rfl | rfl | rfl | rfl | rfl | rfl | rfl | rfl | rfl | rfl | rfl | rfl | rfl <;> exact fun _ _ _ h _ => h
            · refine ⟨?_, ?_, ?_, ?_, ?_, ?_, ?_, ?_, ?_, ?_, ?_, ?_, ?_, ?_, ?_, trivial⟩
              · rintro ρ w1 hw hcst hfn hk
                clear hw
                simp only [known, List.getD_cons_zero, List.getD_cons_succ, Nat.reduceAdd] at hk
                simp only [List.getD_cons_zero, List.getD_cons_succ, Nat.reduceAdd, flowAt]
                go_simp
                exact ⟨Ext.refl _, by first | rfl | trivial⟩
              · rintro ρ w1 hw hcst hfn hk
                clear hw
                simp only [known, List.getD_cons_zero, List.getD_cons_succ, Nat.reduceAdd] at hk
                simp only [List.getD_cons_zero, List.getD_cons_succ, Nat.reduceAdd, flowAt]
                go_simp
                exact ⟨Ext.refl _, by first | rfl | trivial⟩
              · rintro ρ w1 hw hcst hfn hk
                clear hw
                simp only [known, List.getD_cons_zero, List.getD_cons_succ, Nat.reduceAdd] at hk
                simp only [List.getD_cons_zero, List.getD_cons_succ, Nat.reduceAdd, flowAt]
                go_simp
                exact ⟨Ext.refl _, by first | rfl | trivial⟩
              · rintro ρ w1 hw hcst hfn hk
                simp only [known, List.getD_cons_zero, List.getD_cons_succ, Nat.reduceAdd] at hk
                simp only [List.getD_cons_zero, List.getD_cons_succ, Nat.reduceAdd, flowAt]
                go_simp
                exact ⟨Ext.refl _, by first | (simp; done) | (simp; omega)⟩
              · rintro ρ w1 hw hcst hfn hk
                clear hw
                simp only [known, List.getD_cons_zero, List.getD_cons_succ, Nat.reduceAdd] at hk
                simp only [List.getD_cons_zero, List.getD_cons_succ, Nat.reduceAdd, flowAt]
                go_simp
                exact ⟨Ext.refl _, by first | rfl | trivial⟩
              · rintro ρ w1 hw hcst hfn hk
                clear hw
                simp only [known, List.getD_cons_zero, List.getD_cons_succ, Nat.reduceAdd] at hk
                simp only [List.getD_cons_zero, List.getD_cons_succ, Nat.reduceAdd, flowAt]
                rintro vg rfl
                refine ⟨fun hg => ?_, fun hg => ?_⟩ <;> simp at hg
                go_simp
                exact ⟨Ext.refl _, by first | rfl | trivial⟩
              · rintro ρ w1 hw hcst hfn hk
                clear hw
                simp only [known, List.getD_cons_zero, List.getD_cons_succ, Nat.reduceAdd] at hk
                simp only [List.getD_cons_zero, List.getD_cons_succ, Nat.reduceAdd, flowAt]
                rintro vg rfl
                refine ⟨fun hg => ?_, fun hg => ?_⟩ <;> simp at hg
                go_simp
                exact ⟨Ext.refl _, by first | rfl | trivial⟩
              · rintro ρ w1 hw hcst hfn hk
                simp only [known, List.getD_cons_zero, List.getD_cons_succ, Nat.reduceAdd] at hk
                simp only [List.getD_cons_zero, List.getD_cons_succ, Nat.reduceAdd, flowAt]
                rintro vg rfl
                refine ⟨fun hg => ?_, fun hg => ?_⟩ <;> simp at hg
                go_simp
                exact ⟨Ext.refl _, by first | rfl | rw [hp]⟩
              · rintro ρ w1 hw hcst hfn hk
                have c0 := hw.cell (b := b1) (o := p) (v := .string s) (by first | (simp [*]; done) | (simp [*, go_sem]; done) | go_cell)
                clear hw
                simp only [known, List.getD_cons_zero, List.getD_cons_succ, Nat.reduceAdd] at hk
                simp only [List.getD_cons_zero, List.getD_cons_succ, Nat.reduceAdd, flowAt]
                rintro vg rfl
                refine ⟨fun hg => ?_, fun hg => ?_⟩ <;> simp at hg
                go_simp
                exact ⟨Ext.refl _, by first | rfl | trivial⟩
              · rintro ρ w1 hw hcst hfn hk
                clear hw
                simp only [known, List.getD_cons_zero, List.getD_cons_succ, Nat.reduceAdd] at hk
                simp only [List.getD_cons_zero, List.getD_cons_succ, Nat.reduceAdd, flowAt]
                rintro vg rfl
                refine ⟨fun hg => ?_, fun hg => ?_⟩ <;> simp at hg
                go_simp
                exact ⟨Ext.refl _, by first | rfl | trivial⟩
              · rintro ρ w1 hw hcst hfn hk
                clear hw
                simp only [known, List.getD_cons_zero, List.getD_cons_succ, Nat.reduceAdd] at hk
                simp only [List.getD_cons_zero, List.getD_cons_succ, Nat.reduceAdd, flowAt]
                rintro vg rfl
                refine ⟨fun hg => ?_, fun hg => ?_⟩ <;> simp at hg
                go_simp
                exact ⟨Ext.refl _, by first | rfl | trivial⟩
              · rintro ρ w1 hw hcst hfn hk
                simp only [known, List.getD_cons_zero, List.getD_cons_succ, Nat.reduceAdd] at hk
                simp only [List.getD_cons_zero, List.getD_cons_succ, Nat.reduceAdd, flowAt]
                rintro vg rfl
                refine ⟨fun hg => ?_, fun hg => ?_⟩ <;> simp at hg
                go_simp
                exact ⟨Ext.refl _, by first | rfl | rw [hqq]⟩
              · rintro ρ w1 hw hcst hfn hk
                have c0 := hw.cell (b := b2) (o := q) (v := .string t) (by first | (simp [*]; done) | (simp [*, go_sem]; done) | go_cell)
                clear hw
                simp only [known, List.getD_cons_zero, List.getD_cons_succ, Nat.reduceAdd] at hk
                simp only [List.getD_cons_zero, List.getD_cons_succ, Nat.reduceAdd, flowAt]
                rintro vg rfl
                refine ⟨fun hg => ?_, fun hg => ?_⟩ <;> simp at hg
                go_simp
                exact ⟨Ext.refl _, by first | rfl | trivial⟩
              · rintro ρ w1 hw hcst hfn hk
                simp only [known, List.getD_cons_zero, List.getD_cons_succ, Nat.reduceAdd] at hk
                simp only [List.getD_cons_zero, List.getD_cons_succ, Nat.reduceAdd, flowAt]
                rintro vg rfl
                refine ⟨fun hg => ?_, fun hg => ?_⟩ <;> simp at hg
                go_simp
                exact ⟨Ext.refl _, by first | (rw [leq_le, HLE.out]) | (show Value.bool _ = Value.bool true; rw [leq_le, HLE.out])⟩
              · rintro ρ w1 hw hcst hfn hk
                clear hw
                simp only [known, List.getD_cons_zero, List.getD_cons_succ, Nat.reduceAdd] at hk
                simp only [List.getD_cons_zero, List.getD_cons_succ, Nat.reduceAdd, flowAt]
                go_simp
                exact ⟨Ext.refl _, by first | rfl | trivial⟩
            intro vs w1 hw hf
            simp only [flowFacts, Nat.reduceAdd] at hf
            obtain ⟨e0, e1, e2, e3, e4, e5, e6, e7, e8, e9, e10, e11, e12, e13, e14, -⟩ := hf
            simp only [List.take_succ_cons, List.take_zero, List.drop_succ_cons, List.drop_zero, putAll, Act.put, Nat.reduceAdd, List.setIfInBounds_toArray, List.set_cons_zero, List.set_cons_succ, e0, e1, e2, e3, e4, e5, e6, e7, e8, e9, e10, e11, e12, e13, e14]
            clear e0 e1 e2 e3 e4 e5 e6 e7 e8 e9 e10 e11 e12 e13 e14
            have hx1 := (Ext.refl _).drew.trans hw
            have HO1 := hid (HO.out.ext hx1)
            replace hd1 := hx1.cell hd1
            have hz1 := hx1.size
            replace hx := hx.trans hx1
            clear hx1 hw hd2 HO
            go_wp2_with (at_builtin; refine wpList_push rfl _ _ 24 rfl El_str rfl [_] rfl rfl (by simp [Value.oneCell']) HO1.out (by omega) (by unfold maxLen; omega) (by omega) ?_; intro a8 c8 w8 hown8 hb8; have HO8 := hid hown8; have HB8 := hid hb8; clear hown8 hb8)
            go_roundw
            case rel => exact ⟨i + 1, out ++ [s], a8, c8, by rw [List.length_append]; rfl, by go_num, by omega, by have := HOL.out; rw [List.length_append]; simp; omega, hid (by rw [List.length_append, strsV_append]; exact HO8.out), hid (by rw [List.append_assoc, List.singleton_append, ← HST.out]; exact HR.out), hx.thenBelow HB8.out (by omega)⟩
            case measure => simp [intOf]; omega
          · have hle' : leW (wAt A i) (wAt C k) = false := by simpa using hle
            have hst := restM_b hkl (fun _ => hle')
            obtain ⟨s, hs⟩ : ∃ s, wAt A i = s := ⟨_, rfl⟩
            obtain ⟨t, ht⟩ : ∃ t, wAt C k = t := ⟨_, rfl⟩
            rw [hs] at hd1 hle'
            rw [ht] at hd2 hle' hst
            obtain ⟨p, hp⟩ : ∃ p, o1 + i = p := ⟨_, rfl⟩
            obtain ⟨q, hqq⟩ : ∃ q, o2 + k = q := ⟨_, rfl⟩
            rw [hp] at hd1
            rw [hqq] at hd2
            have HST := hid hst
            have HLE := hid hle'
            clear hs ht hst hle hle'
            go_wp2_with fail
            refine wp_region_flow_at (C := Ext) 15 [fun v _ => v = .int .i64 (i : Int), fun v _ => v = .slice (some ⟨b1, o1, none⟩) A.length c1, fun v _ => v = .int .i64 (A.length : Int), fun v _ => v = .bool true, fun v _ => v = .bool true, fun v _ => v = .slice (some ⟨b1, o1, none⟩) A.length c1, fun v _ => v = .int .i64 (i : Int), fun v _ => v = .pointer (some ⟨b1, p, none⟩), fun v _ => v = .string s, fun v _ => v = .slice (some ⟨b2, o2, none⟩) C.length c2, fun v _ => v = .int .i64 (k : Int), fun v _ => v = .pointer (some ⟨b2, q, none⟩), fun v _ => v = .string t, fun v _ => v = .bool false, fun v _ => v = .bool false]
              [[(7, none)], [(4, none)], [(32, some 1)], [(31, some 0), (33, some 2)], [(34, some 3)], [(4, none)], [(7, none)], [(36, some 5), (37, some 6)], [(38, some 7)], [(5, none)], [(8, none)], [(40, some 9), (41, some 10)], [(42, some 11)], [(39, some 8), (43, some 12)], [(35, some 4), (44, some 13)]] (by kernel_rfl) (by kernel_rfl) Ext.refl (fun _ _ _ => Ext.trans) ?_ ?_ ?_
            · intro F hF
              simp only [List.mem_cons, List.not_mem_nil, or_false] at hF
              rcases hF with rfl | rfl | rfl | rfl | rfl | rfl | rfl | rfl | rfl | rfl | rfl | rfl | rfl | rfl | rfl <;> exact fun _ _ _ h _ => h
            · refine ⟨?_, ?_, ?_, ?_, ?_, ?_, ?_, ?_, ?_, ?_, ?_, ?_, ?_, ?_, ?_, trivial⟩
              · rintro ρ w1 hw hcst hfn hk
                clear hw
                simp only [known, List.getD_cons_zero, List.getD_cons_succ, Nat.reduceAdd] at hk
                simp only [List.getD_cons_zero, List.getD_cons_succ, Nat.reduceAdd, flowAt]
                go_simp
                exact ⟨Ext.refl _, by first | rfl | trivial⟩
              · rintro ρ w1 hw hcst hfn hk
                clear hw
                simp only [known, List.getD_cons_zero, List.getD_cons_succ, Nat.reduceAdd] at hk
                simp only [List.getD_cons_zero, List.getD_cons_succ, Nat.reduceAdd, flowAt]
                go_simp
                exact ⟨Ext.refl _, by first | rfl | trivial⟩
              · rintro ρ w1 hw hcst hfn hk
                clear hw
                simp only [known, List.getD_cons_zero, List.getD_cons_succ, Nat.reduceAdd] at hk
                simp only [List.getD_cons_zero, List.getD_cons_succ, Nat.reduceAdd, flowAt]
                go_simp
                exact ⟨Ext.refl _, by first | rfl | trivial⟩
              · rintro ρ w1 hw hcst hfn hk
                simp only [known, List.getD_cons_zero, List.getD_cons_succ, Nat.reduceAdd] at hk
                simp only [List.getD_cons_zero, List.getD_cons_succ, Nat.reduceAdd, flowAt]
                go_simp
                exact ⟨Ext.refl _, by first | (simp; done) | (simp; omega)⟩
              · rintro ρ w1 hw hcst hfn hk
                clear hw
                simp only [known, List.getD_cons_zero, List.getD_cons_succ, Nat.reduceAdd] at hk
                simp only [List.getD_cons_zero, List.getD_cons_succ, Nat.reduceAdd, flowAt]
                go_simp
                exact ⟨Ext.refl _, by first | rfl | trivial⟩
              · rintro ρ w1 hw hcst hfn hk
                clear hw
                simp only [known, List.getD_cons_zero, List.getD_cons_succ, Nat.reduceAdd] at hk
                simp only [List.getD_cons_zero, List.getD_cons_succ, Nat.reduceAdd, flowAt]
                rintro vg rfl
                refine ⟨fun hg => ?_, fun hg => ?_⟩ <;> simp at hg
                go_simp
                exact ⟨Ext.refl _, by first | rfl | trivial⟩
              · rintro ρ w1 hw hcst hfn hk
                clear hw
                simp only [known, List.getD_cons_zero, List.getD_cons_succ, Nat.reduceAdd] at hk
                simp only [List.getD_cons_zero, List.getD_cons_succ, Nat.reduceAdd, flowAt]
                rintro vg rfl
                refine ⟨fun hg => ?_, fun hg => ?_⟩ <;> simp at hg
                go_simp
                exact ⟨Ext.refl _, by first | rfl | trivial⟩
              · rintro ρ w1 hw hcst hfn hk
                simp only [known, List.getD_cons_zero, List.getD_cons_succ, Nat.reduceAdd] at hk
                simp only [List.getD_cons_zero, List.getD_cons_succ, Nat.reduceAdd, flowAt]
                rintro vg rfl
                refine ⟨fun hg => ?_, fun hg => ?_⟩ <;> simp at hg
                go_simp
                exact ⟨Ext.refl _, by first | rfl | rw [hp]⟩
              · rintro ρ w1 hw hcst hfn hk
                have c0 := hw.cell (b := b1) (o := p) (v := .string s) (by first | (simp [*]; done) | (simp [*, go_sem]; done) | go_cell)
                clear hw
                simp only [known, List.getD_cons_zero, List.getD_cons_succ, Nat.reduceAdd] at hk
                simp only [List.getD_cons_zero, List.getD_cons_succ, Nat.reduceAdd, flowAt]
                rintro vg rfl
                refine ⟨fun hg => ?_, fun hg => ?_⟩ <;> simp at hg
                go_simp
                exact ⟨Ext.refl _, by first | rfl | trivial⟩
              · rintro ρ w1 hw hcst hfn hk
                clear hw
                simp only [known, List.getD_cons_zero, List.getD_cons_succ, Nat.reduceAdd] at hk
                simp only [List.getD_cons_zero, List.getD_cons_succ, Nat.reduceAdd, flowAt]
                rintro vg rfl
                refine ⟨fun hg => ?_, fun hg => ?_⟩ <;> simp at hg
                go_simp
                exact ⟨Ext.refl _, by first | rfl | trivial⟩
              · rintro ρ w1 hw hcst hfn hk
                clear hw
                simp only [known, List.getD_cons_zero, List.getD_cons_succ, Nat.reduceAdd] at hk
                simp only [List.getD_cons_zero, List.getD_cons_succ, Nat.reduceAdd, flowAt]
                rintro vg rfl
                refine ⟨fun hg => ?_, fun hg => ?_⟩ <;> simp at hg
                go_simp
                exact ⟨Ext.refl _, by first | rfl | trivial⟩
              · rintro ρ w1 hw hcst hfn hk
                simp only [known, List.getD_cons_zero, List.getD_cons_succ, Nat.reduceAdd] at hk
                simp only [List.getD_cons_zero, List.getD_cons_succ, Nat.reduceAdd, flowAt]
                rintro vg rfl
                refine ⟨fun hg => ?_, fun hg => ?_⟩ <;> simp at hg
                go_simp
                exact ⟨Ext.refl _, by first | rfl | rw [hqq]⟩
              · rintro ρ w1 hw hcst hfn hk
                have c0 := hw.cell (b := b2) (o := q) (v := .string t) (by first | (simp [*]; done) | (simp [*, go_sem]; done) | go_cell)
                clear hw
                simp only [known, List.getD_cons_zero, List.getD_cons_succ, Nat.reduceAdd] at hk
                simp only [List.getD_cons_zero, List.getD_cons_succ, Nat.reduceAdd, flowAt]
                rintro vg rfl
                refine ⟨fun hg => ?_, fun hg => ?_⟩ <;> simp at hg
                go_simp
                exact ⟨Ext.refl _, by first | rfl | trivial⟩
              · rintro ρ w1 hw hcst hfn hk
                simp only [known, List.getD_cons_zero, List.getD_cons_succ, Nat.reduceAdd] at hk
                simp only [List.getD_cons_zero, List.getD_cons_succ, Nat.reduceAdd, flowAt]
                rintro vg rfl
                refine ⟨fun hg => ?_, fun hg => ?_⟩ <;> simp at hg
                go_simp
                exact ⟨Ext.refl _, by first | (rw [leq_le, HLE.out]) | (show Value.bool _ = Value.bool false; rw [leq_le, HLE.out])⟩
              · rintro ρ w1 hw hcst hfn hk
                clear hw
                simp only [known, List.getD_cons_zero, List.getD_cons_succ, Nat.reduceAdd] at hk
                simp only [List.getD_cons_zero, List.getD_cons_succ, Nat.reduceAdd, flowAt]
                go_simp
                exact ⟨Ext.refl _, by first | rfl | trivial⟩
            intro vs w1 hw hf
            simp only [flowFacts, Nat.reduceAdd] at hf
            obtain ⟨e0, e1, e2, e3, e4, e5, e6, e7, e8, e9, e10, e11, e12, e13, e14, -⟩ := hf
            simp only [List.take_succ_cons, List.take_zero, List.drop_succ_cons, List.drop_zero, putAll, Act.put, Nat.reduceAdd, List.setIfInBounds_toArray, List.set_cons_zero, List.set_cons_succ, e0, e1, e2, e3, e4, e5, e6, e7, e8, e9, e10, e11, e12, e13, e14]
            clear e0 e1 e2 e3 e4 e5 e6 e7 e8 e9 e10 e11 e12 e13 e14
            have hx1 := (Ext.refl _).drew.trans hw
            have HO1 := hid (HO.out.ext hx1)
            replace hd2 := hx1.cell hd2
            have hz1 := hx1.size
            replace hx := hx.trans hx1
            clear hx1 hw hd1 HO
            go_wp2_with (at_builtin; refine wpList_push rfl _ _ 24 rfl El_str rfl [_] rfl rfl (by simp [Value.oneCell']) HO1.out (by omega) (by unfold maxLen; omega) (by omega) ?_; intro a8 c8 w8 hown8 hb8; have HO8 := hid hown8; have HB8 := hid hb8; clear hown8 hb8)
            go_roundw
            case rel => exact ⟨i, k + 1, out ++ [t], a8, c8, by rw [List.length_append]; rfl, by first | rfl | trivial, by go_num, by omega, by omega, by have := HOL.out; rw [List.length_append]; simp; omega, hid (by rw [List.length_append, strsV_append]; exact HO8.out), hid (by rw [List.append_assoc, List.singleton_append, ← HST.out]; exact HR.out), hx.thenBelow HB8.out (by omega)⟩
            case measure => simp [intOf]; omega
        · obtain rfl : i = A.length := by omega
          have hst := restM_b (a := A) (i := A.length) hkl (fun h => absurd h (Nat.lt_irrefl _))
          obtain ⟨t, ht⟩ : ∃ t, wAt C k = t := ⟨_, rfl⟩
          rw [ht] at hd2 hst
          obtain ⟨q, hqq⟩ : ∃ q, o2 + k = q := ⟨_, rfl⟩
          rw [hqq] at hd2
          have HST := hid hst
          clear ht hst
          go_wp2_with fail
          refine wp_region_flow_at (C := Ext) 15 [fun v _ => v = .int .i64 (A.length : Int), fun v _ => v = .slice (some ⟨b1, o1, none⟩) A.length c1, fun v _ => v = .int .i64 (A.length : Int), fun v _ => v = .bool false, fun v _ => v = .bool false, fun v _ => v = undef, fun v _ => v = undef, fun v _ => v = undef, fun v _ => v = undef, fun v _ => v = undef, fun v _ => v = undef, fun v _ => v = undef, fun v _ => v = undef, fun v _ => v = undef, fun v _ => v = .bool false]
            [[(7, none)], [(4, none)], [(32, some 1)], [(31, some 0), (33, some 2)], [(34, some 3)], [(4, none)], [(7, none)], [(36, some 5), (37, some 6)], [(38, some 7)], [(5, none)], [(8, none)], [(40, some 9), (41, some 10)], [(42, some 11)], [(39, some 8), (43, some 12)], [(35, some 4), (44, some 13)]] (by kernel_rfl) (by kernel_rfl) Ext.refl (fun _ _ _ => Ext.trans) ?_ ?_ ?_
          · intro F hF
            simp only [List.mem_cons, List.not_mem_nil, or_false] at hF
            rcases hF with rfl | rfl | rfl | rfl | rfl | rfl | rfl | rfl | rfl | rfl | rfl | rfl | rfl | rfl | rfl <;> exact fun _ _ _ h _ => h
          · refine ⟨?_, ?_, ?_, ?_, ?_, ?_, ?_, ?_, ?_, ?_, ?_, ?_, ?_, ?_, ?_, trivial⟩
            · rintro ρ w1 hw hcst hfn hk
              clear hw
              simp only [known, List.getD_cons_zero, List.getD_cons_succ, Nat.reduceAdd] at hk
              simp only [List.getD_cons_zero, List.getD_cons_succ, Nat.reduceAdd, flowAt]
              go_simp
              exact ⟨Ext.refl _, by first | rfl | trivial⟩
            · rintro ρ w1 hw hcst hfn hk
              clear hw
              simp only [known, List.getD_cons_zero, List.getD_cons_succ, Nat.reduceAdd] at hk
              simp only [List.getD_cons_zero, List.getD_cons_succ, Nat.reduceAdd, flowAt]
              go_simp
              exact ⟨Ext.refl _, by first | rfl | trivial⟩
            · rintro ρ w1 hw hcst hfn hk
              clear hw
              simp only [known, List.getD_cons_zero, List.getD_cons_succ, Nat.reduceAdd] at hk
              simp only [List.getD_cons_zero, List.getD_cons_succ, Nat.reduceAdd, flowAt]
              go_simp
              exact ⟨Ext.refl _, by first | rfl | trivial⟩
            · rintro ρ w1 hw hcst hfn hk
              simp only [known, List.getD_cons_zero, List.getD_cons_succ, Nat.reduceAdd] at hk
              simp only [List.getD_cons_zero, List.getD_cons_succ, Nat.reduceAdd, flowAt]
              go_simp
              exact ⟨Ext.refl _, by simp⟩
            · rintro ρ w1 hw hcst hfn hk
              clear hw
              simp only [known, List.getD_cons_zero, List.getD_cons_succ, Nat.reduceAdd] at hk
              simp only [List.getD_cons_zero, List.getD_cons_succ, Nat.reduceAdd, flowAt]
              go_simp
              exact ⟨Ext.refl _, by first | rfl | trivial⟩
            · rintro ρ w1 hw hcst hfn hk
              clear hw
              simp only [known, List.getD_cons_zero, List.getD_cons_succ, Nat.reduceAdd] at hk
              simp only [List.getD_cons_zero, List.getD_cons_succ, Nat.reduceAdd, flowAt]
              rintro vg rfl
              refine ⟨fun hg => ?_, fun hg => ?_⟩ <;> simp at hg
              first | exact trivial | exact rfl
            · rintro ρ w1 hw hcst hfn hk
              clear hw
              simp only [known, List.getD_cons_zero, List.getD_cons_succ, Nat.reduceAdd] at hk
              simp only [List.getD_cons_zero, List.getD_cons_succ, Nat.reduceAdd, flowAt]
              rintro vg rfl
              refine ⟨fun hg => ?_, fun hg => ?_⟩ <;> simp at hg
              first | exact trivial | exact rfl
            · rintro ρ w1 hw hcst hfn hk
              clear hw
              simp only [known, List.getD_cons_zero, List.getD_cons_succ, Nat.reduceAdd] at hk
              simp only [List.getD_cons_zero, List.getD_cons_succ, Nat.reduceAdd, flowAt]
              rintro vg rfl
              refine ⟨fun hg => ?_, fun hg => ?_⟩ <;> simp at hg
              first | exact trivial | exact rfl
            · rintro ρ w1 hw hcst hfn hk
              clear hw
              simp only [known, List.getD_cons_zero, List.getD_cons_succ, Nat.reduceAdd] at hk
              simp only [List.getD_cons_zero, List.getD_cons_succ, Nat.reduceAdd, flowAt]
              rintro vg rfl
              refine ⟨fun hg => ?_, fun hg => ?_⟩ <;> simp at hg
              first | exact trivial | exact rfl
            · rintro ρ w1 hw hcst hfn hk
              clear hw
              simp only [known, List.getD_cons_zero, List.getD_cons_succ, Nat.reduceAdd] at hk
              simp only [List.getD_cons_zero, List.getD_cons_succ, Nat.reduceAdd, flowAt]
              rintro vg rfl
              refine ⟨fun hg => ?_, fun hg => ?_⟩ <;> simp at hg
              first | exact trivial | exact rfl
            · rintro ρ w1 hw hcst hfn hk
              clear hw
              simp only [known, List.getD_cons_zero, List.getD_cons_succ, Nat.reduceAdd] at hk
              simp only [List.getD_cons_zero, List.getD_cons_succ, Nat.reduceAdd, flowAt]
              rintro vg rfl
              refine ⟨fun hg => ?_, fun hg => ?_⟩ <;> simp at hg
              first | exact trivial | exact rfl
            · rintro ρ w1 hw hcst hfn hk
              clear hw
              simp only [known, List.getD_cons_zero, List.getD_cons_succ, Nat.reduceAdd] at hk
              simp only [List.getD_cons_zero, List.getD_cons_succ, Nat.reduceAdd, flowAt]
              rintro vg rfl
              refine ⟨fun hg => ?_, fun hg => ?_⟩ <;> simp at hg
              first | exact trivial | exact rfl
            · rintro ρ w1 hw hcst hfn hk
              clear hw
              simp only [known, List.getD_cons_zero, List.getD_cons_succ, Nat.reduceAdd] at hk
              simp only [List.getD_cons_zero, List.getD_cons_succ, Nat.reduceAdd, flowAt]
              rintro vg rfl
              refine ⟨fun hg => ?_, fun hg => ?_⟩ <;> simp at hg
              first | exact trivial | exact rfl
            · rintro ρ w1 hw hcst hfn hk
              clear hw
              simp only [known, List.getD_cons_zero, List.getD_cons_succ, Nat.reduceAdd] at hk
              simp only [List.getD_cons_zero, List.getD_cons_succ, Nat.reduceAdd, flowAt]
              rintro vg rfl
              refine ⟨fun hg => ?_, fun hg => ?_⟩ <;> simp at hg
              first | exact trivial | exact rfl
            · rintro ρ w1 hw hcst hfn hk
              clear hw
              simp only [known, List.getD_cons_zero, List.getD_cons_succ, Nat.reduceAdd] at hk
              simp only [List.getD_cons_zero, List.getD_cons_succ, Nat.reduceAdd, flowAt]
              go_simp
              exact ⟨Ext.refl _, by first | rfl | trivial⟩
          intro vs w1 hw hf
          simp only [flowFacts, Nat.reduceAdd] at hf
          obtain ⟨e0, e1, e2, e3, e4, e5, e6, e7, e8, e9, e10, e11, e12, e13, e14, -⟩ := hf
          simp only [List.take_succ_cons, List.take_zero, List.drop_succ_cons, List.drop_zero, putAll, Act.put, Nat.reduceAdd, List.setIfInBounds_toArray, List.set_cons_zero, List.set_cons_succ, e0, e1, e2, e3, e4, e5, e6, e7, e8, e9, e10, e11, e12, e13, e14]
          clear e0 e1 e2 e3 e4 e5 e6 e7 e8 e9 e10 e11 e12 e13 e14
          have hx1 := (Ext.refl _).drew.trans hw
          have HO1 := hid (HO.out.ext hx1)
          replace hd2 := hx1.cell hd2
          have hz1 := hx1.size
          replace hx := hx.trans hx1
          clear hx1 hw HO
          go_wp2_with (at_builtin; refine wpList_push rfl _ _ 24 rfl El_str rfl [_] rfl rfl (by simp [Value.oneCell']) HO1.out (by omega) (by unfold maxLen; omega) (by omega) ?_; intro a8 c8 w8 hown8 hb8; have HO8 := hid hown8; have HB8 := hid hb8; clear hown8 hb8)
          go_roundw
          case rel => exact ⟨A.length, k + 1, out ++ [t], a8, c8, by rw [List.length_append]; rfl, by first | rfl | trivial, by go_num, by omega, by omega, by have := HOL.out; rw [List.length_append]; simp; omega, hid (by rw [List.length_append, strsV_append]; exact HO8.out), hid (by rw [List.append_assoc, List.singleton_append, ← HST.out]; exact HR.out), hx.thenBelow HB8.out (by omega)⟩
          case measure => simp [intOf]; omega
    · obtain rfl : k = C.length := by omega
      have HRE := hid (restM_end A C i)
      have hxs := hx.size
      have HRA := hid ((R1.out.ext hx).drop i)
      have HLM : Hid (out ++ A.drop i = M) := hid (by rw [← HRE.out]; exact HR.out)
      have hml : out.length + (A.length - i) = M.length := by rw [← HLM.out, List.length_append, List.length_drop]
      have HML := hid hml
      have hlen : (strsV (A.drop i)).length = (A.length - i) * 1 := by simp [strsV]
      have HLEN := hid hlen
      have hone : ∀ u ∈ strsV (A.drop i), u.oneCell' = true := strsV_one
      have HONE := hid hone
      have hb2 : out.length + (A.length - i) ≤ 1048576 := by have := HOL.out; omega
      clear hml hlen hone
      by_cases hci : c1 = i
      · have hd0 : A.drop i = [] := List.drop_eq_nil_of_le (by omega)
        have HRA2 : Hid (∀ w' a, Rd w' a (strsV (A.drop i))) := hid (fun w' a => by rw [hd0]; exact Rd.nil _ _)
        clear hd0
        go_wp2_with (at_builtin; refine wpList_appendm rfl _ _ 24 rfl El_str rfl rfl (strsV (A.drop i)) (HRA2.out _ _) HLEN.out HONE.out (by first | exact HO.out | exact HO.out.ext (Ext.refl _).drew) (by first | exact hxs | (show w2.heap.size ≤ _; exact hxs)) (by unfold maxLen; omega) (by omega) ?_; intro a8 c8 w8 hown8 hb8; have HO8 := hid hown8; have HB8 := hid hb8; clear hown8 hb8)
        go_returns
        have hs0 := hE.out.size
        exact ⟨a8, c8, by rw [← HML.out]; rfl, by rw [← HML.out]; exact HO8.out.le, by have := HO8.out.rd; rw [← strsV_append, HLM.out] at this; exact this, (hE.out.trans hx).thenBelow HB8.out (by omega)⟩
      · go_wp2_with (at_builtin; refine wpList_appendm rfl _ _ 24 rfl El_str rfl rfl (strsV (A.drop i)) (by first | exact HRA.out | exact HRA.out.ext (Ext.refl _).drew) HLEN.out HONE.out (by first | exact HO.out | exact HO.out.ext (Ext.refl _).drew) (by first | exact hxs | (show w2.heap.size ≤ _; exact hxs)) (by unfold maxLen; omega) (by omega) ?_; intro a8 c8 w8 hown8 hb8; have HO8 := hid hown8; have HB8 := hid hb8; clear hown8 hb8)
        go_returns
        have hs0 := hE.out.size
        exact ⟨a8, c8, by rw [← HML.out]; rfl, by rw [← HML.out]; exact HO8.out.le, by have := HO8.out.rd; rw [← strsV_append, HLM.out] at this; exact this, (hE.out.trans hx).thenBelow HB8.out (by omega)⟩
set_option maxHeartbeats 1000000 in
theorem l09Sort_short (l : List ByteArray) (a : Option Addr) (c : Nat) (w : World) (hn : l.length < 2) (hc : l.length ≤ c) (h : Rd w a (strsV l)) :
    Calls Tryz.prog 32 #[.slice a l.length c] w (RetRd (sortW l) w) := by
  rw [sortW_short hn]
  have hn2 : (l.length : Int) < 2 := by omega
  go_enter Tryz.func32, Tryz.ntmps32
  go_wp2_with fail
  go_returns
  exact ⟨a, c, rfl, hc, h, Ext.refl _⟩
theorem l09Sort_any (n : Nat) : SortC n := by
  induction n using Nat.strongRecOn with
  | _ n ih =>
    intro l a c w hn hl hc h
    by_cases h2 : l.length < 2
    · exact l09Sort_short l a c w h2 hc h
    · exact l09Sort_long l (fun m hm => ih m (by omega)) a c w (by omega) hl hc h
end Go.Proofs.YtabljchbchjjcaaGreatDoor
