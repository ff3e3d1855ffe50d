/- NewSquares, by both. Conditions stand at each. -/
import Derived.Test.YtpjmenfnaembcaaDoorCh12i
import Derived.Test.YtpjmenfnaembcaaDoorSq
namespace Go.Proofs.YtpjmenfnaembcaaDoor
set_option linter.unusedVariables false
set_option linter.unusedSimpArgs false
open Go Go.RowKit
def newL (n : Int) (p cs : ByteArray) (r c : Int) (d : Bool) (s : ByteArray) : List Nat := if okP n p cs r c d s then usedL n cs r c d s else []
def newE (n : Int) (p cs : ByteArray) (r c : Int) (d : Bool) (s : ByteArray) : Int := if okP n p cs r c d s then 0 else 1
def RetQ (r c : Int) (d : Bool) (l : List Nat) (y : Int) (w : World) (e : Ending) (w' : World) : Prop := ∃ a cc, e = .returned (.tuple #[.slice a l.length cc, .int .i64 y]) ∧ InR w.heap.size w'.heap.size w' a (sqsV r c d l) ∧ Ext w w'
theorem newL_le (n : Int) (p cs : ByteArray) (r c : Int) (d : Bool) (s : ByteArray) (h : s.size ≤ 1048576) : (newL n p cs r c d s).length ≤ 1048576 := by
  unfold newL usedL
  split
  · exact Nat.le_trans (frL_le _ _) h
  · simp
theorem sqs_take (r c : Int) (d : Bool) (l : List Nat) (k : Nat) (h : k < l.length) : l.take (k + 1) = l.take k ++ [l.getD k 0] := by
  rw [List.take_succ_eq_append_getElem h, List.getD_eq_getElem?_getD, List.getElem?_eq_getElem h]
  rfl
theorem flat_sq {d : Bool} {r c R C : Int} (h1 : flatR d r c = R) (h2 : flatC d r c = C) (j : Nat) : (if d then C + (j : Int) else R) = sqR r d j ∧ (if d then R else C + (j : Int)) = sqC c d j := by
  subst h1 h2
  cases d <;> exact ⟨rfl, rfl⟩
set_option maxHeartbeats 1000000 in
theorem NewSquares_any (n : Int) (p cs : ByteArray) (r c : Int) (d : Bool) (s : ByteArray) (w : World) (hp : p.size ≤ 1048576) (hc : cs.size ≤ 1048576) (hs : s.size ≤ 1048576) (hT : Tabs w) :
    Calls Tryd.prog 19 #[boardV n p cs, playV r c d s] w (RetQ r c d (newL n p cs r c d s) (newE n p cs r c d s) w) := by
  have H : Hid (newL n p cs r c d s = if okP n p cs r c d s then usedL n cs r c d s else []) := hid rfl
  have HE : Hid (newE n p cs r c d s = if okP n p cs r c d s then 0 else 1) := hid rfl
  have HV := hid (ValidPlay_any n p cs r c d s _ hp hc hs (hT.ext (((Ext.refl w).alloc (.cells #[.int .i64 n, .string p, .string cs] 29)).alloc (.cells #[.int .i64 r, .int .i64 c, .bool d, .string s] 31))))
  clear hT
  go_enter Tryd.func19, Tryd.ntmps19
  go_wp2_with fail
  refine HV.out.mono ?_
  rintro e w1 ⟨rfl, hx⟩
  have a0 := hx.cell (b := w.heap.size) (o := 0) (v := .int .i64 n) (by simp)
  have a1 := hx.cell (b := w.heap.size) (o := 1) (v := .string p) (by simp)
  have a2 := hx.cell (b := w.heap.size) (o := 2) (v := .string cs) (by simp)
  have b0 := hx.cell (b := w.heap.size + 1) (o := 0) (v := .int .i64 r) (by simp)
  have b1 := hx.cell (b := w.heap.size + 1) (o := 1) (v := .int .i64 c) (by simp)
  have b2 := hx.cell (b := w.heap.size + 1) (o := 2) (v := .bool d) (by simp)
  have b3 := hx.cell (b := w.heap.size + 1) (o := 3) (v := .string s) (by simp)
  have hE := (((Ext.refl w).alloc _).alloc _).trans hx
  clear hx HV
  cases hk : okP n p cs r c d s
  · rw [hk] at H HE
    clear hk
    go_wp2_with fail
    go_returns
    exact ⟨none, 0, by rw [H.out, HE.out]; rfl, by rw [H.out]; exact .inl rfl, hE⟩
  · have hk2 := hk
    rw [hk] at H HE
    rw [if_pos rfl] at H HE
    unfold okP at hk2
    rw [Bool.and_eq_true] at hk2
    obtain ⟨h1, h2, h3, h4⟩ := okB_true hk2.1
    obtain ⟨m0, m1, m2⟩ := playB_true hk2.2
    have HPU := hid (fun w' => newSquares_any n p cs r c d s w' h1 h2 h4 (okB_parts hk2.1).2 m1 m2 (mainB_true m0).2.2)
    obtain ⟨L, hL⟩ : ∃ L, frL (fun i => plAt n cs r c d i) s.size = L := ⟨_, rfl⟩
    have HL : Hid (usedL n cs r c d s = L) := hid hL
    rw [hL] at HPU
    rw [HL.out] at H
    clear hk hk2 h3 h4 m0 m1 m2 hL
    go_wp2_with fail
    refine (HPU.out _).mono ?_
    rintro e w2 ⟨a, cc, a3, c3, rfl, hown, -, hx⟩
    have HR := hid (hown.inR.down hE.size)
    clear hown
    go_wp2_with fail
    go_returns
    exact ⟨a, cc, by rw [H.out, HE.out]; rfl, by rw [H.out]; exact HR.out, hE.trans hx⟩
set_option maxHeartbeats 2000000 in
theorem sNewSquares_any (n : Int) (p cs : ByteArray) (r c : Int) (d : Bool) (s : ByteArray) (w : World) (hp : p.size ≤ 1048576) (hc : cs.size ≤ 1048576) (hs : s.size ≤ 1048576) :
    Calls Tryd.prog 18 #[boardV n p cs, playV r c d s] w (RetQ r c d (newL n p cs r c d s) (newE n p cs r c d s) w) := by
  have H : Hid (newL n p cs r c d s = if okP n p cs r c d s then usedL n cs r c d s else []) := hid rfl
  have HE : Hid (newE n p cs r c d s = if okP n p cs r c d s then 0 else 1) := hid rfl
  obtain ⟨V, hV⟩ : ∃ V, newL n p cs r c d s = V := ⟨_, rfl⟩
  obtain ⟨Y, hY⟩ : ∃ Y, newE n p cs r c d s = Y := ⟨_, rfl⟩
  rw [hV] at H ⊢
  rw [hY] at HE ⊢
  clear hV hY
  have HB : Hid (BdAt ((w.alloc (.cells #[.int .i64 n, .string p, .string cs] 29)).alloc (.cells #[.int .i64 r, .int .i64 c, .bool d, .string s] 31)) w.heap.size 0 n p cs) := hid ⟨by simp, by simp, by simp⟩
  go_enter Tryd.func18, Tryd.ntmps18
  go_wp2_with fail
  refine (l12Ok_any w.heap.size 0 n p cs r c d s _ HB.out hp hc hs).mono ?_
  rintro e w1 ⟨rfl, hx⟩
  have b0 := hx.cell (b := w.heap.size + 1) (o := 0) (v := .int .i64 r) (by simp)
  have b1 := hx.cell (b := w.heap.size + 1) (o := 1) (v := .int .i64 c) (by simp)
  have b2 := hx.cell (b := w.heap.size + 1) (o := 2) (v := .bool d) (by simp)
  have b3 := hx.cell (b := w.heap.size + 1) (o := 3) (v := .string s) (by simp)
  have HB1 := hid (HB.out.ext hx)
  have hE := (((Ext.refl w).alloc _).alloc _).trans hx
  clear hx
  cases hk : okP n p cs r c d s
  · have HK := hid hk
    clear hk
    go_wp2_with fail
    go_returns
    exact ⟨none, 0, by rw [H.out, HE.out, HK.out]; rfl, by rw [H.out, HK.out]; exact .inl rfl, hE⟩
  · have HK := hid hk
    unfold okP at hk
    rw [Bool.and_eq_true] at hk
    obtain ⟨h1, h2, h3, h4⟩ := okB_true hk.1
    obtain ⟨m0, m1, m2⟩ := playB_true hk.2
    obtain ⟨N, rfl⟩ := nat_of h1
    have H3 : Hid (p.size = N * N) := hid (by rw [← Int.natCast_mul] at h3; omega)
    have H4 : Hid (cs.size = N * N) := hid (by rw [← Int.natCast_mul] at h4; omega)
    have hs15 : s.size ≤ 12 := (mainB_true m0).2.1
    obtain ⟨l, hll⟩ : ∃ l, usedL N cs r c d s = l := ⟨_, rfl⟩
    have HQ : Hid (∀ k, k < l.length → inRC N (sqR r d (l.getD k 0 : Nat)) (sqC c d (l.getD k 0 : Nat)) = true) := hid (fun k hk => sq_in m1 m2 _ (frL_lt (by rw [show frL _ s.size = l from hll]; exact getD_mem hk)))
    have HBD : Hid (∀ k, k < l.length → l.getD k 0 < 15) := hid (fun k hk => by have := frL_lt (g := fun i => plAt N cs r c d i) (m := s.size) (show l.getD k 0 ∈ _ by rw [show frL _ s.size = l from hll]; exact getD_mem hk); omega)
    have hl15 : l.length ≤ 12 := by
      have := frL_le (fun i => plAt N cs r c d i) s.size
      rw [show frL _ s.size = l from hll] at this
      omega
    obtain ⟨fin, flim⟩ : inRC N (flatR d r c) (flatC d r c) = true ∧ flatC d r c + s.size ≤ N := ⟨by rw [flat_in]; exact m1, by rw [flat_lim]; exact m2⟩
    have hfr : frL (fun i => sqAt N (flatS d N cs) (flatR d r c) (flatC d r c + (i : Nat))) s.size = l := by
      rw [← hll]
      unfold usedL
      congr 1
      funext i
      exact flat_at d N cs r c i
    have HFS := hid (flatS_size d N cs H4.out)
    have HFP := hid (flatS_size d N p H3.out)
    rw [hll, HK.out, if_pos rfl] at H
    rw [HK.out, if_pos rfl] at HE
    clear hk h3 h4 m0 m1 m2 hll
    go_wp2_with fail
    refine (l12Flat_any w.heap.size 0 N p cs r c d s _ HB1.out H3.out H4.out (by omega) (by omega)).mono ?_
    rintro e w2 ⟨he, hx⟩
    unfold flatV at he
    subst he
    obtain ⟨P2, hP2⟩ : ∃ P2, flatS d N p = P2 := ⟨_, rfl⟩
    obtain ⟨C2, hC2⟩ : ∃ C2, flatS d N cs = C2 := ⟨_, rfl⟩
    obtain ⟨R1, hR1⟩ : ∃ R1, flatR d r c = R1 := ⟨_, rfl⟩
    obtain ⟨C1, hC1⟩ : ∃ C1, flatC d r c = C1 := ⟨_, rfl⟩
    rw [hP2, hC2, hR1, hC1]
    rw [hC2, hR1, hC1] at hfr
    rw [hR1, hC1] at fin
    rw [hC1] at flim
    rw [hC2] at HFS
    rw [hP2] at HFP
    obtain ⟨f1, f2, f3, f4⟩ := inRC_true fin
    have HT := hid (sqs_take r c d l)
    have HRC := hid (fun j => flat_sq hR1 hC1 j)
    have hE2 := hE.trans hx
    have HFr := hid (fun w' b' h => l12Fresh_any b' 0 N P2 C2 R1 C1 s w' h h1 h2 (by rw [HFS.out, Int.natCast_mul]) fin flim)
    rw [hfr] at HFr
    replace b2 := hx.cell b2
    clear hP2 hC2 hR1 hC1 hfr fin b0 b1 b3 hx
    have HW2 : Hid (BdAt ((w2.alloc (.cells #[.int .i64 N, .string P2, .string C2] 29)).alloc (.cells #[.int .i64 R1, .int .i64 C1, .bool false, .string s] 31)) w2.heap.size 0 N P2 C2) := hid ⟨by go_cell, by go_cell, by go_cell⟩
    go_wp2_with fail
    refine (HFr.out _ _ HW2.out).mono ?_
    rintro e w3 ⟨a, cc, rfl, hown, hy⟩
    have c0 := hy.cell (b := w2.heap.size + 1) (o := 0) (v := .int .i64 R1) (by simp)
    have c1 := hy.cell (b := w2.heap.size + 1) (o := 1) (v := .int .i64 C1) (by simp)
    replace b2 := ((((Ext.refl w2).alloc _).alloc _).trans hy).cell b2
    have HW3 := hid (HW2.out.ext hy)
    have hE3 := hE2.trans ((((Ext.refl w2).alloc _).alloc _).trans hy)
    have HR := hid hown.rd
    have lt3 := World.block_lt_of_cell? _ _ b2
    clear hown hy HFr HW2
    go_wp2_with fail
    go_loopw [9, 10] (fun v i wr => ∃ (k cap : Nat) (a' : Option Addr), k ≤ l.length ∧ i = .int .i64 k ∧ v = .slice a' k cap ∧ Hid (Own wr w3.heap.size 56 2 a' k cap (sqsV r c d (l.take k))) ∧ Ext w3 wr) (fun _ i _ => l.length - (intOf i).toNat)
    case atStart => exact ⟨0, 0, some ⟨w3.heap.size, 0, none⟩, by omega, rfl, rfl, hid (Own.empty _ _ _ _ _), (Ext.refl _).alloc _⟩
    case round =>
      obtain ⟨k, cap, a', hk, rfl, rfl, hown, hx⟩ := hrel
      have hsz := hx.size
      by_cases hlt : k < l.length
      · obtain ⟨b, o, rfl, hcl⟩ := (HR.out.ext hx).ints (by omega)
        have t0 := hcl k hlt
        have hbd := HBD.out k hlt
        have HT1 := hid (HT.out k hlt)
        replace c0 := hx.cell c0
        replace c1 := hx.cell c1
        replace b2 := hx.cell b2
        clear hcl
        obtain ⟨j, hj⟩ : ∃ j, l.getD k 0 = j := ⟨_, rfl⟩
        rw [hj] at t0 hbd HT1
        obtain ⟨e1, e2⟩ := HRC.out j
        obtain ⟨q, hq⟩ : ∃ q, o + k = q := ⟨_, rfl⟩
        rw [hq] at t0
        clear hj
        have q1 : IntKind.i64.wrap (C1 + (j : Int)) = C1 + (j : Int) := IntWalk.i64_in _ (by omega)
        go_wp2_with fail
        refine wp_region_flow_at (C := Ext) 11 [fun v _ => v = .pointer (some ⟨(w2.heap.size + 1), 0, none⟩), fun v _ => v = .int .i64 R1, fun v _ => v = .pointer (some ⟨(w2.heap.size + 1), 1, none⟩), fun v _ => v = .int .i64 C1, fun v _ => v = .slice (some ⟨b, o, none⟩) l.length cc, fun v _ => v = .int .i64 (k : Int), fun v _ => v = .pointer (some ⟨b, q, none⟩), fun v _ => v = .int .i64 (j : Int), fun v _ => v = .int .i64 (C1 + (j : Int)), fun v _ => v = .agg #[.int .i64 R1, .int .i64 (C1 + (j : Int))], fun v w' => ∃ g, v = .pointer (some ⟨g, 0, none⟩) ∧ wr.heap.size ≤ g ∧ g < w'.heap.size ∧ w'.cell? ⟨g, 0, none⟩ = some (.int .i64 0) ∧ w'.cell? ⟨g, 1, none⟩ = some (.int .i64 0) ∧ ∀ j, w'.frozen? ⟨g, j, none⟩ = false]
          [[(7, none)], [(29, some 0)], [(7, none)], [(31, some 2)], [(8, none)], [(10, none)], [(33, some 4), (34, some 5)], [(35, some 6)], [(32, some 3), (36, some 7)], [(30, some 1), (37, some 8)], []] (by kernel_rfl) (by kernel_rfl) Ext.refl (fun _ _ _ => Ext.trans) ?_ ?_ ?_
        · intro F hF
          simp only [List.mem_cons, List.not_mem_nil, or_false] at hF
          rcases hF with rfl | rfl | rfl | rfl | rfl | rfl | rfl | rfl | rfl | rfl | rfl
          · exact fun _ _ _ h _ => h
          · exact fun _ _ _ h _ => h
          · exact fun _ _ _ h _ => h
          · exact fun _ _ _ h _ => h
          · exact fun _ _ _ h _ => h
          · exact fun _ _ _ h _ => h
          · exact fun _ _ _ h _ => h
          · exact fun _ _ _ h _ => h
          · exact fun _ _ _ h _ => h
          · exact fun _ _ _ h _ => h
          · exact fun _ _ _ ⟨g, h1, h2, h3, h4, h5, h6⟩ k => ⟨g, h1, h2, Nat.lt_of_lt_of_le h3 k.size, k.cell h4, k.cell h5, fun j => by rw [k.cells.2 _ _ h3]; exact h6 j⟩
        · refine ⟨?_, ?_, ?_, ?_, ?_, ?_, ?_, ?_, ?_, ?_, ?_, trivial⟩
          · rintro ρ w1 hw hcst hfn hk
            clear hw
            simp only [known, List.getD_cons_zero, List.getD_cons_succ, Nat.reduceAdd] at hk
            simp only [List.getD_cons_zero, List.getD_cons_succ, Nat.reduceAdd, flowAt]
            go_simp
            exact ⟨Ext.refl _, rfl⟩
          · rintro ρ w1 hw hcst hfn hk
            have c0 := hw.cell (b := (w2.heap.size + 1)) (o := 0) (v := .int .i64 R1) (by first | (simp [*]; done) | (simp [*, go_sem]; done) | go_cell)
            clear hw
            simp only [known, List.getD_cons_zero, List.getD_cons_succ, Nat.reduceAdd] at hk
            simp only [List.getD_cons_zero, List.getD_cons_succ, Nat.reduceAdd, flowAt]
            go_simp
            exact ⟨Ext.refl _, rfl⟩
          · rintro ρ w1 hw hcst hfn hk
            clear hw
            simp only [known, List.getD_cons_zero, List.getD_cons_succ, Nat.reduceAdd] at hk
            simp only [List.getD_cons_zero, List.getD_cons_succ, Nat.reduceAdd, flowAt]
            go_simp
            exact ⟨Ext.refl _, rfl⟩
          · rintro ρ w1 hw hcst hfn hk
            have c0 := hw.cell (b := (w2.heap.size + 1)) (o := 1) (v := .int .i64 C1) (by first | (simp [*]; done) | (simp [*, go_sem]; done) | go_cell)
            clear hw
            simp only [known, List.getD_cons_zero, List.getD_cons_succ, Nat.reduceAdd] at hk
            simp only [List.getD_cons_zero, List.getD_cons_succ, Nat.reduceAdd, flowAt]
            go_simp
            exact ⟨Ext.refl _, rfl⟩
          · rintro ρ w1 hw hcst hfn hk
            clear hw
            simp only [known, List.getD_cons_zero, List.getD_cons_succ, Nat.reduceAdd] at hk
            simp only [List.getD_cons_zero, List.getD_cons_succ, Nat.reduceAdd, flowAt]
            go_simp
            exact ⟨Ext.refl _, rfl⟩
          · rintro ρ w1 hw hcst hfn hk
            clear hw
            simp only [known, List.getD_cons_zero, List.getD_cons_succ, Nat.reduceAdd] at hk
            simp only [List.getD_cons_zero, List.getD_cons_succ, Nat.reduceAdd, flowAt]
            go_simp
            exact ⟨Ext.refl _, rfl⟩
          · rintro ρ w1 hw hcst hfn hk
            simp only [known, List.getD_cons_zero, List.getD_cons_succ, Nat.reduceAdd] at hk
            simp only [List.getD_cons_zero, List.getD_cons_succ, Nat.reduceAdd, flowAt]
            go_simp
            exact ⟨Ext.refl _, by first | rfl | rw [hq]⟩
          · rintro ρ w1 hw hcst hfn hk
            have c0 := hw.cell (b := b) (o := q) (v := .int .i64 (j : Int)) (by first | (simp [*]; done) | (simp [*, go_sem]; done) | go_cell)
            clear hw
            simp only [known, List.getD_cons_zero, List.getD_cons_succ, Nat.reduceAdd] at hk
            simp only [List.getD_cons_zero, List.getD_cons_succ, Nat.reduceAdd, flowAt]
            go_simp
            exact ⟨Ext.refl _, rfl⟩
          · rintro ρ w1 hw hcst hfn hk
            clear hw
            simp only [known, List.getD_cons_zero, List.getD_cons_succ, Nat.reduceAdd] at hk
            simp only [List.getD_cons_zero, List.getD_cons_succ, Nat.reduceAdd, flowAt]
            go_simp
            exact ⟨Ext.refl _, rfl⟩
          · rintro ρ w1 hw hcst hfn hk
            clear hw
            simp only [known, List.getD_cons_zero, List.getD_cons_succ, Nat.reduceAdd] at hk
            simp only [List.getD_cons_zero, List.getD_cons_succ, Nat.reduceAdd, flowAt]
            go_simp
            exact ⟨Ext.refl _, rfl⟩
          · rintro ρ w1 hw hcst hfn hk
            simp only [known, List.getD_cons_zero, List.getD_cons_succ, Nat.reduceAdd] at hk
            simp only [List.getD_cons_zero, List.getD_cons_succ, Nat.reduceAdd, flowAt]
            go_simp
            exact ⟨(Ext.refl _).alloc _, w1.heap.size, rfl, ((Ext.refl _).drew.trans hw).size, by simp, by simp, by simp, fun j => by simp⟩
        intro vs w1 hw hf
        simp only [flowFacts, Nat.reduceAdd] at hf
        obtain ⟨e0, e1, e2, e3, e4, e5, e6, e7, e8, e9, e10, -⟩ := hf
        simp only [List.take_succ_cons, List.take_zero, List.drop_succ_cons, List.drop_zero, putAll, Act.put, Nat.reduceAdd, List.setIfInBounds_toArray, List.set_cons_zero, List.set_cons_succ, e0, e1, e2, e3, e4, e5, e6, e7, e8, e9]
        clear e0 e1 e2 e3 e4 e5 e6 e7 e8 e9
        obtain ⟨g, hg, hg1, hg2, hg3, hg4, hg5⟩ := e10
        rw [hg]
        have hx4 := ((Ext.refl _).drew.trans hw)
        have ne2 : w.heap.size + 1 ≠ g := by omega
        clear hw c0 c1 t0 q1
        obtain ⟨W, hWW⟩ : ∃ W, (w1.setCell ⟨g, 0, none⟩ (.int .i64 R1)).setCell ⟨g, 1, none⟩ (.int .i64 (C1 + (j : Int))) = W := ⟨_, rfl⟩
        have g0 : W.cell? ⟨g, 0, none⟩ = some (.int .i64 R1) := by
          rw [← hWW, World.cell?_setCell_other _ _ _ _ (by simp)]
          exact World.cell?_setCell_same _ _ _ hg3
        have g1 : W.cell? ⟨g, 1, none⟩ = some (.int .i64 (C1 + (j : Int))) := by
          rw [← hWW]
          refine World.cell?_setCell_same _ _ _ (u := .int .i64 0) ?_
          rw [World.cell?_setCell_other _ _ _ _ (by simp)]
          exact hg4
        have gf : ∀ j, W.frozen? ⟨g, j, none⟩ = false := fun j => by rw [← hWW]; simpa using hg5 j
        have hxW : Ext wr W := by rw [← hWW]; exact (hx4.setCell hg1 _).setCell hg1 _
        have hgW : g < W.heap.size := by rw [← hWW]; simpa using hg2
        have b2W : W.cell? ⟨w.heap.size + 1, 2, none⟩ = some (.bool d) := hxW.cell b2
        have hsW := hxW.size
        clear hx4
        have HSQ : Hid (sqsV r c d [j] = [.int .i64 (if d then C1 + (j : Int) else R1), .int .i64 (if d then R1 else C1 + (j : Int))]) := hid (by show [Value.int .i64 (sqR r d j), .int .i64 (sqC c d j)] = _; rw [e1, e2])
        cases d
        · go_wp2_with (first | (rw [hWW]; clear hWW) | (at_builtin; refine wpList_push rfl _ _ 37 rfl El_sq rfl [_, _] rfl rfl (by simp [Value.oneCell']) (hown.out.ext hxW) (by omega) (by unfold maxLen; omega) (by omega) ?_; intro a3 c3 w4 hown3 hb3; have HO := hid hown3; clear hown3))
          go_roundw
          case rel => exact ⟨k + 1, c3, a3, by omega, by go_num, rfl, hid (by rw [HT1.out, sqsV_append, HSQ.out]; exact HO.out), (hx.trans hxW).thenBelow hb3 (by omega)⟩
          case measure => simp [intOf]; omega
        · obtain ⟨W2, hWW2⟩ : ∃ W2, (W.setCell ⟨g, 0, none⟩ (.int .i64 (C1 + (j : Int)))).setCell ⟨g, 1, none⟩ (.int .i64 R1) = W2 := ⟨_, rfl⟩
          have k0 : W2.cell? ⟨g, 0, none⟩ = some (.int .i64 (C1 + (j : Int))) := by
            rw [← hWW2, World.cell?_setCell_other _ _ _ _ (by simp)]
            exact World.cell?_setCell_same _ _ _ g0
          have k1 : W2.cell? ⟨g, 1, none⟩ = some (.int .i64 R1) := by
            rw [← hWW2]
            refine World.cell?_setCell_same _ _ _ (u := .int .i64 (C1 + (j : Int))) ?_
            rw [World.cell?_setCell_other _ _ _ _ (by simp)]
            exact g1
          have hxW2 : Ext wr W2 := by rw [← hWW2]; exact (hxW.setCell hg1 _).setCell hg1 _
          have hsW2 := hxW2.size
          go_wp2_with (first | (rw [hWW]; clear hWW) | (rw [hWW2]; clear hWW2) | (at_builtin; refine wpList_push rfl _ _ 37 rfl El_sq rfl [_, _] rfl rfl (by simp [Value.oneCell']) (hown.out.ext hxW2) (by omega) (by unfold maxLen; omega) (by omega) ?_; intro a3 c3 w4 hown3 hb3; have HO := hid hown3; clear hown3))
          go_roundw
          case rel => exact ⟨k + 1, c3, a3, by omega, by go_num, rfl, hid (by rw [HT1.out, sqsV_append, HSQ.out]; exact HO.out), (hx.trans hxW2).thenBelow hb3 (by omega)⟩
          case measure => simp [intOf]; omega
      · obtain rfl : k = l.length := by omega
        have HX : Hid (l.take l.length = l) := hid List.take_length
        rw [HX.out] at hown
        go_wp2_with fail
        go_returns
        exact ⟨a', cap, by rw [H.out, HE.out]; rfl, by rw [H.out]; exact (hown.out.inR.down (by omega)), hE3.trans hx⟩
end Go.Proofs.YtpjmenfnaembcaaDoor
