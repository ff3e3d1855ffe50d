/- PremiumsUsed, WordFactor, by both. Conditions stand at each. -/
import Derived.Test.YtpjmenfnaembcaaDoorCh12h
namespace Go.Proofs.YtpjmenfnaembcaaDoor
set_option linter.unusedVariables false
set_option linter.unusedSimpArgs false
open Go Go.RowKit
theorem playB_true {n : Int} {cs : ByteArray} {r c : Int} {d : Bool} {s : ByteArray} (h : playB n cs r c d s = true) : mainB s = true ∧ inRC n r c = true ∧ (if d then r else c) + (s.size : Int) ≤ n := by
  unfold playB at h
  simp only [Bool.and_eq_true, decide_eq_true_eq] at h
  exact ⟨h.1, h.2.1, h.2.2.1⟩
def usedL (n : Int) (cs : ByteArray) (r c : Int) (d : Bool) (s : ByteArray) : List Nat := frL (fun i => plAt n cs r c d i) s.size
def premV (n : Int) (p cs : ByteArray) (r c : Int) (d : Bool) (s : ByteArray) : Value := if okP n p cs r c d s then .tuple #[.string ⟨(prU n p r c d (usedL n cs r c d s)).toArray⟩, .int .i64 0] else .tuple #[.string ⟨#[]⟩, .int .i64 1]
set_option maxHeartbeats 1000000 in
theorem PremiumsUsed_any (n : Int) (p cs : ByteArray) (r c : Int) (d : Bool) (s : ByteArray) (w : World) (hp : p.size ≤ 1048576) (hc : cs.size ≤ 1048576) (hs : s.size ≤ 1048576) (hT : Tabs w) :
    Calls Tryd.prog 26 #[boardV n p cs, playV r c d s] w (Ret (premV n p cs r c d s) w) := by
  have H : Hid (premV n p cs r c d s = if okP n p cs r c d s then .tuple #[.string ⟨(prU n p r c d (usedL n cs r c d s)).toArray⟩, .int .i64 0] else .tuple #[.string ⟨#[]⟩, .int .i64 1]) := hid rfl
  have HV := hid (ValidPlay_any n p cs r c d s _ hp hc hs (hT.ext (((Ext.refl w).alloc (.cells #[.int .i64 n, .string p, .string cs] 29)).alloc (.cells #[.int .i64 r, .int .i64 c, .bool d, .string s] 31))))
  clear hT
  go_enter Tryd.func26, Tryd.ntmps26
  go_wp2_with fail
  refine HV.out.mono ?_
  rintro e w1 ⟨rfl, hx⟩
  have a0 := hx.cell (b := w.heap.size) (o := 0) (v := .int .i64 n) (by simp)
  have a1 := hx.cell (b := w.heap.size) (o := 1) (v := .string p) (by simp)
  have a2 := hx.cell (b := w.heap.size) (o := 2) (v := .string cs) (by simp)
  have b0 := hx.cell (b := w.heap.size + 1) (o := 0) (v := .int .i64 r) (by simp)
  have b1 := hx.cell (b := w.heap.size + 1) (o := 1) (v := .int .i64 c) (by simp)
  have b2 := hx.cell (b := w.heap.size + 1) (o := 2) (v := .bool d) (by simp)
  have b3 := hx.cell (b := w.heap.size + 1) (o := 3) (v := .string s) (by simp)
  have hE := (((Ext.refl w).alloc _).alloc _).trans hx
  clear hx HV
  cases hk : okP n p cs r c d s
  · have HK := hid hk
    clear hk
    go_wp2_with fail
    go_returns
    exact ⟨by rw [H.out, HK.out]; rfl, hE⟩
  · have HK := hid hk
    have hk2 := hk
    unfold okP at hk2
    rw [Bool.and_eq_true] at hk2
    obtain ⟨h1, h2, h3, h4⟩ := okB_true hk2.1
    obtain ⟨m0, m1, m2⟩ := playB_true hk2.2
    have HPU := hid (fun w' => premiumsUsed_any n p cs r c d s w' h1 h2 h4 h3 (okB_parts hk2.1).2 m1 m2 (mainB_true m0).2.2)
    obtain ⟨L, hL⟩ : ∃ L, prU n p r c d (frL (fun i => plAt n cs r c d i) s.size) = L := ⟨_, rfl⟩
    have HL : Hid (prU n p r c d (usedL n cs r c d s) = L) := hid hL
    rw [hL] at HPU
    clear hk hk2 h3 h4 m0 m1 m2 hL
    go_wp2_with fail
    refine (HPU.out _).mono ?_
    rintro e w2 ⟨a, cc, rfl, hown, hx⟩
    have HR := hid hown.rd
    clear hown
    go_wp2_with (refine wpList_str rfl _ 64 9 rfl Tryd.underlying64 Tryd.underlying5 Tryd.underlying9 rfl (l := L) rfl HR.out ?_)
    go_returns
    exact ⟨by rw [H.out, HK.out, HL.out]; rfl, hE.trans hx⟩
set_option maxHeartbeats 400000 in
theorem l13Premium_any (b o : Nat) (n : Int) (p c : ByteArray) (i j : Int) (w : World) (hB : BdAt w b o n p c) (h1 : 5 ≤ n) (h2 : n ≤ 15) (hp : (p.size : Int) = n * n) (hr : inRC n i j = true) :
    Calls Tryd.prog 41 #[.pointer (some ⟨b, o, none⟩), .int .i64 i, .int .i64 j] w fun e w' => e = .returned (.int .u8 (sqAt n p i j)) ∧ Dr w w' := by
  obtain ⟨e1, e2, e3, e4, e5⟩ := sq_index h1 h2 hp hr
  obtain ⟨a1, a2, a3, a4⟩ := inRC_true hr
  have HZ := hid (sqAt_in hr e5)
  have q1 : IntKind.i64.wrap (i * n) = i * n := IntWalk.i64_in _ (by omega)
  have q2 : IntKind.i64.wrap (i * n + j) = i * n + j := IntWalk.i64_in _ (by omega)
  clear hp hr
  obtain ⟨c0, c1, c2⟩ := hB
  go_enter Tryd.func41, Tryd.ntmps41
  go_wp2_with fail
  go_quiet (fail)
  go_wp2_with fail
  go_returns
  exact ⟨ret_int HZ.out, _, rfl⟩
theorem Rd.one {w : World} {g : Nat} {v : Value} (h : w.cell? ⟨g, 0, none⟩ = some v) : Rd w (some ⟨g, 0, none⟩) [v] := fun j u hj => by
  obtain rfl : j = 0 := by
    have := (List.getElem?_eq_some_iff.mp hj).1
    simp at this
    omega
  simp at hj
  exact ⟨g, 0, rfl, by rw [← hj]; exact h⟩
/-- The premium under a letter of a play, on the flat board. -/
theorem flat_prem (d : Bool) (n : Nat) (p : ByteArray) (r c : Int) (i : Nat) (h : inRC n (sqR r d i) (sqC c d i) = true) : inRC n (flatR d r c) (flatC d r c + i) = true ∧ sqAt n (flatS d n p) (flatR d r c) (flatC d r c + i) = ((prAt n p r c d i).toNat : Int) := by
  rw [flat_at, plAt_sq, prAt_eq h]
  refine ⟨?_, rfl⟩
  cases d
  · exact h
  · exact (inRC_comm _ _ _).trans h
set_option maxHeartbeats 2000000 in
theorem sPremiumsUsed_any (n : Int) (p cs : ByteArray) (r c : Int) (d : Bool) (s : ByteArray) (w : World) (hp : p.size ≤ 1048576) (hc : cs.size ≤ 1048576) (hs : s.size ≤ 1048576) :
    Calls Tryd.prog 25 #[boardV n p cs, playV r c d s] w (Ret (premV n p cs r c d s) w) := by
  have H : Hid (premV n p cs r c d s = if okP n p cs r c d s then .tuple #[.string ⟨(prU n p r c d (usedL n cs r c d s)).toArray⟩, .int .i64 0] else .tuple #[.string ⟨#[]⟩, .int .i64 1]) := hid rfl
  have HB : Hid (BdAt ((w.alloc (.cells #[.int .i64 n, .string p, .string cs] 29)).alloc (.cells #[.int .i64 r, .int .i64 c, .bool d, .string s] 31)) w.heap.size 0 n p cs) := hid ⟨by simp, by simp, by simp⟩
  go_enter Tryd.func25, Tryd.ntmps25
  go_wp2_with fail
  refine (l12Ok_any w.heap.size 0 n p cs r c d s _ HB.out hp hc hs).mono ?_
  rintro e w1 ⟨rfl, hx⟩
  have b0 := hx.cell (b := w.heap.size + 1) (o := 0) (v := .int .i64 r) (by simp)
  have b1 := hx.cell (b := w.heap.size + 1) (o := 1) (v := .int .i64 c) (by simp)
  have b2 := hx.cell (b := w.heap.size + 1) (o := 2) (v := .bool d) (by simp)
  have b3 := hx.cell (b := w.heap.size + 1) (o := 3) (v := .string s) (by simp)
  have HB1 := hid (HB.out.ext hx)
  have hE := (((Ext.refl w).alloc _).alloc _).trans hx
  clear hx
  cases hk : okP n p cs r c d s
  · have HK := hid hk
    clear hk
    go_wp2_with fail
    go_returns
    exact ⟨by rw [H.out, HK.out]; rfl, hE⟩
  · have HK := hid hk
    unfold okP at hk
    rw [Bool.and_eq_true] at hk
    obtain ⟨h1, h2, h3, h4⟩ := okB_true hk.1
    obtain ⟨m0, m1, m2⟩ := playB_true hk.2
    obtain ⟨N, rfl⟩ := nat_of h1
    have H3 : Hid (p.size = N * N) := hid (by rw [← Int.natCast_mul] at h3; omega)
    have H4 : Hid (cs.size = N * N) := hid (by rw [← Int.natCast_mul] at h4; omega)
    have hs15 : s.size ≤ 12 := (mainB_true m0).2.1
    obtain ⟨l, hll⟩ : ∃ l, usedL N cs r c d s = l := ⟨_, rfl⟩
    have HQ : Hid (∀ k, k < l.length → inRC N (sqR r d (l.getD k 0 : Nat)) (sqC c d (l.getD k 0 : Nat)) = true) := hid (fun k hk => sq_in m1 m2 _ (frL_lt (by rw [show frL _ s.size = l from hll]; exact getD_mem hk)))
    have HBD : Hid (∀ k, k < l.length → l.getD k 0 < 15) := hid (fun k hk => by have := frL_lt (g := fun i => plAt N cs r c d i) (m := s.size) (show l.getD k 0 ∈ _ by rw [show frL _ s.size = l from hll]; exact getD_mem hk); omega)
    have hl15 : l.length ≤ 12 := by
      have := frL_le (fun i => plAt N cs r c d i) s.size
      rw [show frL _ s.size = l from hll] at this
      omega
    have HFM := hid (fun k hk => flat_prem d N p r c (l.getD k 0) (HQ.out k hk))
    have HT := hid (prU_take N p r c d l)
    have HLEN := hid (prU_length N p r c d l)
    obtain ⟨fin, flim⟩ : inRC N (flatR d r c) (flatC d r c) = true ∧ flatC d r c + s.size ≤ N := ⟨by rw [flat_in]; exact m1, by rw [flat_lim]; exact m2⟩
    have hfr : frL (fun i => sqAt N (flatS d N cs) (flatR d r c) (flatC d r c + (i : Nat))) s.size = l := by
      rw [← hll]
      unfold usedL
      congr 1
      funext i
      exact flat_at d N cs r c i
    have HFS := hid (flatS_size d N cs H4.out)
    have HFP := hid (flatS_size d N p H3.out)
    obtain ⟨L, hL⟩ : ∃ L, prU N p r c d l = L := ⟨_, rfl⟩
    rw [hll, hL] at H
    rw [hL] at HT HLEN
    clear hk h3 h4 m0 m1 m2 hL hll
    go_wp2_with fail
    refine (l12Flat_any w.heap.size 0 N p cs r c d s _ HB1.out H3.out H4.out (by omega) (by omega)).mono ?_
    rintro e w2 ⟨he, hx⟩
    unfold flatV at he
    subst he
    obtain ⟨P2, hP2⟩ : ∃ P2, flatS d N p = P2 := ⟨_, rfl⟩
    obtain ⟨C2, hC2⟩ : ∃ C2, flatS d N cs = C2 := ⟨_, rfl⟩
    obtain ⟨R1, hR1⟩ : ∃ R1, flatR d r c = R1 := ⟨_, rfl⟩
    obtain ⟨C1, hC1⟩ : ∃ C1, flatC d r c = C1 := ⟨_, rfl⟩
    rw [hP2, hC2, hR1, hC1]
    rw [hC2, hR1, hC1] at hfr
    rw [hR1, hC1] at fin
    rw [hC1] at flim
    rw [hC2] at HFS
    rw [hP2] at HFP
    rw [hP2, hR1, hC1] at HFM
    obtain ⟨f1, f2, f3, f4⟩ := inRC_true fin
    have hE2 := hE.trans hx
    have HFr := hid (fun w' b' h => l12Fresh_any b' 0 N P2 C2 R1 C1 s w' h h1 h2 (by rw [HFS.out, Int.natCast_mul]) fin flim)
    rw [hfr] at HFr
    clear hP2 hC2 hR1 hC1 hfr fin b0 b1 b2 b3 hx
    have HW2 : Hid (BdAt ((w2.alloc (.cells #[.int .i64 N, .string P2, .string C2] 29)).alloc (.cells #[.int .i64 R1, .int .i64 C1, .bool false, .string s] 31)) w2.heap.size 0 N P2 C2) := hid ⟨by go_cell, by go_cell, by go_cell⟩
    go_wp2_with fail
    refine (HFr.out _ _ HW2.out).mono ?_
    rintro e w3 ⟨a, cc, rfl, hown, hy⟩
    have c0 := hy.cell (b := w2.heap.size + 1) (o := 0) (v := .int .i64 R1) (by simp)
    have c1 := hy.cell (b := w2.heap.size + 1) (o := 1) (v := .int .i64 C1) (by simp)
    have HW3 := hid (HW2.out.ext hy)
    have hE3 := hE2.trans ((((Ext.refl w2).alloc _).alloc _).trans hy)
    have HR := hid hown.rd
    clear hown hy HFr HW2
    go_wp2_with fail
    go_loopw [9, 10] (fun v i wr => ∃ (k cap : Nat) (a' : Option Addr), k ≤ l.length ∧ i = .int .i64 k ∧ v = .slice a' k cap ∧ Hid (Own wr w3.heap.size 5 1 a' k cap (bytesV (L.take k))) ∧ Ext w3 wr) (fun _ i _ => l.length - (intOf i).toNat)
    case atStart => exact ⟨0, 0, some ⟨w3.heap.size, 0, none⟩, by omega, rfl, rfl, hid (Own.empty _ _ _ _ _), (Ext.refl _).alloc _⟩
    case round =>
      obtain ⟨k, cap, a', hk, rfl, rfl, hown, hx⟩ := hrel
      have hsz := hx.size
      by_cases hlt : k < l.length
      · obtain ⟨b, o, rfl, hcl⟩ := (HR.out.ext hx).ints (by omega)
        have t0 := hcl k hlt
        have hbd := HBD.out k hlt
        obtain ⟨hfi, hfv⟩ := HFM.out k hlt
        have HT1 := hid (HT.out k hlt)
        replace c0 := hx.cell c0
        replace c1 := hx.cell c1
        obtain ⟨d0, d1, d2⟩ := HW3.out.ext hx
        clear hcl
        obtain ⟨j, hj⟩ : ∃ j, l.getD k 0 = j := ⟨_, rfl⟩
        rw [hj] at t0 hbd hfi hfv HT1
        obtain ⟨u, hu⟩ : ∃ u, prAt N p r c d j = u := ⟨_, rfl⟩
        rw [hu] at hfv HT1
        obtain ⟨q, hq⟩ : ∃ q, o + k = q := ⟨_, rfl⟩
        rw [hq] at t0
        have HPr := hid (fun w' h => l13Premium_any w2.heap.size 0 N P2 C2 R1 (C1 + (j : Int)) w' h h1 h2 (by rw [HFP.out, Int.natCast_mul]) hfi)
        rw [hfv] at HPr
        have HW4 := hid (HW3.out.ext hx)
        clear hfi hfv hj hu
        have q1 : IntKind.i64.wrap (C1 + (j : Int)) = C1 + (j : Int) := IntWalk.i64_in _ (by omega)
        go_wp2_with fail
        refine wp_region_flow_at (C := Ext) 12 [fun v _ => v = .slice a' k cap, fun v _ => v = .pointer (some ⟨(w2.heap.size + 1), 0, none⟩), fun v _ => v = .int .i64 R1, fun v _ => v = .pointer (some ⟨(w2.heap.size + 1), 1, none⟩), fun v _ => v = .int .i64 C1, fun v _ => v = .slice (some ⟨b, o, none⟩) l.length cc, fun v _ => v = .int .i64 (k : Int), fun v _ => v = .pointer (some ⟨b, q, none⟩), fun v _ => v = .int .i64 (j : Int), fun v _ => v = .int .i64 (C1 + (j : Int)), fun v _ => v = .int .u8 (u.toNat : Int), fun v w' => ∃ g, v = .slice (some ⟨g, 0, none⟩) 1 1 ∧ w'.cell? ⟨g, 0, none⟩ = some (.int .u8 (u.toNat : Int))]
          [[(9, none)], [(7, none)], [(29, some 1)], [(7, none)], [(31, some 3)], [(8, none)], [(10, none)], [(33, some 5), (34, some 6)], [(35, some 7)], [(32, some 4), (36, some 8)], [(6, none), (30, some 2), (37, some 9)], [(38, some 10)]] (by kernel_rfl) (by kernel_rfl) Ext.refl (fun _ _ _ => Ext.trans) ?_ ?_ ?_
        · intro F hF
          simp only [List.mem_cons, List.not_mem_nil, or_false] at hF
          rcases hF with rfl | rfl | rfl | rfl | rfl | rfl | rfl | rfl | rfl | rfl | rfl | rfl
          · exact fun _ _ _ h _ => h
          · exact fun _ _ _ h _ => h
          · exact fun _ _ _ h _ => h
          · exact fun _ _ _ h _ => h
          · exact fun _ _ _ h _ => h
          · exact fun _ _ _ h _ => h
          · exact fun _ _ _ h _ => h
          · exact fun _ _ _ h _ => h
          · exact fun _ _ _ h _ => h
          · exact fun _ _ _ h _ => h
          · exact fun _ _ _ h _ => h
          · exact fun _ _ _ ⟨g, h1, h2⟩ k => ⟨g, h1, k.cell h2⟩
        · refine ⟨?_, ?_, ?_, ?_, ?_, ?_, ?_, ?_, ?_, ?_, ?_, ?_, trivial⟩
          · rintro ρ w1 hw hcst hfn hk
            clear hw
            simp only [known, List.getD_cons_zero, List.getD_cons_succ, Nat.reduceAdd] at hk
            simp only [List.getD_cons_zero, List.getD_cons_succ, Nat.reduceAdd, flowAt]
            go_simp
            exact ⟨Ext.refl _, rfl⟩
          · rintro ρ w1 hw hcst hfn hk
            clear hw
            simp only [known, List.getD_cons_zero, List.getD_cons_succ, Nat.reduceAdd] at hk
            simp only [List.getD_cons_zero, List.getD_cons_succ, Nat.reduceAdd, flowAt]
            go_simp
            exact ⟨Ext.refl _, rfl⟩
          · rintro ρ w1 hw hcst hfn hk
            have c0 := hw.cell (b := (w2.heap.size + 1)) (o := 0) (v := .int .i64 R1) (by first | (simp [*]; done) | (simp [*, go_sem]; done) | go_cell)
            clear hw
            simp only [known, List.getD_cons_zero, List.getD_cons_succ, Nat.reduceAdd] at hk
            simp only [List.getD_cons_zero, List.getD_cons_succ, Nat.reduceAdd, flowAt]
            go_simp
            exact ⟨Ext.refl _, rfl⟩
          · rintro ρ w1 hw hcst hfn hk
            clear hw
            simp only [known, List.getD_cons_zero, List.getD_cons_succ, Nat.reduceAdd] at hk
            simp only [List.getD_cons_zero, List.getD_cons_succ, Nat.reduceAdd, flowAt]
            go_simp
            exact ⟨Ext.refl _, rfl⟩
          · rintro ρ w1 hw hcst hfn hk
            have c0 := hw.cell (b := (w2.heap.size + 1)) (o := 1) (v := .int .i64 C1) (by first | (simp [*]; done) | (simp [*, go_sem]; done) | go_cell)
            clear hw
            simp only [known, List.getD_cons_zero, List.getD_cons_succ, Nat.reduceAdd] at hk
            simp only [List.getD_cons_zero, List.getD_cons_succ, Nat.reduceAdd, flowAt]
            go_simp
            exact ⟨Ext.refl _, rfl⟩
          · rintro ρ w1 hw hcst hfn hk
            clear hw
            simp only [known, List.getD_cons_zero, List.getD_cons_succ, Nat.reduceAdd] at hk
            simp only [List.getD_cons_zero, List.getD_cons_succ, Nat.reduceAdd, flowAt]
            go_simp
            exact ⟨Ext.refl _, rfl⟩
          · rintro ρ w1 hw hcst hfn hk
            clear hw
            simp only [known, List.getD_cons_zero, List.getD_cons_succ, Nat.reduceAdd] at hk
            simp only [List.getD_cons_zero, List.getD_cons_succ, Nat.reduceAdd, flowAt]
            go_simp
            exact ⟨Ext.refl _, rfl⟩
          · rintro ρ w1 hw hcst hfn hk
            simp only [known, List.getD_cons_zero, List.getD_cons_succ, Nat.reduceAdd] at hk
            simp only [List.getD_cons_zero, List.getD_cons_succ, Nat.reduceAdd, flowAt]
            go_simp
            exact ⟨Ext.refl _, by first | rfl | rw [hq]⟩
          · rintro ρ w1 hw hcst hfn hk
            have c0 := hw.cell (b := b) (o := q) (v := .int .i64 (j : Int)) (by first | (simp [*]; done) | (simp [*, go_sem]; done) | go_cell)
            clear hw
            simp only [known, List.getD_cons_zero, List.getD_cons_succ, Nat.reduceAdd] at hk
            simp only [List.getD_cons_zero, List.getD_cons_succ, Nat.reduceAdd, flowAt]
            go_simp
            exact ⟨Ext.refl _, rfl⟩
          · rintro ρ w1 hw hcst hfn hk
            clear hw
            simp only [known, List.getD_cons_zero, List.getD_cons_succ, Nat.reduceAdd] at hk
            simp only [List.getD_cons_zero, List.getD_cons_succ, Nat.reduceAdd, flowAt]
            go_simp
            exact ⟨Ext.refl _, rfl⟩
          · rintro ρ w1 hw hcst hfn hk
            simp only [known, List.getD_cons_zero, List.getD_cons_succ, Nat.reduceAdd] at hk
            simp only [List.getD_cons_zero, List.getD_cons_succ, Nat.reduceAdd, flowAt]
            go_simp
            exact flow_dr (HPr.out _ (HW4.out.ext ((Ext.refl _).drew.trans hw)))
          · rintro ρ w1 hw hcst hfn hk
            simp only [known, List.getD_cons_zero, List.getD_cons_succ, Nat.reduceAdd] at hk
            simp only [List.getD_cons_zero, List.getD_cons_succ, Nat.reduceAdd, flowAt]
            go_simp
            exact ⟨(Ext.refl _).alloc _, w1.heap.size, rfl, by simp⟩
        intro vs w1 hw hf
        simp only [flowFacts, Nat.reduceAdd] at hf
        obtain ⟨e0, e1, e2, e3, e4, e5, e6, e7, e8, e9, e10, e11, -⟩ := hf
        simp only [List.take_succ_cons, List.take_zero, List.drop_succ_cons, List.drop_zero, putAll, Act.put, Nat.reduceAdd, List.setIfInBounds_toArray, List.set_cons_zero, List.set_cons_succ, e0, e1, e2, e3, e4, e5, e6, e7, e8, e9, e10]
        clear e0 e1 e2 e3 e4 e5 e6 e7 e8 e9 e10
        obtain ⟨g0, hg0, hgc⟩ := e11
        rw [hg0]
        have hx4 := ((Ext.refl _).drew.trans hw)
        have hown2 := hown.out.ext hx4
        have hs2 := hx4.size
        have hxx := hx.trans hx4
        clear hx4 hw hown c0 c1 d0 d1 d2 t0 q1 HPr
        have HRd : Rd _ (some ⟨g0, 0, none⟩) [.int .u8 u.toNat] := Rd.one hgc
        go_wp2_with (at_builtin; refine wpList_appendv rfl _ _ 64 rfl El_u8 rfl rfl [.int .u8 u.toNat] HRd rfl (by omega) (by simp [Value.oneCell']) hown2 (by omega) (by unfold maxLen; omega) (by omega) ?_; intro a3 c3 w4 hown3 hb3; have HO := hid hown3; clear hown3 hown2)
        go_roundw
        case rel => exact ⟨k + 1, c3, a3, by omega, by go_num, rfl, hid (by rw [HT1.out, bytesV_append]; exact HO.out), hxx.thenBelow hb3 (by omega)⟩
        case measure => simp [intOf]; omega
      · obtain rfl : k = l.length := by omega
        have HX : Hid (L.take l.length = L) := hid (by rw [← HLEN.out]; exact List.take_length)
        rw [HX.out] at hown
        go_wp2_with (refine wpList_str rfl _ 64 9 rfl Tryd.underlying64 Tryd.underlying5 Tryd.underlying9 rfl (l := L) (by rw [HLEN.out]) hown.out.rd ?_)
        go_returns
        exact ⟨by rw [H.out, HK.out]; rfl, hE3.trans hx⟩
end Go.Proofs.YtpjmenfnaembcaaDoor
