/- PlacedTiles, by both. Conditions stand at each. -/
import Derived.Test.YtpjmenfnaembcaaDoorCh12q
namespace Go.Proofs.YtpjmenfnaembcaaDoor
set_option linter.unusedVariables false
set_option linter.unusedSimpArgs false
open Go Go.RowKit
set_option maxHeartbeats 1000000 in
theorem PlacedTiles_any (n : Int) (p cs : ByteArray) (r c : Int) (d : Bool) (s : ByteArray) (w : World) (hp : p.size ≤ 1048576) (hc : cs.size ≤ 1048576) (hs : s.size ≤ 1048576) (hT : Tabs w) :
    Calls Tryd.prog 24 #[boardV n p cs, playV r c d s] w (Ret (plV n p cs r c d s) w) := by
  have H : Hid (plV n p cs r c d s = if okP n p cs r c d s then .tuple #[.string (plS s (usedL n cs r c d s)), .int .i64 0] else .tuple #[.string ⟨#[]⟩, .int .i64 1]) := hid rfl
  have HV := hid (ValidPlay_any n p cs r c d s _ hp hc hs (hT.ext (((Ext.refl w).alloc (.cells #[.int .i64 n, .string p, .string cs] 29)).alloc (.cells #[.int .i64 r, .int .i64 c, .bool d, .string s] 31))))
  clear hT
  go_enter Tryd.func24, Tryd.ntmps24
  go_wp2_with fail
  refine HV.out.mono ?_
  rintro e w1 ⟨rfl, hx⟩
  have a0 := hx.cell (b := w.heap.size) (o := 0) (v := .int .i64 n) (by simp)
  have a1 := hx.cell (b := w.heap.size) (o := 1) (v := .string p) (by simp)
  have a2 := hx.cell (b := w.heap.size) (o := 2) (v := .string cs) (by simp)
  have b0 := hx.cell (b := w.heap.size + 1) (o := 0) (v := .int .i64 r) (by simp)
  have b1 := hx.cell (b := w.heap.size + 1) (o := 1) (v := .int .i64 c) (by simp)
  have b2 := hx.cell (b := w.heap.size + 1) (o := 2) (v := .bool d) (by simp)
  have b3 := hx.cell (b := w.heap.size + 1) (o := 3) (v := .string s) (by simp)
  have hE := (((Ext.refl w).alloc _).alloc _).trans hx
  clear hx HV
  cases hk : okP n p cs r c d s
  · have HK := hid hk
    clear hk
    go_wp2_with fail
    go_returns
    exact ⟨by rw [H.out, HK.out]; rfl, hE⟩
  · have HK := hid hk
    have hk2 := hk
    unfold okP at hk2
    rw [Bool.and_eq_true] at hk2
    obtain ⟨h1, h2, h3, h4⟩ := okB_true hk2.1
    obtain ⟨m0, m1, m2⟩ := playB_true hk2.2
    have HPU := hid (fun w' => placedTiles_any n p cs r c d s w' h1 h2 h4 h3 (okB_parts hk2.1).2 m1 m2 (mainB_true m0).2.2)
    obtain ⟨L, hL⟩ : ∃ L, plS s (usedL n cs r c d s) = L := ⟨_, rfl⟩
    rw [hL] at HPU H
    clear hk hk2 h3 h4 m0 m1 m2 hL
    go_wp2_with fail
    refine (HPU.out _).mono ?_
    rintro e w2 ⟨rfl, hx⟩
    go_wp2_with fail
    go_returns
    exact ⟨by rw [H.out, HK.out]; rfl, hE.trans hx⟩
set_option maxHeartbeats 2000000 in
theorem l12Placed_any (b o : Nat) (n : Int) (p cs : ByteArray) (r c : Int) (s : ByteArray) (w : World) (hB : BdAt w b o n p cs) (h1 : 5 ≤ n) (h2 : n ≤ 15) (hc : (cs.size : Int) = n * n) (hin : inRC n r c = true) (hl : c + s.size ≤ n) :
    Calls Tryd.prog 39 #[.pointer (some ⟨b, o, none⟩), playV r c false s] w (Ret (.string ⟨(plU s (frL (fun i => sqAt n cs r (c + (i : Nat))) s.size)).toArray⟩) w) := by
  obtain ⟨r1, r2, r3, r4⟩ := inRC_true hin
  have hs15 : s.size ≤ 15 := by omega
  have HN := hid (fun w' (k : Ext w w') => l12Fresh_any b o n p cs r c s w' (hB.ext k) h1 h2 hc hin hl)
  obtain ⟨l, hll⟩ : ∃ l, frL (fun i => sqAt n cs r (c + (i : Nat))) s.size = l := ⟨_, rfl⟩
  have HIN : Hid (∀ k, k < l.length → l.getD k 0 < s.size) := hid (fun k hk => frL_lt (g := fun i => sqAt n cs r (c + (i : Nat))) (by rw [hll]; exact getD_mem hk))
  have hl15 : l.length ≤ 15 := by
    have := frL_le (fun i => sqAt n cs r (c + (i : Nat))) s.size
    rw [hll] at this
    omega
  rw [hll] at HN ⊢
  clear hll hin hl hc hB
  have HT := hid (plU_take s l)
  have HLEN := hid (plU_length s l)
  obtain ⟨L, hL⟩ : ∃ L, plU s l = L := ⟨_, rfl⟩
  rw [hL] at HT HLEN ⊢
  clear hL
  have HBE := hid (bAt_eq s)
  go_enter Tryd.func39, Tryd.ntmps39
  go_wp2_with fail
  refine (HN.out _ ((Ext.refl w).alloc _)).mono ?_
  rintro e w1 ⟨a, cc, rfl, ho, hx⟩
  have b3 := hx.cell (b := w.heap.size) (o := 3) (v := .string s) (by simp)
  have hE : Ext w w1 := ((Ext.refl w).alloc _).trans hx
  have HR := hid ho.rd
  clear hx ho HN
  go_wp2_with fail
  go_loopw [6, 7] (fun v i wr => ∃ (k cap : Nat) (a' : Option Addr), k ≤ l.length ∧ i = .int .i64 k ∧ v = .slice a' k cap ∧ Hid (Own wr w1.heap.size 5 1 a' k cap (bytesV (L.take k))) ∧ Ext w1 wr) (fun _ i _ => l.length - (intOf i).toNat)
  case atStart => exact ⟨0, 0, some ⟨w1.heap.size, 0, none⟩, by omega, rfl, rfl, hid (Own.empty _ _ _ _ _), (Ext.refl _).alloc _⟩
  case round =>
    obtain ⟨k, cap, a', hk, rfl, rfl, hown, hx⟩ := hrel
    have hsz := hx.size
    by_cases hlt : k < l.length
    · obtain ⟨b, o, rfl, hcl⟩ := (HR.out.ext hx).ints (by omega)
      have t0 := hcl k hlt
      have hbd := HIN.out k hlt
      have HT1 := hid (HT.out k hlt)
      replace b3 := hx.cell b3
      clear hcl
      obtain ⟨j, hj⟩ : ∃ j, l.getD k 0 = j := ⟨_, rfl⟩
      rw [hj] at t0 hbd HT1
      obtain ⟨u, hu⟩ : ∃ u, bAt s j = u := ⟨_, rfl⟩
      rw [hu] at HT1
      obtain ⟨q, hq⟩ : ∃ q, o + k = q := ⟨_, rfl⟩
      rw [hq] at t0
      have hsj : s[j] = u := by rw [HBE.out j hbd, hu]
      clear hj hu
      go_wp2_with fail
      refine wp_region_flow_at (C := Ext) 9 [fun v _ => v = .slice a' k cap, fun v _ => v = .pointer (some ⟨w.heap.size, 3, none⟩), fun v _ => v = .string s, fun v _ => v = .slice (some ⟨b, o, none⟩) l.length cc, fun v _ => v = .int .i64 (k : Int), fun v _ => v = .pointer (some ⟨b, q, none⟩), fun v _ => v = .int .i64 (j : Int), fun v _ => v = .int .u8 (u.toNat : Int), fun v w' => ∃ g, v = .slice (some ⟨g, 0, none⟩) 1 1 ∧ w'.cell? ⟨g, 0, none⟩ = some (.int .u8 (u.toNat : Int))]
        [[(6, none)], [(3, none)], [(19, some 1)], [(5, none)], [(7, none)], [(21, some 3), (22, some 4)], [(23, some 5)], [(20, some 2), (24, some 6)], [(25, some 7)]] (by kernel_rfl) (by kernel_rfl) Ext.refl (fun _ _ _ => Ext.trans) ?_ ?_ ?_
      · intro F hF
        simp only [List.mem_cons, List.not_mem_nil, or_false] at hF
        rcases hF with rfl | rfl | rfl | rfl | rfl | rfl | rfl | rfl | rfl
        · exact fun _ _ _ h _ => h
        · exact fun _ _ _ h _ => h
        · exact fun _ _ _ h _ => h
        · exact fun _ _ _ h _ => h
        · exact fun _ _ _ h _ => h
        · exact fun _ _ _ h _ => h
        · exact fun _ _ _ h _ => h
        · exact fun _ _ _ h _ => h
        · exact fun _ _ _ ⟨g, h1, h2⟩ k => ⟨g, h1, k.cell h2⟩
      · refine ⟨?_, ?_, ?_, ?_, ?_, ?_, ?_, ?_, ?_, trivial⟩
        · rintro ρ w1 hw hcst hfn hk
          clear hw
          simp only [known, List.getD_cons_zero, List.getD_cons_succ, Nat.reduceAdd] at hk
          simp only [List.getD_cons_zero, List.getD_cons_succ, Nat.reduceAdd, flowAt]
          go_simp
          exact ⟨Ext.refl _, rfl⟩
        · rintro ρ w1 hw hcst hfn hk
          clear hw
          simp only [known, List.getD_cons_zero, List.getD_cons_succ, Nat.reduceAdd] at hk
          simp only [List.getD_cons_zero, List.getD_cons_succ, Nat.reduceAdd, flowAt]
          go_simp
          exact ⟨Ext.refl _, rfl⟩
        · rintro ρ w1 hw hcst hfn hk
          have c0 := hw.cell (b := w.heap.size) (o := 3) (v := .string s) (by first | (simp [*]; done) | (simp [*, go_sem]; done) | go_cell)
          clear hw
          simp only [known, List.getD_cons_zero, List.getD_cons_succ, Nat.reduceAdd] at hk
          simp only [List.getD_cons_zero, List.getD_cons_succ, Nat.reduceAdd, flowAt]
          go_simp
          exact ⟨Ext.refl _, rfl⟩
        · rintro ρ w1 hw hcst hfn hk
          clear hw
          simp only [known, List.getD_cons_zero, List.getD_cons_succ, Nat.reduceAdd] at hk
          simp only [List.getD_cons_zero, List.getD_cons_succ, Nat.reduceAdd, flowAt]
          go_simp
          exact ⟨Ext.refl _, rfl⟩
        · rintro ρ w1 hw hcst hfn hk
          clear hw
          simp only [known, List.getD_cons_zero, List.getD_cons_succ, Nat.reduceAdd] at hk
          simp only [List.getD_cons_zero, List.getD_cons_succ, Nat.reduceAdd, flowAt]
          go_simp
          exact ⟨Ext.refl _, rfl⟩
        · rintro ρ w1 hw hcst hfn hk
          simp only [known, List.getD_cons_zero, List.getD_cons_succ, Nat.reduceAdd] at hk
          simp only [List.getD_cons_zero, List.getD_cons_succ, Nat.reduceAdd, flowAt]
          go_simp
          exact ⟨Ext.refl _, by first | rfl | rw [hq]⟩
        · rintro ρ w1 hw hcst hfn hk
          have c0 := hw.cell (b := b) (o := q) (v := .int .i64 (j : Int)) (by first | (simp [*]; done) | (simp [*, go_sem]; done) | go_cell)
          clear hw
          simp only [known, List.getD_cons_zero, List.getD_cons_succ, Nat.reduceAdd] at hk
          simp only [List.getD_cons_zero, List.getD_cons_succ, Nat.reduceAdd, flowAt]
          go_simp
          exact ⟨Ext.refl _, rfl⟩
        · rintro ρ w1 hw hcst hfn hk
          simp only [known, List.getD_cons_zero, List.getD_cons_succ, Nat.reduceAdd] at hk
          simp only [List.getD_cons_zero, List.getD_cons_succ, Nat.reduceAdd, flowAt]
          go_simp
          exact ⟨Ext.refl _, rfl⟩
        · rintro ρ w1 hw hcst hfn hk
          simp only [known, List.getD_cons_zero, List.getD_cons_succ, Nat.reduceAdd] at hk
          simp only [List.getD_cons_zero, List.getD_cons_succ, Nat.reduceAdd, flowAt]
          go_simp
          exact ⟨(Ext.refl _).alloc _, w1.heap.size, rfl, by simp⟩
      intro vs w1 hw hf
      simp only [flowFacts, Nat.reduceAdd] at hf
      obtain ⟨e0, e1, e2, e3, e4, e5, e6, e7, e8, -⟩ := hf
      simp only [List.take_succ_cons, List.take_zero, List.drop_succ_cons, List.drop_zero, putAll, Act.put, Nat.reduceAdd, List.setIfInBounds_toArray, List.set_cons_zero, List.set_cons_succ, e0, e1, e2, e3, e4, e5, e6, e7]
      clear e0 e1 e2 e3 e4 e5 e6 e7
      obtain ⟨g0, hg0, hgc⟩ := e8
      rw [hg0]
      have hx4 := ((Ext.refl _).drew.trans hw)
      have hown2 := hown.out.ext hx4
      have hs2 := hx4.size
      have hxx := hx.trans hx4
      clear hx4 hw hown t0 b3
      have HRd : Rd _ (some ⟨g0, 0, none⟩) [.int .u8 u.toNat] := Rd.one hgc
      go_wp2_with (at_builtin; refine wpList_appendv rfl _ _ 64 rfl El_u8 rfl rfl [.int .u8 u.toNat] HRd rfl (by omega) (by simp [Value.oneCell']) hown2 (by omega) (by unfold maxLen; omega) (by omega) ?_; intro a3 c3 w4 hown3 hb3; have HO := hid hown3; clear hown3 hown2)
      go_roundw
      case rel => exact ⟨k + 1, c3, a3, by omega, by go_num, rfl, hid (by rw [HT1.out, bytesV_append]; exact HO.out), hxx.thenBelow hb3 (by omega)⟩
      case measure => simp [intOf]; omega
    · obtain rfl : k = l.length := by omega
      have HX : Hid (L.take l.length = L) := hid (by rw [← HLEN.out]; exact List.take_length)
      rw [HX.out] at hown
      go_wp2_with (refine wpList_str rfl _ 64 9 rfl Tryd.underlying64 Tryd.underlying5 Tryd.underlying9 rfl (l := L) (by rw [HLEN.out]) hown.out.rd ?_)
      go_returns
      exact ⟨rfl, hE.trans hx⟩
set_option maxHeartbeats 2000000 in
theorem sPlacedTiles_any (n : Int) (p cs : ByteArray) (r c : Int) (d : Bool) (s : ByteArray) (w : World) (hp : p.size ≤ 1048576) (hc : cs.size ≤ 1048576) (hs : s.size ≤ 1048576) :
    Calls Tryd.prog 23 #[boardV n p cs, playV r c d s] w (Ret (plV n p cs r c d s) w) := by
  have H : Hid (plV n p cs r c d s = if okP n p cs r c d s then .tuple #[.string (plS s (usedL n cs r c d s)), .int .i64 0] else .tuple #[.string ⟨#[]⟩, .int .i64 1]) := hid rfl
  have HB : Hid (BdAt ((w.alloc (.cells #[.int .i64 n, .string p, .string cs] 29)).alloc (.cells #[.int .i64 r, .int .i64 c, .bool d, .string s] 31)) w.heap.size 0 n p cs) := hid ⟨by simp, by simp, by simp⟩
  go_enter Tryd.func23, Tryd.ntmps23
  go_wp2_with fail
  refine (l12Ok_any w.heap.size 0 n p cs r c d s _ HB.out hp hc hs).mono ?_
  rintro e w1 ⟨rfl, hx⟩
  have b0 := hx.cell (b := w.heap.size + 1) (o := 0) (v := .int .i64 r) (by simp)
  have b1 := hx.cell (b := w.heap.size + 1) (o := 1) (v := .int .i64 c) (by simp)
  have b2 := hx.cell (b := w.heap.size + 1) (o := 2) (v := .bool d) (by simp)
  have b3 := hx.cell (b := w.heap.size + 1) (o := 3) (v := .string s) (by simp)
  have HB1 := hid (HB.out.ext hx)
  have hE := (((Ext.refl w).alloc _).alloc _).trans hx
  clear hx
  cases hk : okP n p cs r c d s
  · have HK := hid hk
    clear hk
    go_wp2_with fail
    go_returns
    exact ⟨by rw [H.out, HK.out]; rfl, hE⟩
  · have HK := hid hk
    unfold okP at hk
    rw [Bool.and_eq_true] at hk
    obtain ⟨h1, h2, h3, h4⟩ := okB_true hk.1
    obtain ⟨m0, m1, m2⟩ := playB_true hk.2
    obtain ⟨N, rfl⟩ := nat_of h1
    have H3 : Hid (p.size = N * N) := hid (by rw [← Int.natCast_mul] at h3; omega)
    have H4 : Hid (cs.size = N * N) := hid (by rw [← Int.natCast_mul] at h4; omega)
    have hs15 : s.size ≤ 12 := (mainB_true m0).2.1
    obtain ⟨l, hll⟩ : ∃ l, usedL N cs r c d s = l := ⟨_, rfl⟩
    obtain ⟨fin, flim⟩ : inRC N (flatR d r c) (flatC d r c) = true ∧ flatC d r c + s.size ≤ N := ⟨by rw [flat_in]; exact m1, by rw [flat_lim]; exact m2⟩
    have hfr : frL (fun i => sqAt N (flatS d N cs) (flatR d r c) (flatC d r c + (i : Nat))) s.size = l := by
      rw [← hll]
      unfold usedL
      congr 1
      funext i
      exact flat_at d N cs r c i
    have hll15 : l.length ≤ 12 := by
      have := frL_le (fun i => plAt N cs r c d i) s.size
      rw [show frL _ s.size = l from hll] at this
      omega
    have HFS := hid (flatS_size d N cs H4.out)
    have HPS : Hid (plS s l = pileS ⟨(plU s l).toArray⟩) := hid rfl
    have HPL : Hid ((⟨(plU s l).toArray⟩ : ByteArray).size ≤ 12) := hid (by show (plU s l).toArray.size ≤ 12; simp [plU]; exact hll15)
    rw [hll] at H
    clear hk h3 h4 m0 m1 m2 hll
    go_wp2_with fail
    refine (l12Flat_any w.heap.size 0 N p cs r c d s _ HB1.out H3.out H4.out (by omega) (by omega)).mono ?_
    rintro e w2 ⟨he, hx⟩
    unfold flatV at he
    subst he
    obtain ⟨P2, hP2⟩ : ∃ P2, flatS d N p = P2 := ⟨_, rfl⟩
    obtain ⟨C2, hC2⟩ : ∃ C2, flatS d N cs = C2 := ⟨_, rfl⟩
    obtain ⟨R1, hR1⟩ : ∃ R1, flatR d r c = R1 := ⟨_, rfl⟩
    obtain ⟨C1, hC1⟩ : ∃ C1, flatC d r c = C1 := ⟨_, rfl⟩
    rw [hP2, hC2, hR1, hC1]
    rw [hC2, hR1, hC1] at hfr
    rw [hR1, hC1] at fin
    rw [hC1] at flim
    rw [hC2] at HFS
    have hE2 := hE.trans hx
    have HFr := hid (fun w' b' h => l12Placed_any b' 0 N P2 C2 R1 C1 s w' h h1 h2 (by rw [HFS.out, Int.natCast_mul]) fin flim)
    rw [hfr] at HFr
    obtain ⟨X, hX⟩ : ∃ X : ByteArray, (⟨(plU s l).toArray⟩ : ByteArray) = X := ⟨_, rfl⟩
    rw [hX] at HFr HPS HPL
    clear hP2 hC2 hR1 hC1 hfr fin b0 b1 b2 b3 hx hX
    have HW2 : Hid (BdAt ((w2.alloc (.cells #[.int .i64 N, .string P2, .string C2] 29)).alloc (.cells #[.int .i64 R1, .int .i64 C1, .bool false, .string s] 31)) w2.heap.size 0 N P2 C2) := hid ⟨by go_cell, by go_cell, by go_cell⟩
    go_wp2_with fail
    refine (HFr.out _ _ HW2.out).mono ?_
    rintro e w3 ⟨rfl, hy⟩
    have hE3 := hE2.trans ((((Ext.refl w2).alloc _).alloc _).trans hy)
    clear hy HFr HW2
    have HTL := hid (l03Tiles_any X w3 (by have := HPL.out; omega))
    rw [← HPS.out] at HTL
    obtain ⟨Y, hY⟩ : ∃ Y, plS s l = Y := ⟨_, rfl⟩
    rw [hY] at H HTL
    clear hY
    go_wp2_with fail
    refine HTL.out.mono ?_
    rintro e w4 ⟨rfl, hz⟩
    go_wp2_with fail
    go_returns
    exact ⟨by rw [H.out, HK.out]; rfl, hE3.trans hz⟩
end Go.Proofs.YtpjmenfnaembcaaDoor
