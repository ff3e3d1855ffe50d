/- WordFactor, by both. Conditions stand at each. -/
import Derived.Test.YtpjmenfnaembcaaDoorCh12i
namespace Go.Proofs.YtpjmenfnaembcaaDoor
set_option linter.unusedVariables false
set_option linter.unusedSimpArgs false
open Go Go.RowKit
/-- By what a premium multiplies a word. -/
def facU (u : UInt8) : Nat := if u.toNat = 100 then 2 else if u.toNat = 116 then 3 else 1
def prodU : List UInt8 → Nat
  | [] => 1
  | u :: l => facU u * prodU l
theorem facU_le (u : UInt8) : 1 ≤ facU u ∧ facU u ≤ 3 := by
  unfold facU
  split
  · omega
  · split <;> omega
theorem prodU_append (a b : List UInt8) : prodU (a ++ b) = prodU a * prodU b := by
  induction a with
  | nil => simp [prodU]
  | cons u l ih => simp [prodU, ih, Nat.mul_assoc]
theorem prodU_one (u : UInt8) : prodU [u] = facU u := by simp [prodU]
theorem prodU_le (l : List UInt8) : prodU l ≤ 3 ^ l.length := by
  induction l with
  | nil => simp [prodU]
  | cons u l ih =>
    simp only [prodU, List.length_cons, Nat.pow_succ]
    rw [Nat.mul_comm]
    exact Nat.mul_le_mul ih (facU_le u).2
theorem prodU_take_le (l : List UInt8) (h : l.length ≤ 15) (k : Nat) : prodU (l.take k) ≤ 14348907 :=
  Nat.le_trans (prodU_le _) (Nat.le_trans (Nat.pow_le_pow_right (by omega) (show (l.take k).length ≤ 15 by rw [List.length_take]; omega)) (by decide))
theorem prodU_step {l : List UInt8} {k : Nat} {u : UInt8} (h : l.take (k + 1) = l.take k ++ [u]) : prodU (l.take (k + 1)) = prodU (l.take k) * facU u := by
  rw [h, prodU_append, prodU_one]
theorem Rd.bytes {w : World} {a : Option Addr} {l : List UInt8} (h : Rd w a (bytesV l)) (hn : 0 < l.length) : ∃ b o, a = some ⟨b, o, none⟩ ∧ ∀ k, k < l.length → w.cell? ⟨b, o + k, none⟩ = some (.int .u8 (l.getD k 0).toNat) := by
  obtain ⟨b, o, e, hc⟩ := h.at (by rw [bytesV_length]; exact hn)
  refine ⟨b, o, e, fun k hk => hc k _ ?_⟩
  rw [bytesV_get, List.getD_eq_getElem?_getD, List.getElem?_eq_getElem hk]
  rfl
theorem takeU {l : List UInt8} {k : Nat} (h : k < l.length) : l.take (k + 1) = l.take k ++ [l.getD k 0] := by
  rw [List.take_succ_eq_append_getElem h, List.getD_eq_getElem?_getD, List.getElem?_eq_getElem h]
  rfl
set_option maxHeartbeats 1000000 in
theorem wordFactor_any (a : Option Addr) (cc : Nat) (l : List UInt8) (w : World) (hr : Rd w a (bytesV l)) (h15 : l.length ≤ 15) :
    Calls Tryd.prog 44 #[.slice a l.length cc] w (Ret (.int .i64 (prodU l : Nat)) w) := by
  have HR := hid hr
  have HB := hid (prodU_take_le l h15)
  clear hr
  go_enter Tryd.func44, Tryd.ntmps44
  go_wp2_with fail
  go_loopw [2, 7] (fun v i wr => ∃ k : Nat, k ≤ l.length ∧ i = .int .i64 k ∧ v = .int .i64 (prodU (l.take k) : Nat) ∧ wr = w) (fun _ i _ => l.length - (intOf i).toNat)
  case atStart => exact ⟨0, by omega, rfl, rfl, rfl⟩
  case round =>
    obtain ⟨k, hk, rfl, rfl, rfl⟩ := hrel
    by_cases hlt : k < l.length
    · obtain ⟨b, o, rfl, hcl⟩ := HR.out.bytes (by omega)
      have t0 := hcl k hlt
      have HS := hid (prodU_step (takeU hlt))
      have hb := HB.out k
      obtain ⟨u, hu⟩ : ∃ u, l.getD k 0 = u := ⟨_, rfl⟩
      rw [hu] at t0 HS
      obtain ⟨z, hz⟩ : ∃ z, prodU (l.take k) = z := ⟨_, rfl⟩
      rw [hz] at HS hb
      rw [hz]
      clear hcl hu hz
      have HF : Hid (facU u = if u.toNat = 100 then 2 else if u.toNat = 116 then 3 else 1) := hid rfl
      have hu8 := u.toNat_lt
      by_cases e1 : u.toNat = 100
      · go_wp2_with fail
        go_roundw
        case rel => exact ⟨k + 1, by omega, by go_num, by rw [HS.out, HF.out, if_pos e1]; push_cast; rfl, trivial⟩
        case measure => simp [intOf]; omega
      · by_cases e2 : u.toNat = 116
        · go_wp2_with fail
          go_roundw
          case rel => exact ⟨k + 1, by omega, by go_num, by rw [HS.out, HF.out, if_neg e1, if_pos e2]; push_cast; rfl, trivial⟩
          case measure => simp [intOf]; omega
        · go_wp2_with fail
          go_roundw
          case rel => exact ⟨k + 1, by omega, by go_num, by rw [HS.out, HF.out, if_neg e1, if_neg e2, Nat.mul_one], trivial⟩
          case measure => simp [intOf]; omega
    · obtain rfl : k = l.length := by omega
      have HX : Hid (l.take l.length = l) := hid List.take_length
      rw [HX.out]
      go_wp2_with fail
      go_returns
      exact ⟨rfl, Ext.refl _⟩
def facV (n : Int) (p cs : ByteArray) (r c : Int) (d : Bool) (s : ByteArray) : Value := if okP n p cs r c d s then .tuple #[.int .i64 (prodU (prU n p r c d (usedL n cs r c d s)) : Nat), .int .i64 0] else .tuple #[.int .i64 0, .int .i64 1]
set_option maxHeartbeats 1000000 in
theorem WordFactor_any (n : Int) (p cs : ByteArray) (r c : Int) (d : Bool) (s : ByteArray) (w : World) (hp : p.size ≤ 1048576) (hc : cs.size ≤ 1048576) (hs : s.size ≤ 1048576) (hT : Tabs w) :
    Calls Tryd.prog 28 #[boardV n p cs, playV r c d s] w (Ret (facV n p cs r c d s) w) := by
  have H : Hid (facV n p cs r c d s = if okP n p cs r c d s then .tuple #[.int .i64 (prodU (prU n p r c d (usedL n cs r c d s)) : Nat), .int .i64 0] else .tuple #[.int .i64 0, .int .i64 1]) := hid rfl
  have HV := hid (ValidPlay_any n p cs r c d s _ hp hc hs (hT.ext (((Ext.refl w).alloc (.cells #[.int .i64 n, .string p, .string cs] 29)).alloc (.cells #[.int .i64 r, .int .i64 c, .bool d, .string s] 31))))
  clear hT
  go_enter Tryd.func28, Tryd.ntmps28
  go_wp2_with fail
  refine HV.out.mono ?_
  rintro e w1 ⟨rfl, hx⟩
  have a0 := hx.cell (b := w.heap.size) (o := 0) (v := .int .i64 n) (by simp)
  have a1 := hx.cell (b := w.heap.size) (o := 1) (v := .string p) (by simp)
  have a2 := hx.cell (b := w.heap.size) (o := 2) (v := .string cs) (by simp)
  have b0 := hx.cell (b := w.heap.size + 1) (o := 0) (v := .int .i64 r) (by simp)
  have b1 := hx.cell (b := w.heap.size + 1) (o := 1) (v := .int .i64 c) (by simp)
  have b2 := hx.cell (b := w.heap.size + 1) (o := 2) (v := .bool d) (by simp)
  have b3 := hx.cell (b := w.heap.size + 1) (o := 3) (v := .string s) (by simp)
  have hE := (((Ext.refl w).alloc _).alloc _).trans hx
  clear hx HV
  cases hk : okP n p cs r c d s
  · have HK := hid hk
    clear hk
    go_wp2_with fail
    go_returns
    exact ⟨by rw [H.out, HK.out]; rfl, hE⟩
  · have HK := hid hk
    have hk2 := hk
    unfold okP at hk2
    rw [Bool.and_eq_true] at hk2
    obtain ⟨h1, h2, h3, h4⟩ := okB_true hk2.1
    obtain ⟨m0, m1, m2⟩ := playB_true hk2.2
    have HPU := hid (fun w' => premiumsUsed_any n p cs r c d s w' h1 h2 h4 h3 (okB_parts hk2.1).2 m1 m2 (mainB_true m0).2.2)
    have h15 : (prU n p r c d (usedL n cs r c d s)).length ≤ 15 := by
      rw [prU_length]
      have := frL_le (fun i => plAt n cs r c d i) s.size
      have := (mainB_true m0).2.1
      unfold usedL
      omega
    obtain ⟨L, hL⟩ : ∃ L, prU n p r c d (frL (fun i => plAt n cs r c d i) s.size) = L := ⟨_, rfl⟩
    have HL : Hid (prU n p r c d (usedL n cs r c d s) = L) := hid hL
    rw [HL.out] at h15
    rw [hL] at HPU
    clear hk hk2 h3 h4 m0 m1 m2 hL
    go_wp2_with fail
    refine (HPU.out _).mono ?_
    rintro e w2 ⟨a, cc, rfl, hown, hx⟩
    have HR := hid hown.rd
    clear hown
    replace hE := hE.trans hx
    clear hx
    go_wp2_with fail
    refine (wordFactor_any _ _ L _ HR.out h15).mono ?_
    rintro e w3 ⟨rfl, hx⟩
    go_wp2_with fail
    go_returns
    exact ⟨by rw [H.out, HK.out, HL.out]; rfl, hE.trans hx⟩
set_option maxHeartbeats 400000 in
theorem l13Factor_any (b o : Nat) (n : Int) (p c : ByteArray) (i j : Int) (u : UInt8) (w : World) (hB : BdAt w b o n p c) (h1 : 5 ≤ n) (h2 : n ≤ 15) (hp : (p.size : Int) = n * n) (hr : inRC n i j = true) (hu : sqAt n p i j = (u.toNat : Int)) :
    Calls Tryd.prog 64 #[.pointer (some ⟨b, o, none⟩), .int .i64 i, .int .i64 j] w fun e w' => e = .returned (.int .i64 (facU u : Nat)) ∧ Dr w w' := by
  have HP := hid (l13Premium_any b o n p c i j w hB h1 h2 hp hr)
  rw [hu] at HP
  have HF : Hid (facU u = if u.toNat = 100 then 2 else if u.toNat = 116 then 3 else 1) := hid rfl
  have hu8 := u.toNat_lt
  clear hu hp hB hr
  go_enter Tryd.func64, Tryd.ntmps64
  go_wp2_with fail
  refine HP.out.mono ?_
  rintro e w1 ⟨rfl, hd⟩
  by_cases e1 : u.toNat = 100
  · go_wp2_with fail
    go_returns
    exact ⟨by rw [HF.out, if_pos e1]; rfl, hd⟩
  · by_cases e2 : u.toNat = 116
    · go_wp2_with fail
      go_returns
      exact ⟨by rw [HF.out, if_neg e1, if_pos e2]; rfl, hd⟩
    · go_wp2_with fail
      go_returns
      exact ⟨by rw [HF.out, if_neg e1, if_neg e2]; rfl, hd⟩
theorem prU_getD (n : Int) (p : ByteArray) (r c : Int) (d : Bool) (l : List Nat) (k : Nat) (h : k < l.length) : (prU n p r c d l).getD k 0 = prAt n p r c d (l.getD k 0) := by
  simp [prU, List.getD_eq_getElem?_getD, h]
set_option maxHeartbeats 1000000 in
theorem l13Main_any (b : Nat) (N : Nat) (P C : ByteArray) (R1 C1 : Int) (s : ByteArray) (l : List Nat) (L : List UInt8) (w : World) (hB : BdAt w b 0 N P C) (h1 : 5 ≤ (N : Int)) (h2 : (N : Int) ≤ 15) (hP : (P.size : Int) = N * N) (hl : l.length ≤ 15) (hb : ∀ k, k < l.length → l.getD k 0 < 15) (hc0 : 0 ≤ C1) (hc1 : C1 ≤ 15)
    (HM : ∀ k, k < l.length → inRC N R1 (C1 + (l.getD k 0 : Nat)) = true ∧ sqAt N P R1 (C1 + (l.getD k 0 : Nat)) = ((L.getD k 0).toNat : Int)) (hL : L.length = l.length)
    (HFr : ∀ w' b', BdAt w' b' 0 N P C → Calls Tryd.prog 35 #[.pointer (some ⟨b', 0, none⟩), playV R1 C1 false s] w' (RetI 2 l w')) :
    Calls Tryd.prog 43 #[.pointer (some ⟨b, 0, none⟩), playV R1 C1 false s] w (Ret (.int .i64 (prodU L : Nat)) w) := by
  have HB1 := hid hB
  have HFr1 := hid HFr
  have HM1 := hid HM
  have HB2 := hid hb
  have HB := hid (prodU_take_le L (by omega))
  have HPs := hid hP
  clear hB HFr HM hb hP
  go_enter Tryd.func43, Tryd.ntmps43
  go_wp2_with fail
  refine (HFr1.out _ _ (HB1.out.ext ((Ext.refl _).alloc _))).mono ?_
  rintro e w3 ⟨a, cc, rfl, hown, hy⟩
  have c0 := hy.cell (b := w.heap.size) (o := 0) (v := .int .i64 R1) (by simp)
  have c1 := hy.cell (b := w.heap.size) (o := 1) (v := .int .i64 C1) (by simp)
  have HW3 := hid (HB1.out.ext (((Ext.refl _).alloc _).trans hy))
  have hE3 := ((Ext.refl w).alloc _).trans hy
  have HR := hid hown.rd
  clear hown hy HFr1
  go_wp2_with fail
  go_loopw [6, 7] (fun v i wr => ∃ k : Nat, k ≤ l.length ∧ i = .int .i64 k ∧ v = .int .i64 (prodU (L.take k) : Nat) ∧ Ext w3 wr) (fun _ i _ => l.length - (intOf i).toNat)
  case atStart => exact ⟨0, by omega, rfl, rfl, Ext.refl _⟩
  case round =>
    obtain ⟨k, hk, rfl, rfl, hx⟩ := hrel
    by_cases hlt : k < l.length
    · obtain ⟨g, o, rfl, hcl⟩ := (HR.out.ext hx).ints (by omega)
      have t0 := hcl k hlt
      have hbd := HB2.out k hlt
      obtain ⟨hfi, hfv⟩ := HM1.out k hlt
      have HS := hid (prodU_step (takeU (l := L) (k := k) (by omega)))
      have hbb := HB.out k
      replace c0 := hx.cell c0
      replace c1 := hx.cell c1
      have HW4 := hid (HW3.out.ext hx)
      clear hcl
      obtain ⟨j, hj⟩ : ∃ j, l.getD k 0 = j := ⟨_, rfl⟩
      rw [hj] at t0 hbd hfi hfv
      obtain ⟨u, hu⟩ : ∃ u, L.getD k 0 = u := ⟨_, rfl⟩
      rw [hu] at hfv HS
      obtain ⟨z, hz⟩ : ∃ z, prodU (L.take k) = z := ⟨_, rfl⟩
      rw [hz] at HS hbb
      rw [hz]
      obtain ⟨q, hq⟩ : ∃ q, o + k = q := ⟨_, rfl⟩
      rw [hq] at t0
      have HPr := hid (fun w' h => l13Factor_any b 0 N P C R1 (C1 + (j : Int)) u w' h h1 h2 HPs.out hfi hfv)
      have hf := facU_le u
      obtain ⟨f, hff⟩ : ∃ f, facU u = f := ⟨_, rfl⟩
      rw [hff] at HS HPr hf
      clear hfi hfv hj hu hz hff
      have hzf : z * f ≤ 14348907 * 3 := Nat.mul_le_mul hbb hf.2
      have q1 : IntKind.i64.wrap (C1 + (j : Int)) = C1 + (j : Int) := IntWalk.i64_in _ (by omega)
      have q2 : IntKind.i64.wrap ((z : Int) * (f : Int)) = (z : Int) * (f : Int) := IntWalk.i64_in _ (by rw [← Int.natCast_mul]; omega)
      go_wp2_with fail
      refine wp_region_flow_at (C := Ext) 13 [fun v _ => v = .int .i64 (z : Int), fun v _ => v = .pointer (some ⟨b, 0, none⟩), fun v _ => v = .pointer (some ⟨w.heap.size, 0, none⟩), fun v _ => v = .int .i64 R1, fun v _ => v = .pointer (some ⟨w.heap.size, 1, none⟩), fun v _ => v = .int .i64 C1, fun v _ => v = .slice (some ⟨g, o, none⟩) l.length cc, fun v _ => v = .int .i64 (k : Int), fun v _ => v = .pointer (some ⟨g, q, none⟩), fun v _ => v = .int .i64 (j : Int), fun v _ => v = .int .i64 (C1 + (j : Int)), fun v _ => v = .int .i64 (f : Int), fun v _ => v = .int .i64 ((z : Int) * (f : Int))]
        [[(6, none)], [(0, none)], [(3, none)], [(19, some 2)], [(3, none)], [(21, some 4)], [(5, none)], [(7, none)], [(23, some 6), (24, some 7)], [(25, some 8)], [(22, some 5), (26, some 9)], [(18, some 1), (20, some 3), (27, some 10)], [(17, some 0), (28, some 11)]] (by kernel_rfl) (by kernel_rfl) Ext.refl (fun _ _ _ => Ext.trans) ?_ ?_ ?_
      · intro F hF
        simp only [List.mem_cons, List.not_mem_nil, or_false] at hF
        rcases hF with rfl | rfl | rfl | rfl | rfl | rfl | rfl | rfl | rfl | rfl | rfl | rfl | rfl <;> exact fun _ _ _ h _ => h
      · refine ⟨?_, ?_, ?_, ?_, ?_, ?_, ?_, ?_, ?_, ?_, ?_, ?_, ?_, trivial⟩
        · rintro ρ w1 hw hcst hfn hk
          clear hw
          simp only [known, List.getD_cons_zero, List.getD_cons_succ, Nat.reduceAdd] at hk
          simp only [List.getD_cons_zero, List.getD_cons_succ, Nat.reduceAdd, flowAt]
          go_simp
          exact ⟨Ext.refl _, rfl⟩
        · rintro ρ w1 hw hcst hfn hk
          clear hw
          simp only [known, List.getD_cons_zero, List.getD_cons_succ, Nat.reduceAdd] at hk
          simp only [List.getD_cons_zero, List.getD_cons_succ, Nat.reduceAdd, flowAt]
          go_simp
          exact ⟨Ext.refl _, rfl⟩
        · rintro ρ w1 hw hcst hfn hk
          clear hw
          simp only [known, List.getD_cons_zero, List.getD_cons_succ, Nat.reduceAdd] at hk
          simp only [List.getD_cons_zero, List.getD_cons_succ, Nat.reduceAdd, flowAt]
          go_simp
          exact ⟨Ext.refl _, rfl⟩
        · rintro ρ w1 hw hcst hfn hk
          have c0 := hw.cell (b := w.heap.size) (o := 0) (v := .int .i64 R1) (by first | (simp [*]; done) | (simp [*, go_sem]; done) | go_cell)
          clear hw
          simp only [known, List.getD_cons_zero, List.getD_cons_succ, Nat.reduceAdd] at hk
          simp only [List.getD_cons_zero, List.getD_cons_succ, Nat.reduceAdd, flowAt]
          go_simp
          exact ⟨Ext.refl _, rfl⟩
        · rintro ρ w1 hw hcst hfn hk
          clear hw
          simp only [known, List.getD_cons_zero, List.getD_cons_succ, Nat.reduceAdd] at hk
          simp only [List.getD_cons_zero, List.getD_cons_succ, Nat.reduceAdd, flowAt]
          go_simp
          exact ⟨Ext.refl _, rfl⟩
        · rintro ρ w1 hw hcst hfn hk
          have c0 := hw.cell (b := w.heap.size) (o := 1) (v := .int .i64 C1) (by first | (simp [*]; done) | (simp [*, go_sem]; done) | go_cell)
          clear hw
          simp only [known, List.getD_cons_zero, List.getD_cons_succ, Nat.reduceAdd] at hk
          simp only [List.getD_cons_zero, List.getD_cons_succ, Nat.reduceAdd, flowAt]
          go_simp
          exact ⟨Ext.refl _, rfl⟩
        · rintro ρ w1 hw hcst hfn hk
          clear hw
          simp only [known, List.getD_cons_zero, List.getD_cons_succ, Nat.reduceAdd] at hk
          simp only [List.getD_cons_zero, List.getD_cons_succ, Nat.reduceAdd, flowAt]
          go_simp
          exact ⟨Ext.refl _, rfl⟩
        · rintro ρ w1 hw hcst hfn hk
          clear hw
          simp only [known, List.getD_cons_zero, List.getD_cons_succ, Nat.reduceAdd] at hk
          simp only [List.getD_cons_zero, List.getD_cons_succ, Nat.reduceAdd, flowAt]
          go_simp
          exact ⟨Ext.refl _, rfl⟩
        · rintro ρ w1 hw hcst hfn hk
          simp only [known, List.getD_cons_zero, List.getD_cons_succ, Nat.reduceAdd] at hk
          simp only [List.getD_cons_zero, List.getD_cons_succ, Nat.reduceAdd, flowAt]
          go_simp
          exact ⟨Ext.refl _, by first | rfl | rw [hq]⟩
        · rintro ρ w1 hw hcst hfn hk
          have c0 := hw.cell (b := g) (o := q) (v := .int .i64 (j : Int)) (by first | (simp [*]; done) | (simp [*, go_sem]; done) | go_cell)
          clear hw
          simp only [known, List.getD_cons_zero, List.getD_cons_succ, Nat.reduceAdd] at hk
          simp only [List.getD_cons_zero, List.getD_cons_succ, Nat.reduceAdd, flowAt]
          go_simp
          exact ⟨Ext.refl _, rfl⟩
        · rintro ρ w1 hw hcst hfn hk
          clear hw
          simp only [known, List.getD_cons_zero, List.getD_cons_succ, Nat.reduceAdd] at hk
          simp only [List.getD_cons_zero, List.getD_cons_succ, Nat.reduceAdd, flowAt]
          go_simp
          exact ⟨Ext.refl _, rfl⟩
        · rintro ρ w1 hw hcst hfn hk
          simp only [known, List.getD_cons_zero, List.getD_cons_succ, Nat.reduceAdd] at hk
          simp only [List.getD_cons_zero, List.getD_cons_succ, Nat.reduceAdd, flowAt]
          go_simp
          exact flow_dr (HPr.out _ (HW4.out.ext ((Ext.refl _).drew.trans hw)))
        · rintro ρ w1 hw hcst hfn hk
          clear hw
          simp only [known, List.getD_cons_zero, List.getD_cons_succ, Nat.reduceAdd] at hk
          simp only [List.getD_cons_zero, List.getD_cons_succ, Nat.reduceAdd, flowAt]
          go_simp
          exact ⟨Ext.refl _, rfl⟩
      intro vs w1 hw hf
      simp only [flowFacts, Nat.reduceAdd] at hf
      obtain ⟨e0, e1, e2, e3, e4, e5, e6, e7, e8, e9, e10, e11, e12, -⟩ := hf
      simp only [List.take_succ_cons, List.take_zero, List.drop_succ_cons, List.drop_zero, putAll, Act.put, Nat.reduceAdd, List.setIfInBounds_toArray, List.set_cons_zero, List.set_cons_succ, e0, e1, e2, e3, e4, e5, e6, e7, e8, e9, e10, e11, e12]
      clear e0 e1 e2 e3 e4 e5 e6 e7 e8 e9 e10 e11 e12
      have hx4 := hx.trans ((Ext.refl _).drew.trans hw)
      clear hw c0 c1 t0 q1 q2 HPr
      go_wp2_with fail
      go_roundw
      case rel => exact ⟨k + 1, by omega, by go_num, by rw [HS.out]; push_cast; rfl, hx4⟩
      case measure => simp [intOf]; omega
    · obtain rfl : k = l.length := by omega
      have HX : Hid (L.take l.length = L) := hid (by rw [← hL]; exact List.take_length)
      rw [HX.out]
      go_wp2_with fail
      go_returns
      exact ⟨rfl, hE3.trans hx⟩
set_option maxHeartbeats 2000000 in
theorem sWordFactor_any (n : Int) (p cs : ByteArray) (r c : Int) (d : Bool) (s : ByteArray) (w : World) (hp : p.size ≤ 1048576) (hc : cs.size ≤ 1048576) (hs : s.size ≤ 1048576) :
    Calls Tryd.prog 27 #[boardV n p cs, playV r c d s] w (Ret (facV n p cs r c d s) w) := by
  have H : Hid (facV n p cs r c d s = if okP n p cs r c d s then .tuple #[.int .i64 (prodU (prU n p r c d (usedL n cs r c d s)) : Nat), .int .i64 0] else .tuple #[.int .i64 0, .int .i64 1]) := hid rfl
  have HB : Hid (BdAt ((w.alloc (.cells #[.int .i64 n, .string p, .string cs] 29)).alloc (.cells #[.int .i64 r, .int .i64 c, .bool d, .string s] 31)) w.heap.size 0 n p cs) := hid ⟨by simp, by simp, by simp⟩
  go_enter Tryd.func27, Tryd.ntmps27
  go_wp2_with fail
  refine (l12Ok_any w.heap.size 0 n p cs r c d s _ HB.out hp hc hs).mono ?_
  rintro e w1 ⟨rfl, hx⟩
  have b0 := hx.cell (b := w.heap.size + 1) (o := 0) (v := .int .i64 r) (by simp)
  have b1 := hx.cell (b := w.heap.size + 1) (o := 1) (v := .int .i64 c) (by simp)
  have b2 := hx.cell (b := w.heap.size + 1) (o := 2) (v := .bool d) (by simp)
  have b3 := hx.cell (b := w.heap.size + 1) (o := 3) (v := .string s) (by simp)
  have HB1 := hid (HB.out.ext hx)
  have hE := (((Ext.refl w).alloc _).alloc _).trans hx
  clear hx
  cases hk : okP n p cs r c d s
  · have HK := hid hk
    clear hk
    go_wp2_with fail
    go_returns
    exact ⟨by rw [H.out, HK.out]; rfl, hE⟩
  · have HK := hid hk
    unfold okP at hk
    rw [Bool.and_eq_true] at hk
    obtain ⟨h1, h2, h3, h4⟩ := okB_true hk.1
    obtain ⟨m0, m1, m2⟩ := playB_true hk.2
    obtain ⟨N, rfl⟩ := nat_of h1
    have H3 : Hid (p.size = N * N) := hid (by rw [← Int.natCast_mul] at h3; omega)
    have H4 : Hid (cs.size = N * N) := hid (by rw [← Int.natCast_mul] at h4; omega)
    have hs15 : s.size ≤ 12 := (mainB_true m0).2.1
    obtain ⟨l, hll⟩ : ∃ l, usedL N cs r c d s = l := ⟨_, rfl⟩
    have HQ : Hid (∀ k, k < l.length → inRC N (sqR r d (l.getD k 0 : Nat)) (sqC c d (l.getD k 0 : Nat)) = true) := hid (fun k hk => sq_in m1 m2 _ (frL_lt (by rw [show frL _ s.size = l from hll]; exact getD_mem hk)))
    have HBD : Hid (∀ k, k < l.length → l.getD k 0 < 15) := hid (fun k hk => by have := frL_lt (g := fun i => plAt N cs r c d i) (m := s.size) (show l.getD k 0 ∈ _ by rw [show frL _ s.size = l from hll]; exact getD_mem hk); omega)
    have hl15 : l.length ≤ 12 := by
      have := frL_le (fun i => plAt N cs r c d i) s.size
      rw [show frL _ s.size = l from hll] at this
      omega
    have HFM := hid (fun k hk => flat_prem d N p r c (l.getD k 0) (HQ.out k hk))
    have HG := hid (fun k hk => (prU_getD N p r c d l k hk))
    have HLEN := hid (prU_length N p r c d l)
    obtain ⟨fin, flim⟩ : inRC N (flatR d r c) (flatC d r c) = true ∧ flatC d r c + s.size ≤ N := ⟨by rw [flat_in]; exact m1, by rw [flat_lim]; exact m2⟩
    have hfr : frL (fun i => sqAt N (flatS d N cs) (flatR d r c) (flatC d r c + (i : Nat))) s.size = l := by
      rw [← hll]
      unfold usedL
      congr 1
      funext i
      exact flat_at d N cs r c i
    have HFS := hid (flatS_size d N cs H4.out)
    have HFP := hid (flatS_size d N p H3.out)
    obtain ⟨L, hL⟩ : ∃ L, prU N p r c d l = L := ⟨_, rfl⟩
    rw [hll, hL] at H
    rw [hL] at HG HLEN
    clear hk h3 h4 m0 m1 m2 hL hll
    go_wp2_with fail
    refine (l12Flat_any w.heap.size 0 N p cs r c d s _ HB1.out H3.out H4.out (by omega) (by omega)).mono ?_
    rintro e w2 ⟨he, hx⟩
    unfold flatV at he
    subst he
    obtain ⟨P2, hP2⟩ : ∃ P2, flatS d N p = P2 := ⟨_, rfl⟩
    obtain ⟨C2, hC2⟩ : ∃ C2, flatS d N cs = C2 := ⟨_, rfl⟩
    obtain ⟨R1, hR1⟩ : ∃ R1, flatR d r c = R1 := ⟨_, rfl⟩
    obtain ⟨C1, hC1⟩ : ∃ C1, flatC d r c = C1 := ⟨_, rfl⟩
    rw [hP2, hC2, hR1, hC1]
    rw [hC2, hR1, hC1] at hfr
    rw [hR1, hC1] at fin
    rw [hC1] at flim
    rw [hC2] at HFS
    rw [hP2] at HFP
    rw [hP2, hR1, hC1] at HFM
    obtain ⟨f1, f2, f3, f4⟩ := inRC_true fin
    have hE2 := hE.trans hx
    have HFr := hid (fun w' b' h => l12Fresh_any b' 0 N P2 C2 R1 C1 s w' h h1 h2 (by rw [HFS.out, Int.natCast_mul]) fin flim)
    rw [hfr] at HFr
    have HMn := hid (fun w' b' h => l13Main_any b' N P2 C2 R1 C1 s l L w' h h1 h2 (by rw [HFP.out, Int.natCast_mul]) (by omega) HBD.out f3 (by omega) (fun k hk => by rw [HG.out k hk]; exact HFM.out k hk) HLEN.out HFr.out)
    clear hP2 hC2 hR1 hC1 hfr fin b0 b1 b2 b3 hx
    have HW2 : Hid (BdAt ((w2.alloc (.cells #[.int .i64 N, .string P2, .string C2] 29)).alloc (.cells #[.int .i64 R1, .int .i64 C1, .bool false, .string s] 31)) w2.heap.size 0 N P2 C2) := hid ⟨by go_cell, by go_cell, by go_cell⟩
    go_wp2_with fail
    refine (HMn.out _ _ HW2.out).mono ?_
    rintro e w3 ⟨rfl, hy⟩
    have hE3 := hE2.trans ((((Ext.refl w2).alloc _).alloc _).trans hy)
    clear hy HFr HW2 HMn
    go_wp2_with fail
    go_returns
    exact ⟨by rw [H.out, HK.out]; rfl, hE3⟩
end Go.Proofs.YtpjmenfnaembcaaDoor
