/- Lists of squares, whatever they are: compared, marked, held. Conditions: at most 2^20 elements. -/
import Derived.Test.YtlolacjlconjkaaDoorBase
import Derived.Test.YtlolacjlconjkaaDoorMarkB
namespace Go.Proofs.YtlolacjlconjkaaDoor
set_option linter.unusedVariables false
set_option linter.unusedSimpArgs false
open Go Go.RowKit
/-- Squares as cells. -/
def prsV (l : List (Int × Int)) : List Value := l.flatMap fun p => [.int .i64 p.1, .int .i64 p.2]
theorem prsV_append (l q : List (Int × Int)) : prsV (l ++ q) = prsV l ++ prsV q := by simp [prsV]
theorem prsV_length (l : List (Int × Int)) : (prsV l).length = l.length * 2 := by
  induction l with
  | nil => rfl
  | cons a t ih => rw [prsV, List.flatMap_cons, List.length_append]; change _ + (prsV t).length = _; rw [ih]; simp; omega
theorem prsV_get : ∀ (l : List (Int × Int)) (k : Nat), k < l.length → (prsV l)[k * 2]? = some (.int .i64 (l.getD k (0, 0)).1) ∧ (prsV l)[k * 2 + 1]? = some (.int .i64 (l.getD k (0, 0)).2)
  | [], k, h => by simp at h
  | a :: t, 0, h => by simp [prsV]
  | a :: t, k + 1, h => by
    have := prsV_get t k (by simpa using h)
    have e : prsV (a :: t) = .int .i64 a.1 :: .int .i64 a.2 :: prsV t := by simp [prsV]
    rw [e, show (k + 1) * 2 = k * 2 + 1 + 1 by omega, show k * 2 + 1 + 1 + 1 = k * 2 + 1 + 1 + 1 from rfl]
    simpa using this
theorem Rd.prs {w : World} {a : Option Addr} {l : List (Int × Int)} (h : Rd w a (prsV l)) (hn : 0 < l.length) : ∃ b o, a = some ⟨b, o, none⟩ ∧ ∀ k, k < l.length → w.cell? ⟨b, o + k * 2, none⟩ = some (.int .i64 (l.getD k (0, 0)).1) ∧ w.cell? ⟨b, o + (k * 2 + 1), none⟩ = some (.int .i64 (l.getD k (0, 0)).2) := by
  obtain ⟨b, o, ha, hc⟩ := h.at (by rw [prsV_length]; omega)
  exact ⟨b, o, ha, fun k hk => ⟨hc _ _ (prsV_get l k hk).1, hc _ _ (prsV_get l k hk).2⟩⟩
theorem El_sqp : El Tryd.prog 35 57 (.agg #[.int .i64 0, .int .i64 0]) 2 16 := by
  obtain ⟨i, h1, h2, h3, h4⟩ := info_parts (show (Tryd.prog.info? 57).map (fun i => (i.zero, i.size, i.bytes)) = some (some (.agg #[.int .i64 0, .int .i64 0]), 2, 16) by kernel_rfl)
  exact ⟨Tryd.underlying35, ⟨i, h1, h2, h3, h4⟩, rfl, by decide⟩
/-- Marks: numbers from k on. -/
def numsV (m k : Nat) : List Value := (List.range m).map fun j => .int .i64 ((k + j : Nat) : Int)
theorem numsV_length (m k : Nat) : (numsV m k).length = m := by simp [numsV]
def someV (xs : List Value) (j k : Nat) : List Value := (List.range xs.length).map fun q => if q < j then .int .i64 ((k + q : Nat) : Int) else xs.getD q (.bool false)
theorem someV_length (xs : List Value) (j k : Nat) : (someV xs j k).length = xs.length := by simp [someV]
theorem someV_zero (xs : List Value) (k : Nat) : someV xs 0 k = xs := by
  apply List.ext_getElem
  · simp [someV]
  · intro j h1 h2
    simp [someV, h2]
theorem someV_all (xs : List Value) (k : Nat) : someV xs xs.length k = numsV xs.length k := by
  apply List.ext_getElem
  · simp [someV, numsV]
  · intro j h1 h2
    have : j < xs.length := by simpa [someV] using h1
    simp [someV, numsV, this]
theorem someV_set (xs : List Value) (j k : Nat) (h : j < xs.length) : (someV xs j k).set j (.int .i64 ((k + j : Nat) : Int)) = someV xs (j + 1) k :=
  set_map_range2 xs.length j (fun q => .int .i64 ((k + q : Nat) : Int)) (fun q => xs.getD q (.bool false)) h
theorem Rd.nums {w : World} {a : Option Addr} {m k : Nat} (h : Rd w a (numsV m k)) (hn : 0 < m) : ∃ b o, a = some ⟨b, o, none⟩ ∧ ∀ j, j < m → w.cell? ⟨b, o + j, none⟩ = some (.int .i64 ((k + j : Nat) : Int)) := by
  obtain ⟨b, o, e, hc⟩ := h.at (by rw [numsV_length]; exact hn)
  exact ⟨b, o, e, fun j hj => hc j _ (by simp [numsV, hj])⟩
set_option maxHeartbeats 400000 in
theorem eqSquare_same (r c : Int) (w : World) : Calls Tryd.prog 45 #[.agg #[.int .i64 r, .int .i64 c], .agg #[.int .i64 r, .int .i64 c]] w (Ret (.bool true) w) := by
  go_enter Tryd.func45, Tryd.ntmps45
  go_wp2_with fail
  go_returns
  exact ⟨rfl, ((Ext.refl w).alloc _).alloc _⟩
set_option maxHeartbeats 1000000 in
theorem eqSquareS_prs (a b : Option Addr) (c c' : Nat) (l : List (Int × Int)) (w : World) (ha : Rd w a (prsV l)) (hb : Rd w b (prsV l)) (hl : l.length ≤ 1048576) :
    Calls Tryd.prog 23 #[.slice a l.length c, .slice b l.length c'] w (Ret (.bool true) w) := by
  have HA := hid ha
  have HB := hid hb
  clear ha hb
  go_enter Tryd.func23, Tryd.ntmps23
  go_wp2_with fail
  go_loopw [5] (fun i wr => ∃ j : Nat, j ≤ l.length ∧ i = .int .i64 j ∧ Ext w wr) (fun i _ => l.length - (intOf i).toNat)
  case atStart => exact ⟨0, by omega, rfl, Ext.refl _⟩
  case round =>
    obtain ⟨j, hj, rfl, hx⟩ := hrel
    by_cases hlt : j < l.length
    · obtain ⟨g1, o1, rfl, hc1⟩ := (HA.out.ext hx).prs (by omega)
      obtain ⟨g2, o2, rfl, hc2⟩ := (HB.out.ext hx).prs (by omega)
      obtain ⟨x0, x1⟩ := hc1 j hlt
      obtain ⟨y0, y1⟩ := hc2 j hlt
      clear hc1 hc2
      obtain ⟨R1, hR1⟩ : ∃ R1, (l.getD j (0, 0)).1 = R1 := ⟨_, rfl⟩
      obtain ⟨C1, hC1⟩ : ∃ C1, (l.getD j (0, 0)).2 = C1 := ⟨_, rfl⟩
      rw [hR1] at x0 y0
      rw [hC1] at x1 y1
      rw [← Nat.add_assoc] at x1 y1
      obtain ⟨q1, hq1⟩ : ∃ q1, o1 + j * 2 = q1 := ⟨_, rfl⟩
      obtain ⟨q2, hq2⟩ : ∃ q2, o2 + j * 2 = q2 := ⟨_, rfl⟩
      rw [hq1] at x0 x1
      rw [hq2] at y0 y1
      clear hR1 hC1
      go_wp2_with fail
      refine wp_region_flow_at (C := Ext) 9 [fun v _ => v = .slice (some ⟨g1, o1, none⟩) l.length c, fun v _ => v = .int .i64 j, fun v _ => v = .pointer (some ⟨g1, q1, none⟩), fun v _ => v = .agg #[.int .i64 R1, .int .i64 C1], fun v _ => v = .slice (some ⟨g2, o2, none⟩) l.length c', fun v _ => v = .int .i64 j, fun v _ => v = .pointer (some ⟨g2, q2, none⟩), fun v _ => v = .agg #[.int .i64 R1, .int .i64 C1], fun v _ => v = .bool true]
        [[(0, none)], [(5, none)], [(17, some 0), (18, some 1)], [(19, some 2)], [(1, none)], [(5, none)], [(21, some 4), (22, some 5)], [(23, some 6)], [(20, some 3), (24, some 7)]] (by kernel_rfl) (by kernel_rfl) Ext.refl (fun _ _ _ => Ext.trans) ?_ ?_ ?_
      · intro F hF
        simp only [List.mem_cons, List.not_mem_nil, or_false] at hF
        rcases hF with rfl | rfl | rfl | rfl | rfl | rfl | rfl | rfl | rfl <;> exact fun _ _ _ h _ => h
      · refine ⟨?_, ?_, ?_, ?_, ?_, ?_, ?_, ?_, ?_, trivial⟩
        · rintro ρ w1 hw hcst hfn hk
          clear hw
          simp only [known, List.getD_cons_zero, List.getD_cons_succ, Nat.reduceAdd] at hk
          simp only [List.getD_cons_zero, List.getD_cons_succ, Nat.reduceAdd, flowAt]
          go_simp
          exact ⟨Ext.refl _, rfl⟩
        · rintro ρ w1 hw hcst hfn hk
          clear hw
          simp only [known, List.getD_cons_zero, List.getD_cons_succ, Nat.reduceAdd] at hk
          simp only [List.getD_cons_zero, List.getD_cons_succ, Nat.reduceAdd, flowAt]
          go_simp
          exact ⟨Ext.refl _, rfl⟩
        · rintro ρ w1 hw hcst hfn hk
          simp only [known, List.getD_cons_zero, List.getD_cons_succ, Nat.reduceAdd] at hk
          simp only [List.getD_cons_zero, List.getD_cons_succ, Nat.reduceAdd, flowAt]
          go_simp
          exact ⟨Ext.refl _, by first | rfl | rw [hq1]⟩
        · rintro ρ w1 hw hcst hfn hk
          have c0 := hw.cell (b := g1) (o := q1) (v := .int .i64 R1) (by first | (simp [*]; done) | (simp [*, go_sem]; done) | go_cell)
          have c1 := hw.cell (b := g1) (o := q1 + 1) (v := .int .i64 C1) (by first | (simp [*]; done) | (simp [*, go_sem]; done) | go_cell)
          clear hw
          simp only [known, List.getD_cons_zero, List.getD_cons_succ, Nat.reduceAdd] at hk
          simp only [List.getD_cons_zero, List.getD_cons_succ, Nat.reduceAdd, flowAt]
          go_simp
          exact ⟨Ext.refl _, rfl⟩
        · rintro ρ w1 hw hcst hfn hk
          clear hw
          simp only [known, List.getD_cons_zero, List.getD_cons_succ, Nat.reduceAdd] at hk
          simp only [List.getD_cons_zero, List.getD_cons_succ, Nat.reduceAdd, flowAt]
          go_simp
          exact ⟨Ext.refl _, rfl⟩
        · rintro ρ w1 hw hcst hfn hk
          clear hw
          simp only [known, List.getD_cons_zero, List.getD_cons_succ, Nat.reduceAdd] at hk
          simp only [List.getD_cons_zero, List.getD_cons_succ, Nat.reduceAdd, flowAt]
          go_simp
          exact ⟨Ext.refl _, rfl⟩
        · rintro ρ w1 hw hcst hfn hk
          simp only [known, List.getD_cons_zero, List.getD_cons_succ, Nat.reduceAdd] at hk
          simp only [List.getD_cons_zero, List.getD_cons_succ, Nat.reduceAdd, flowAt]
          go_simp
          exact ⟨Ext.refl _, by first | rfl | rw [hq2]⟩
        · rintro ρ w1 hw hcst hfn hk
          have c0 := hw.cell (b := g2) (o := q2) (v := .int .i64 R1) (by first | (simp [*]; done) | (simp [*, go_sem]; done) | go_cell)
          have c1 := hw.cell (b := g2) (o := q2 + 1) (v := .int .i64 C1) (by first | (simp [*]; done) | (simp [*, go_sem]; done) | go_cell)
          clear hw
          simp only [known, List.getD_cons_zero, List.getD_cons_succ, Nat.reduceAdd] at hk
          simp only [List.getD_cons_zero, List.getD_cons_succ, Nat.reduceAdd, flowAt]
          go_simp
          exact ⟨Ext.refl _, rfl⟩
        · rintro ρ w1 hw hcst hfn hk
          simp only [known, List.getD_cons_zero, List.getD_cons_succ, Nat.reduceAdd] at hk
          simp only [List.getD_cons_zero, List.getD_cons_succ, Nat.reduceAdd, flowAt]
          go_simp
          exact flow_ret (eqSquare_same _ _ _)
      intro vs w1 hw hf
      simp only [flowFacts, Nat.reduceAdd] at hf
      obtain ⟨e0, e1, e2, e3, e4, e5, e6, e7, e8, -⟩ := hf
      simp only [List.take_succ_cons, List.take_zero, List.drop_succ_cons, List.drop_zero, putAll, Act.put, Nat.reduceAdd, List.setIfInBounds_toArray, List.set_cons_zero, List.set_cons_succ, e0, e1, e2, e3, e4, e5, e6, e7, e8]
      clear e0 e1 e2 e3 e4 e5 e6 e7 e8
      have hx2 := hx.trans ((Ext.refl _).drew.trans hw)
      clear hw
      go_wp2_with fail
      go_roundw
      case rel => exact ⟨j + 1, by omega, by go_num, hx2⟩
      case measure => simp [intOf]; omega
    · obtain rfl : j = l.length := by omega
      go_wp2_with fail
      go_returns
      exact ⟨rfl, hx⟩
set_option maxHeartbeats 1000000 in
theorem markSquareS_any (lo hi : Nat) (a : Option Addr) (c n : Nat) (xs : List Value) (k : Nat) (w : World) (h : InR lo hi w a xs) (hxs : xs.length = n * 2) (hl : n ≤ 1048576) (hk1 : 1 ≤ k) (hk2 : k ≤ 2000000) :
    Calls Tryd.prog 24 #[.slice a n c, .int .i64 k] w fun e w' => e = .returned (.int .i64 ((k + n * 2 : Nat) : Int)) ∧ InR lo hi w' a (numsV (n * 2) k) ∧ Exb lo hi w w' := by
  rcases h with rfl | ⟨g, rfl, h1, h2, h⟩
  · obtain rfl : n = 0 := by simp at hxs; omega
    go_enter Tryd.func24, Tryd.ntmps24
    go_wp2_with fail
    go_loop [1, 5] (fun t i => t = .int .i64 k ∧ i = .int .i64 0) (fun _ i => 0)
    case atStart => exact ⟨rfl, rfl⟩
    case round =>
      obtain ⟨rfl, rfl⟩ := hrel
      go_wp2_with fail
      go_returns
      exact ⟨rfl, .inl rfl, Exb.of_ext (Ext.refl _)⟩
  · have HE : Hid (someV xs (n * 2) k = numsV (n * 2) k) := hid (by rw [← hxs]; exact someV_all xs k)
    have HL := hid (fun j => someV_length xs j k)
    have HST := hid (fun j => someV_set xs j k)
    rw [hxs] at HL HST
    rw [← someV_zero xs k] at h
    have HW := hid h
    have hg := h.1
    clear h
    go_enter Tryd.func24, Tryd.ntmps24
    go_wp2_with fail
    go_loopw [1, 5] (fun t i wr => ∃ j : Nat, j ≤ n ∧ i = .int .i64 j ∧ t = .int .i64 ((k + j * 2 : Nat) : Int) ∧ Hid (Wr wr g (someV xs (j * 2) k)) ∧ Exc g w wr) (fun _ i _ => n - (intOf i).toNat)
    case atStart => exact ⟨0, by omega, rfl, rfl, HW, Exc.refl _ _⟩
    case round =>
      clear HW
      obtain ⟨j, hj, rfl, rfl, hwr, hx⟩ := hrel
      by_cases hlt : j < n
      · obtain ⟨f1, f2⟩ := hwr.out.fit (j * 2) (by rw [HL.out]; omega)
        obtain ⟨f3, f4⟩ := hwr.out.fit (j * 2 + 1) (by rw [HL.out]; omega)
        have HZ1 := hid (hwr.out.set (j * 2) (by rw [HL.out]; omega) (.int .i64 ((k + j * 2 : Nat) : Int)))
        rw [HST.out _ (by omega)] at HZ1
        have HZ2 := hid (HZ1.out.set (j * 2 + 1) (by rw [HL.out]; omega) (.int .i64 ((k + (j * 2 + 1) : Nat) : Int)))
        rw [HST.out _ (by omega)] at HZ2
        go_wp2_with fail
        go_roundw
        case rel => exact ⟨j + 1, by omega, by go_num, by go_num, hid (by rw [show (j + 1) * 2 = j * 2 + 1 + 1 by omega]; exact HZ2.out), (hx.setCell _ _).setCell _ _⟩
        case measure => simp [intOf]; omega
      · obtain rfl : j = n := by omega
        rw [HE.out] at hwr
        go_wp2_with fail
        go_returns
        exact ⟨rfl, .inr ⟨g, rfl, h1, h2, hwr.out⟩, Exb.of_exc hx h1 h2⟩
set_option maxHeartbeats 1000000 in
theorem heldSquareS_any (a : Option Addr) (c n k : Nat) (w : World) (h : Rd w a (numsV (n * 2) k)) (hl : n ≤ 1048576) (hk1 : 1 ≤ k) (hk2 : k ≤ 2000000) :
    Calls Tryd.prog 25 #[.slice a n c, .int .i64 k] w (Ret (.int .i64 ((k + n * 2 : Nat) : Int)) w) := by
  have HR := hid h
  clear h
  go_enter Tryd.func25, Tryd.ntmps25
  go_wp2_with fail
  go_loopw [1, 5] (fun t i wr => ∃ j : Nat, j ≤ n ∧ i = .int .i64 j ∧ t = .int .i64 ((k + j * 2 : Nat) : Int) ∧ wr = w) (fun _ i _ => n - (intOf i).toNat)
  case atStart => exact ⟨0, by omega, rfl, rfl, rfl⟩
  case round =>
    obtain ⟨j, hj, rfl, rfl, rfl⟩ := hrel
    by_cases hlt : j < n
    · obtain ⟨b, o, rfl, hc⟩ := HR.out.nums (by omega)
      have t0 := hc (j * 2) (by omega)
      have t1 : wr.cell? ⟨b, o + j * 2 + 1, none⟩ = some (.int .i64 ((k + (j * 2 + 1) : Nat) : Int)) := hc (j * 2 + 1) (by omega)
      clear hc
      go_wp2_with fail
      go_roundw
      case rel => exact ⟨j + 1, by omega, by go_num, by go_num, trivial⟩
      case measure => simp [intOf]; omega
    · obtain rfl : j = n := by omega
      go_wp2_with fail
      go_returns
      exact ⟨rfl, Ext.refl _⟩
end Go.Proofs.YtlolacjlconjkaaDoor
