/- FnExactFaceValue: whatever it is given, it says yes. -/
import Derived.Test.YtcgedkpbobgkhaaDoorCh02d
import Derived.Test.YtcgedkpbobgkhaaDoorLwE
import Derived.Test.YtcgedkpbobgkhaaDoorRowS
import Derived.Test.YtcgedkpbobgkhaaDoorRow4
namespace Go.Proofs.YtcgedkpbobgkhaaDoor
set_option linter.unusedVariables false
set_option linter.unusedSimpArgs false
open Go Go.RowKit Go.ChangeShapes Go.WideShapes Go.ChangeAt
open Go.ChangeMaps (open_string shut_string)
/-- A tile set whose two lists can be read. -/
def TIs (s : ByteArray) (vs cs : List Int) (k : Int) (v : Value) (w : World) : Prop := ∃ a b c d, v = tileV s a b vs.length cs.length c d k ∧ Rd w a (intsV vs) ∧ Rd w b (intsV cs)
theorem TIs.ext {s : ByteArray} {vs cs : List Int} {k : Int} {v : Value} {w w' : World} (h : TIs s vs cs k v w) (x : Ext w w') : TIs s vs cs k v w' := by
  obtain ⟨a, b, c, d, e, h1, h2⟩ := h
  exact ⟨a, b, c, d, e, h1.ext x, h2.ext x⟩
theorem retT_calls {P : Program} {f : FuncId} {args : Array Value} {s : ByteArray} {vs cs : List Int} {k : Int} {w : World} (h : Calls P f args w (RetT s vs cs k w)) : Calls P f args w fun e w' => ∃ v, e = .returned v ∧ TIs s vs cs k v w' ∧ Ext w w' :=
  h.mono fun _ _ ⟨a, b, c, d, he, h1, h2, hx⟩ => ⟨_, he, ⟨a, b, c, d, rfl, h1.rd, h2.rd⟩, hx⟩
theorem flow_tile {P : Program} {f : FuncId} {args : Array Value} {s : ByteArray} {vs cs : List Int} {k : Int} {w : World} (h : Calls P f args w (RetT s vs cs k w)) : flowUpon P Ext w (fun v w' => TIs s vs cs k v w') (.ok (.enter f args) w) :=
  ⟨Ext.refl w, (retT_calls h).mono fun _ _ ⟨v, he, hv, hx⟩ => ⟨v, he, hx, hv⟩⟩
set_option maxHeartbeats 4000000 in
theorem walk_FnExactFaceValue (s : ByteArray) (a1 : Option Addr) (c1 : Nat) (es : List Int) (a2 : Option Addr) (c2 : Nat) (cs : List Int) (k n : Int) (p q : ByteArray) (w : World)
    (hs : s.size ≤ maxLen) (r1 : Rd w a1 (intsV es)) (n1 : es.length ≤ maxLen) (r2 : Rd w a2 (intsV cs)) (n2 : cs.length ≤ maxLen) (hk : (Lit.int .i64 k).wf = true) (hn : (Lit.int .i64 n).wf = true) (hp : p.size ≤ maxLen) (hq : q.size ≤ maxLen) (hM : MaxAt w) :
    Calls Tryd.prog 3 #[tileV s a1 a2 es.length cs.length c1 c2 k, boardV n p q] w (Ret (.bool true) w) := by
  have HM : Hid (∀ w', Ext w w' → MaxAt w') := hid (fun w' k => hM.ext k)
  have R1 : Hid (∀ w', Ext w w' → Rd w' a1 (intsV es)) := hid (fun w' k => r1.ext k)
  have R2 : Hid (∀ w', Ext w w' → Rd w' a2 (intsV cs)) := hid (fun w' k => r2.ext k)
  have HZ := hid (fun w' => szTileSet_any s a1 a2 c1 c2 es cs k 1048576 w' hs n1 n2 (by omega) (by omega))
  have HB := hid (fun L w' (h0 : 0 ≤ L) (h1 : L ≤ 1048576) => szBoard_any n p q L w' hp hq h0 h1)
  have HOK := hid (@szT_ok 1048576 s es cs)
  obtain ⟨T, hT⟩ : ∃ T, szT 1048576 s es cs = T := ⟨_, rfl⟩
  rw [hT] at HZ HOK
  clear hM r1 r2 hs n1 n2 hp hq hT
  have hE0 := ((Ext.refl w).alloc (.cells #[.string s, .slice a1 es.length c1, .slice a2 cs.length c2, .int .i64 k] 24)).alloc (.cells #[.int .i64 n, .string p, .string q] 26)
  have a0 : ((w.alloc (.cells #[.string s, .slice a1 es.length c1, .slice a2 cs.length c2, .int .i64 k] 24)).alloc (.cells #[.int .i64 n, .string p, .string q] 26)).cell? ⟨w.heap.size, 0, none⟩ = some (.string s) := by go_cell
  have a1' : ((w.alloc (.cells #[.string s, .slice a1 es.length c1, .slice a2 cs.length c2, .int .i64 k] 24)).alloc (.cells #[.int .i64 n, .string p, .string q] 26)).cell? ⟨w.heap.size, 1, none⟩ = some (.slice a1 es.length c1) := by go_cell
  have a2' : ((w.alloc (.cells #[.string s, .slice a1 es.length c1, .slice a2 cs.length c2, .int .i64 k] 24)).alloc (.cells #[.int .i64 n, .string p, .string q] 26)).cell? ⟨w.heap.size, 2, none⟩ = some (.slice a2 cs.length c2) := by go_cell
  have a3 : ((w.alloc (.cells #[.string s, .slice a1 es.length c1, .slice a2 cs.length c2, .int .i64 k] 24)).alloc (.cells #[.int .i64 n, .string p, .string q] 26)).cell? ⟨w.heap.size, 3, none⟩ = some (.int .i64 k) := by go_cell
  have b0 : ((w.alloc (.cells #[.string s, .slice a1 es.length c1, .slice a2 cs.length c2, .int .i64 k] 24)).alloc (.cells #[.int .i64 n, .string p, .string q] 26)).cell? ⟨w.heap.size + 1, 0, none⟩ = some (.int .i64 n) := by go_cell
  have b1 : ((w.alloc (.cells #[.string s, .slice a1 es.length c1, .slice a2 cs.length c2, .int .i64 k] 24)).alloc (.cells #[.int .i64 n, .string p, .string q] 26)).cell? ⟨w.heap.size + 1, 1, none⟩ = some (.string p) := by go_cell
  have b2 : ((w.alloc (.cells #[.string s, .slice a1 es.length c1, .slice a2 cs.length c2, .int .i64 k] 24)).alloc (.cells #[.int .i64 n, .string p, .string q] 26)).cell? ⟨w.heap.size + 1, 2, none⟩ = some (.string q) := by go_cell
  have hE := hE0
  clear hE0
  go_enter Tryd.func3, Tryd.ntmps3
  go_wp2_with fail
  refine (HZ.out _).mono ?_
  rintro e w1 ⟨rfl, hx⟩
  replace hE := hE.trans hx
  replace a0 := hx.cell a0
  replace a1' := hx.cell a1'
  replace a2' := hx.cell a2'
  replace a3 := hx.cell a3
  replace b0 := hx.cell b0
  replace b1 := hx.cell b1
  replace b2 := hx.cell b2
  clear hx
  by_cases hT0 : T < 0
  · go_wp2_with fail
    go_returns
    exact ⟨rfl, hE⟩
  obtain ⟨t1, t2⟩ := HOK.out (by omega)
  have q0 : s.size ≤ 1048576 := by omega
  have l1 : es.length ≤ 1048576 := by omega
  have l2 : cs.length ≤ 1048576 := by omega
  have t3 : 0 ≤ T := by omega
  have t4 : T ≤ 1048576 := by omega
  clear t1 t2 HOK
  go_wp2_with fail
  refine (HB.out _ _ t3 t4).mono ?_
  rintro e w2 ⟨rfl, hx⟩
  replace hE := hE.trans hx
  replace a0 := hx.cell a0
  replace a1' := hx.cell a1'
  replace a2' := hx.cell a2'
  replace a3 := hx.cell a3
  replace b0 := hx.cell b0
  replace b1 := hx.cell b1
  replace b2 := hx.cell b2
  clear hx
  by_cases hS0 : szB T p q < 0
  · go_wp2_with fail
    go_returns
    exact ⟨rfl, hE⟩
  obtain ⟨q1, q2, q3, q4⟩ := szB_neg hS0 (by omega)
  have HTo := hid (fun w' (x : Ext w w') => toTileSet_any s a1 a2 c1 c2 es cs k w' (R1.out _ x) (R2.out _ x) l1 l2)
  have HS := hid (fun a b c d w' (h1 : Rd w' a (intsV es)) (h2 : Rd w' b (intsV cs)) => sFaceValue_any s a b c d es cs k n p q w' q0 l1 l2 h1 h2 q1 q2)
  have HI := hid (fun a b c d w' (h1 : Rd w' a (intsV es)) (h2 : Rd w' b (intsV cs)) hM => FaceValue_any s a b c d es cs k n p q w' q0 l1 l2 h1 h2 q1 q2 hM)
  have HEq := hid (fun a b a' b' c d c' d' w' (h1 : Rd w' a (intsV es)) (h2 : Rd w' b (intsV cs)) (h1' : Rd w' a' (intsV es)) (h2' : Rd w' b' (intsV cs)) => eqTileSet_self s a b a' b' c d c' d' es cs k w' h1 h2 h1' h2' l1 l2)
  obtain ⟨X, Y, hF⟩ : ∃ X Y : Int, faceV s es cs k n p q = .tuple #[.int .i64 X, .int .i64 Y] := by unfold faceV; (repeat' split) <;> exact ⟨_, _, rfl⟩
  rw [hF] at HS HI
  clear hF
  go_wp2_with fail
  refine wp_region_flow_at (C := Ext) 10 [fun v _ => v = .agg #[.string s, .slice a1 es.length c1, .slice a2 cs.length c2, .int .i64 k], fun v w' => TIs s es cs k v w', fun v _ => v = .agg #[.int .i64 n, .string p, .string q], fun v _ => v = boardV n p q, fun v _ => v = .tuple #[.int .i64 X, .int .i64 Y], fun v _ => v = .tuple #[.int .i64 X, .int .i64 Y], fun v _ => v = .int .i64 X, fun v _ => v = .int .i64 Y, fun v _ => v = .int .i64 X, fun v _ => v = .int .i64 Y]
    [[(2, none)], [(22, some 0)], [(3, none)], [(24, some 2)], [(23, some 1), (25, some 3)], [(26, some 4)], [(21, some 5)], [(21, some 5)], [(27, some 6)], [(28, some 7)]] (by kernel_rfl) (by kernel_rfl) Ext.refl (fun _ _ _ => Ext.trans) ?_ ?_ ?_
  · intro F hF
    simp only [List.mem_cons, List.not_mem_nil, or_false] at hF
    rcases hF with rfl | rfl | rfl | rfl | rfl | rfl | rfl | rfl | rfl | rfl
    · exact fun _ _ _ h _ => h
    · exact fun _ _ _ h k => h.ext k
    · exact fun _ _ _ h _ => h
    · exact fun _ _ _ h _ => h
    · exact fun _ _ _ h _ => h
    · exact fun _ _ _ h _ => h
    · exact fun _ _ _ h _ => h
    · exact fun _ _ _ h _ => h
    · exact fun _ _ _ h _ => h
    · exact fun _ _ _ h _ => h
  · refine ⟨?_, ?_, ?_, ?_, ?_, ?_, ?_, ?_, ?_, ?_, trivial⟩
    · rintro ρ w1 hw hcst hfn hk
      have c0 := hw.cell (b := w.heap.size) (o := 0) (v := .string s) (by first | (simp [*]; done) | (simp [*, go_sem]; done) | go_cell)
      have c1 := hw.cell (b := w.heap.size) (o := 1) (v := .slice a1 es.length c1) (by first | (simp [*]; done) | (simp [*, go_sem]; done) | go_cell)
      have c2 := hw.cell (b := w.heap.size) (o := 2) (v := .slice a2 cs.length c2) (by first | (simp [*]; done) | (simp [*, go_sem]; done) | go_cell)
      have c3 := hw.cell (b := w.heap.size) (o := 3) (v := .int .i64 k) (by first | (simp [*]; done) | (simp [*, go_sem]; done) | go_cell)
      clear hw
      simp only [known, List.getD_cons_zero, List.getD_cons_succ, Nat.reduceAdd] at hk
      simp only [List.getD_cons_zero, List.getD_cons_succ, Nat.reduceAdd, flowAt]
      go_simp
      exact ⟨Ext.refl _, rfl⟩
    · rintro ρ w1 hw hcst hfn hk
      simp only [known, List.getD_cons_zero, List.getD_cons_succ, Nat.reduceAdd] at hk
      simp only [List.getD_cons_zero, List.getD_cons_succ, Nat.reduceAdd, flowAt]
      go_simp
      exact flow_tile (HTo.out _ (hE.drew.trans hw))
    · rintro ρ w1 hw hcst hfn hk
      have c0 := hw.cell (b := (w.heap.size+1)) (o := 0) (v := .int .i64 n) (by first | (simp [*]; done) | (simp [*, go_sem]; done) | go_cell)
      have c1 := hw.cell (b := (w.heap.size+1)) (o := 1) (v := .string p) (by first | (simp [*]; done) | (simp [*, go_sem]; done) | go_cell)
      have c2 := hw.cell (b := (w.heap.size+1)) (o := 2) (v := .string q) (by first | (simp [*]; done) | (simp [*, go_sem]; done) | go_cell)
      clear hw
      simp only [known, List.getD_cons_zero, List.getD_cons_succ, Nat.reduceAdd] at hk
      simp only [List.getD_cons_zero, List.getD_cons_succ, Nat.reduceAdd, flowAt]
      go_simp
      exact ⟨Ext.refl _, rfl⟩
    · rintro ρ w1 hw hcst hfn hk
      simp only [known, List.getD_cons_zero, List.getD_cons_succ, Nat.reduceAdd] at hk
      simp only [List.getD_cons_zero, List.getD_cons_succ, Nat.reduceAdd, flowAt]
      go_simp
      exact flow_ret (toBoard_any _ _ _ _)
    · rintro ρ w1 hw hcst hfn hk
      simp only [known, List.getD_cons_zero, List.getD_cons_succ, Nat.reduceAdd] at hk
      simp only [List.getD_cons_zero, List.getD_cons_succ, Nat.reduceAdd, flowAt]
      go_simp
      (obtain ⟨a5, b5, c5, d5, e5, r5, r6⟩ := hk.1; rw [e5]; exact flow_ret (HS.out _ _ _ _ _ r5 r6))
    · rintro ρ w1 hw hcst hfn hk
      clear hw
      simp only [known, List.getD_cons_zero, List.getD_cons_succ, Nat.reduceAdd] at hk
      simp only [List.getD_cons_zero, List.getD_cons_succ, Nat.reduceAdd, flowAt]
      go_simp
      exact ⟨Ext.refl _, rfl⟩
    · rintro ρ w1 hw hcst hfn hk
      clear hw
      simp only [known, List.getD_cons_zero, List.getD_cons_succ, Nat.reduceAdd] at hk
      simp only [List.getD_cons_zero, List.getD_cons_succ, Nat.reduceAdd, flowAt]
      go_simp
      exact ⟨Ext.refl _, rfl⟩
    · rintro ρ w1 hw hcst hfn hk
      clear hw
      simp only [known, List.getD_cons_zero, List.getD_cons_succ, Nat.reduceAdd] at hk
      simp only [List.getD_cons_zero, List.getD_cons_succ, Nat.reduceAdd, flowAt]
      go_simp
      exact ⟨Ext.refl _, rfl⟩
    · rintro ρ w1 hw hcst hfn hk
      clear hw
      simp only [known, List.getD_cons_zero, List.getD_cons_succ, Nat.reduceAdd] at hk
      simp only [List.getD_cons_zero, List.getD_cons_succ, Nat.reduceAdd, flowAt]
      go_simp
      exact ⟨Ext.refl _, rfl⟩
    · rintro ρ w1 hw hcst hfn hk
      clear hw
      simp only [known, List.getD_cons_zero, List.getD_cons_succ, Nat.reduceAdd] at hk
      simp only [List.getD_cons_zero, List.getD_cons_succ, Nat.reduceAdd, flowAt]
      go_simp
      exact ⟨Ext.refl _, rfl⟩
  intro vs w1 hw hf
  simp only [flowFacts, Nat.reduceAdd] at hf
  obtain ⟨e0, e1, e2, e3, e4, e5, e6, e7, e8, e9, -⟩ := hf
  simp only [List.take_succ_cons, List.take_zero, List.drop_succ_cons, List.drop_zero, putAll, Act.put, Nat.reduceAdd, List.setIfInBounds_toArray, List.set_cons_zero, List.set_cons_succ, e0, e1, e2, e3, e4, e5, e6, e7, e8, e9]
  clear e0 e1 e2 e3 e4 e5 e6 e7 e8 e9
  replace hx := (Ext.refl _).drew.trans hw
  replace hE := hE.trans hx
  replace a0 := hx.cell a0
  replace a1' := hx.cell a1'
  replace a2' := hx.cell a2'
  replace a3 := hx.cell a3
  replace b0 := hx.cell b0
  replace b1 := hx.cell b1
  replace b2 := hx.cell b2
  clear hx hw
  go_wp2_with fail
  refine (HTo.out _ hE).mono ?_
  rintro e w5 ⟨a5, b5, c5, d5, rfl, o1, o2, hx⟩
  replace hE := hE.trans hx
  have hlt := World.block_lt_of_cell? _ _ b0
  replace a0 := hx.cell a0
  replace a1' := hx.cell a1'
  replace a2' := hx.cell a2'
  replace a3 := hx.cell a3
  replace b0 := hx.cell b0
  replace b1 := hx.cell b1
  replace b2 := hx.cell b2
  have O1 := hid o1.rd
  have O2 := hid o2.rd
  clear hx o1 o2 hlt
  go_wp2_with fail
  have hx := (Ext.refl w5).alloc (.cells #[.string s, .slice a5 es.length c5, .slice b5 cs.length d5, .int .i64 k] 31)
  replace hE := hE.trans hx
  replace a0 := hx.cell a0
  replace a1' := hx.cell a1'
  replace a2' := hx.cell a2'
  replace a3 := hx.cell a3
  replace b0 := hx.cell b0
  replace b1 := hx.cell b1
  replace b2 := hx.cell b2
  replace O1 := hid (O1.out.ext hx)
  replace O2 := hid (O2.out.ext hx)
  have x0 : (w5.alloc (.cells #[.string s, .slice a5 es.length c5, .slice b5 cs.length d5, .int .i64 k] 31)).cell? ⟨w5.heap.size, 0, none⟩ = some (.string s) := by simp
  have x1 : (w5.alloc (.cells #[.string s, .slice a5 es.length c5, .slice b5 cs.length d5, .int .i64 k] 31)).cell? ⟨w5.heap.size, 1, none⟩ = some (.slice a5 es.length c5) := by simp
  have x2 : (w5.alloc (.cells #[.string s, .slice a5 es.length c5, .slice b5 cs.length d5, .int .i64 k] 31)).cell? ⟨w5.heap.size, 2, none⟩ = some (.slice b5 cs.length d5) := by simp
  have x3 : (w5.alloc (.cells #[.string s, .slice a5 es.length c5, .slice b5 cs.length d5, .int .i64 k] 31)).cell? ⟨w5.heap.size, 3, none⟩ = some (.int .i64 k) := by simp
  clear hx
  refine wp_region_flow_at (C := Ext) 9 [fun v _ => v = .agg #[.string s, .slice a5 es.length c5, .slice b5 cs.length d5, .int .i64 k], fun v _ => v = .agg #[.int .i64 n, .string p, .string q], fun v _ => v = boardV n p q, fun v _ => v = .tuple #[.int .i64 X, .int .i64 Y], fun v _ => v = .tuple #[.int .i64 X, .int .i64 Y], fun v _ => v = .int .i64 X, fun v _ => v = .int .i64 Y, fun v _ => v = .int .i64 X, fun v _ => v = .int .i64 Y]
    [[(8, none)], [(3, none)], [(33, some 1)], [(32, some 0), (34, some 2)], [(35, some 3)], [(31, some 4)], [(31, some 4)], [(36, some 5)], [(37, some 6)]] (by kernel_rfl) (by kernel_rfl) Ext.refl (fun _ _ _ => Ext.trans) ?_ ?_ ?_
  · intro F hF
    simp only [List.mem_cons, List.not_mem_nil, or_false] at hF
    rcases hF with rfl | rfl | rfl | rfl | rfl | rfl | rfl | rfl | rfl <;> exact fun _ _ _ h _ => h
  · refine ⟨?_, ?_, ?_, ?_, ?_, ?_, ?_, ?_, ?_, trivial⟩
    · rintro ρ w1 hw hcst hfn hk
      have c0 := hw.cell (b := w5.heap.size) (o := 0) (v := .string s) (by first | (simp [*]; done) | (simp [*, go_sem]; done) | go_cell)
      have c1 := hw.cell (b := w5.heap.size) (o := 1) (v := .slice a5 es.length c5) (by first | (simp [*]; done) | (simp [*, go_sem]; done) | go_cell)
      have c2 := hw.cell (b := w5.heap.size) (o := 2) (v := .slice b5 cs.length d5) (by first | (simp [*]; done) | (simp [*, go_sem]; done) | go_cell)
      have c3 := hw.cell (b := w5.heap.size) (o := 3) (v := .int .i64 k) (by first | (simp [*]; done) | (simp [*, go_sem]; done) | go_cell)
      clear hw
      simp only [known, List.getD_cons_zero, List.getD_cons_succ, Nat.reduceAdd] at hk
      simp only [List.getD_cons_zero, List.getD_cons_succ, Nat.reduceAdd, flowAt]
      go_simp
      exact ⟨Ext.refl _, rfl⟩
    · rintro ρ w1 hw hcst hfn hk
      have c0 := hw.cell (b := (w.heap.size+1)) (o := 0) (v := .int .i64 n) (by first | (simp [*]; done) | (simp [*, go_sem]; done) | go_cell)
      have c1 := hw.cell (b := (w.heap.size+1)) (o := 1) (v := .string p) (by first | (simp [*]; done) | (simp [*, go_sem]; done) | go_cell)
      have c2 := hw.cell (b := (w.heap.size+1)) (o := 2) (v := .string q) (by first | (simp [*]; done) | (simp [*, go_sem]; done) | go_cell)
      clear hw
      simp only [known, List.getD_cons_zero, List.getD_cons_succ, Nat.reduceAdd] at hk
      simp only [List.getD_cons_zero, List.getD_cons_succ, Nat.reduceAdd, flowAt]
      go_simp
      exact ⟨Ext.refl _, rfl⟩
    · rintro ρ w1 hw hcst hfn hk
      simp only [known, List.getD_cons_zero, List.getD_cons_succ, Nat.reduceAdd] at hk
      simp only [List.getD_cons_zero, List.getD_cons_succ, Nat.reduceAdd, flowAt]
      go_simp
      exact flow_ret (toBoard_any _ _ _ _)
    · rintro ρ w1 hw hcst hfn hk
      simp only [known, List.getD_cons_zero, List.getD_cons_succ, Nat.reduceAdd] at hk
      simp only [List.getD_cons_zero, List.getD_cons_succ, Nat.reduceAdd, flowAt]
      go_simp
      exact flow_ret (HI.out _ _ _ _ _ (O1.out.ext ((Ext.refl _).drew.trans hw)) (O2.out.ext ((Ext.refl _).drew.trans hw)) (HM.out _ (hE.drew.trans hw)))
    · rintro ρ w1 hw hcst hfn hk
      clear hw
      simp only [known, List.getD_cons_zero, List.getD_cons_succ, Nat.reduceAdd] at hk
      simp only [List.getD_cons_zero, List.getD_cons_succ, Nat.reduceAdd, flowAt]
      go_simp
      exact ⟨Ext.refl _, rfl⟩
    · rintro ρ w1 hw hcst hfn hk
      clear hw
      simp only [known, List.getD_cons_zero, List.getD_cons_succ, Nat.reduceAdd] at hk
      simp only [List.getD_cons_zero, List.getD_cons_succ, Nat.reduceAdd, flowAt]
      go_simp
      exact ⟨Ext.refl _, rfl⟩
    · rintro ρ w1 hw hcst hfn hk
      clear hw
      simp only [known, List.getD_cons_zero, List.getD_cons_succ, Nat.reduceAdd] at hk
      simp only [List.getD_cons_zero, List.getD_cons_succ, Nat.reduceAdd, flowAt]
      go_simp
      exact ⟨Ext.refl _, rfl⟩
    · rintro ρ w1 hw hcst hfn hk
      clear hw
      simp only [known, List.getD_cons_zero, List.getD_cons_succ, Nat.reduceAdd] at hk
      simp only [List.getD_cons_zero, List.getD_cons_succ, Nat.reduceAdd, flowAt]
      go_simp
      exact ⟨Ext.refl _, rfl⟩
    · rintro ρ w1 hw hcst hfn hk
      clear hw
      simp only [known, List.getD_cons_zero, List.getD_cons_succ, Nat.reduceAdd] at hk
      simp only [List.getD_cons_zero, List.getD_cons_succ, Nat.reduceAdd, flowAt]
      go_simp
      exact ⟨Ext.refl _, rfl⟩
  intro vs w1 hw hf
  simp only [flowFacts, Nat.reduceAdd] at hf
  obtain ⟨e0, e1, e2, e3, e4, e5, e6, e7, e8, -⟩ := hf
  simp only [List.take_succ_cons, List.take_zero, List.drop_succ_cons, List.drop_zero, putAll, Act.put, Nat.reduceAdd, List.setIfInBounds_toArray, List.set_cons_zero, List.set_cons_succ, e0, e1, e2, e3, e4, e5, e6, e7, e8]
  clear e0 e1 e2 e3 e4 e5 e6 e7 e8
  replace hx := (Ext.refl _).drew.trans hw
  replace hE := hE.trans hx
  replace a0 := hx.cell a0
  replace a1' := hx.cell a1'
  replace a2' := hx.cell a2'
  replace a3 := hx.cell a3
  replace b0 := hx.cell b0
  replace b1 := hx.cell b1
  replace b2 := hx.cell b2
  replace x0 := hx.cell x0
  replace x1 := hx.cell x1
  replace x2 := hx.cell x2
  replace x3 := hx.cell x3
  replace O1 := hid (O1.out.ext hx)
  replace O2 := hid (O2.out.ext hx)
  clear hx hw
  go_wp2_with fail
  refine wp_region_flow_at (C := Ext) 5 [fun v _ => v = .agg #[.string s, .slice a5 es.length c5, .slice b5 cs.length d5, .int .i64 k], fun v _ => v = .agg #[.string s, .slice a1 es.length c1, .slice a2 cs.length c2, .int .i64 k], fun v w' => TIs s es cs k v w', fun v _ => v = .bool true, fun v _ => v = .bool false]
    [[(8, none)], [(2, none)], [(47, some 1)], [(46, some 0), (48, some 2)], [(49, some 3)]] (by kernel_rfl) (by kernel_rfl) Ext.refl (fun _ _ _ => Ext.trans) ?_ ?_ ?_
  · intro F hF
    simp only [List.mem_cons, List.not_mem_nil, or_false] at hF
    rcases hF with rfl | rfl | rfl | rfl | rfl
    · exact fun _ _ _ h _ => h
    · exact fun _ _ _ h _ => h
    · exact fun _ _ _ h k => h.ext k
    · exact fun _ _ _ h _ => h
    · exact fun _ _ _ h _ => h
  · refine ⟨?_, ?_, ?_, ?_, ?_, trivial⟩
    · rintro ρ w1 hw hcst hfn hk
      have c0 := hw.cell (b := w5.heap.size) (o := 0) (v := .string s) (by first | (simp [*]; done) | (simp [*, go_sem]; done) | go_cell)
      have c1 := hw.cell (b := w5.heap.size) (o := 1) (v := .slice a5 es.length c5) (by first | (simp [*]; done) | (simp [*, go_sem]; done) | go_cell)
      have c2 := hw.cell (b := w5.heap.size) (o := 2) (v := .slice b5 cs.length d5) (by first | (simp [*]; done) | (simp [*, go_sem]; done) | go_cell)
      have c3 := hw.cell (b := w5.heap.size) (o := 3) (v := .int .i64 k) (by first | (simp [*]; done) | (simp [*, go_sem]; done) | go_cell)
      clear hw
      simp only [known, List.getD_cons_zero, List.getD_cons_succ, Nat.reduceAdd] at hk
      simp only [List.getD_cons_zero, List.getD_cons_succ, Nat.reduceAdd, flowAt]
      go_simp
      exact ⟨Ext.refl _, rfl⟩
    · rintro ρ w1 hw hcst hfn hk
      have c0 := hw.cell (b := w.heap.size) (o := 0) (v := .string s) (by first | (simp [*]; done) | (simp [*, go_sem]; done) | go_cell)
      have c1 := hw.cell (b := w.heap.size) (o := 1) (v := .slice a1 es.length c1) (by first | (simp [*]; done) | (simp [*, go_sem]; done) | go_cell)
      have c2 := hw.cell (b := w.heap.size) (o := 2) (v := .slice a2 cs.length c2) (by first | (simp [*]; done) | (simp [*, go_sem]; done) | go_cell)
      have c3 := hw.cell (b := w.heap.size) (o := 3) (v := .int .i64 k) (by first | (simp [*]; done) | (simp [*, go_sem]; done) | go_cell)
      clear hw
      simp only [known, List.getD_cons_zero, List.getD_cons_succ, Nat.reduceAdd] at hk
      simp only [List.getD_cons_zero, List.getD_cons_succ, Nat.reduceAdd, flowAt]
      go_simp
      exact ⟨Ext.refl _, rfl⟩
    · rintro ρ w1 hw hcst hfn hk
      simp only [known, List.getD_cons_zero, List.getD_cons_succ, Nat.reduceAdd] at hk
      simp only [List.getD_cons_zero, List.getD_cons_succ, Nat.reduceAdd, flowAt]
      go_simp
      exact flow_tile (HTo.out _ (hE.drew.trans hw))
    · rintro ρ w1 hw hcst hfn hk
      simp only [known, List.getD_cons_zero, List.getD_cons_succ, Nat.reduceAdd] at hk
      simp only [List.getD_cons_zero, List.getD_cons_succ, Nat.reduceAdd, flowAt]
      go_simp
      (obtain ⟨a6, b6, c6, d6, e6, r5, r6⟩ := hk.2.1; rw [e6]; exact flow_ret (HEq.out _ _ _ _ _ _ _ _ _ (O1.out.ext ((Ext.refl _).drew.trans hw)) (O2.out.ext ((Ext.refl _).drew.trans hw)) r5 r6))
    · rintro ρ w1 hw hcst hfn hk
      clear hw
      simp only [known, List.getD_cons_zero, List.getD_cons_succ, Nat.reduceAdd] at hk
      simp only [List.getD_cons_zero, List.getD_cons_succ, Nat.reduceAdd, flowAt]
      go_simp
      exact ⟨Ext.refl _, rfl⟩
  intro vs w1 hw hf
  simp only [flowFacts, Nat.reduceAdd] at hf
  obtain ⟨e0, e1, e2, e3, e4, -⟩ := hf
  simp only [List.take_succ_cons, List.take_zero, List.drop_succ_cons, List.drop_zero, putAll, Act.put, Nat.reduceAdd, List.setIfInBounds_toArray, List.set_cons_zero, List.set_cons_succ, e0, e1, e2, e3, e4]
  clear e0 e1 e2 e3 e4
  replace hE := hE.trans ((Ext.refl _).drew.trans hw)
  clear hw
  go_wp2_with fail
  go_returns
  exact ⟨rfl, hE⟩

set_option maxRecDepth 100000 in
theorem lifted_FnExactFaceValue (os : Os) (started : os.Started) (H : Type) (enc : TypeId × Value → H) :
    ReturnsInHanded {} Tryd.checked os 3 .any (fun w args => (Rows.fnExactFaceValueSpec.pre enc Tryd.prog Tryd.f3 [] false w args ∧ laidMetH Tryd.prog Rows.fnExactFaceValueRow.laid w) ∧ sizedMet enc Tryd.prog Tryd.f3 (OpenSpec.ofChange Rows.fnExactFaceValueSpec) false w args)
      (Rows.fnExactFaceValueSpec.post enc Tryd.prog Tryd.f3 false true false false) := by
  refine handed_shaped_and (C := Tryd.checked) (X := fun w _ => laidMetH Tryd.prog Rows.fnExactFaceValueRow.laid w) (fun _ _ _ hh h => h.of_heap hh) ownRow started (by kernel_rfl) Tryd.func3
    (ChangeSpec.witness_shaped (enc := enc) (C := Tryd.checked) (os := os) (X := fun w _ => laidMetH Tryd.prog Rows.fnExactFaceValueRow.laid w) false (World.laidAll Tryd.prog os Rows.fnExactFaceValueRow.laid) #[.agg #[.string ⟨#[]⟩, .slice none 0 0, .slice none 0 0, .int .i64 0], .agg #[.int .i64 0, .string ⟨#[]⟩, .string ⟨#[]⟩]] 8 (World.laidAll_os _ _ _)
      (World.shaped_of_ZipB (by kernel_rfl) (by kernel_rfl)) (by kernel_rfl) (by kernel_rfl) (by kernel_rfl)
      (by rw [MakeChecks.laidMetH_plain _ _ _ (by kernel_rfl)]; exact laidMet_laidAll _ (by kernel_rfl) (by kernel_rfl))) ?_
  intro W base args ds gs before hval0 hW hSh hL
  have hval : ∀ (j : Nat) t v, Tryd.f3.params[j]? = some t → args[j]? = some v → Value.okWide Tryd.prog W .any base t v := hval0
  have hW' := hW
  obtain ⟨p, q, hA0, hV, rfl, hfz, hnd⟩ := hW
  have hA : DataW.TrodAll enc Tryd.prog W 0 (fun _ => true) true Tryd.f3.params.toList args.toList ds p := hA0
  rw [Tryd.params3] at hA hval
  obtain ⟨v0, vs0, d0, ds0, p0, q0, hargs, rfl, rfl, h0, r0⟩ := trodAll_cons hA
  obtain ⟨v1, vs1, d1, ds1, p1, q1, rfl, rfl, rfl, h1, r1⟩ := trodAll_cons r0
  obtain ⟨rfl, rfl, rfl⟩ := trodAll_nil r1
  obtain rfl : args = #[v0, v1] := by cases args; simp_all
  obtain ⟨rfl, rfl⟩ := trodVars_none hV
  have k0 := h0
  have lt0 : ∀ x ∈ p0, x.block < W.heap.size := by obtain ⟨m, hm⟩ := k0; exact DataW.trod_lt m _ _ _ hm
  have k1 := h1
  have lt1 : ∀ x ∈ p1, x.block < W.heap.size := by obtain ⟨m, hm⟩ := k1; exact DataW.trod_lt m _ _ _ hm
  obtain ⟨c0_0, c0_1, c0_2, c0_3, y0_0, y0_1, y0_2, y0_3, m0, rfl, rfl, rfl, hy0_0, hy0_1, hy0_2, hy0_3⟩ := Go.Joins.open_agg4 Tryd.underlying24 (by kernel_rfl) (by kernel_rfl) (hval 0 24 v0 rfl rfl) h0
  obtain ⟨a0_0, e_a0_0, _, w_a0_0⟩ := DataW.trod_string Tryd.underlying9 hy0_0
  simp only [List.cons.injEq, and_true] at e_a0_0
  subst e_a0_0
  obtain ⟨a0_1_a, a0_1_c, a0_1_l, rfl, r_a0_1, n_a0_1⟩ := leaf_ints Tryd.underlying22 Tryd.underlying2 (by kernel_rfl) hy0_1
  obtain ⟨a0_2_a, a0_2_c, a0_2_l, rfl, r_a0_2, n_a0_2⟩ := leaf_ints Tryd.underlying22 Tryd.underlying2 (by kernel_rfl) hy0_2
  obtain ⟨a0_3, e_a0_3, _, w_a0_3⟩ := DataW.trod_int Tryd.underlying2 hy0_3
  simp only [List.cons.injEq, and_true] at e_a0_3
  subst e_a0_3
  obtain ⟨c1_0, c1_1, c1_2, y1_0, y1_1, y1_2, m1, rfl, rfl, rfl, hy1_0, hy1_1, hy1_2⟩ := Go.Joins.open_agg3 Tryd.underlying26 (by kernel_rfl) (by kernel_rfl) (hval 1 26 v1 rfl rfl) h1
  obtain ⟨a1_0, e_a1_0, _, w_a1_0⟩ := DataW.trod_int Tryd.underlying2 hy1_0
  simp only [List.cons.injEq, and_true] at e_a1_0
  subst e_a1_0
  obtain ⟨a1_1, e_a1_1, _, w_a1_1⟩ := DataW.trod_string Tryd.underlying9 hy1_1
  simp only [List.cons.injEq, and_true] at e_a1_1
  subst e_a1_1
  obtain ⟨a1_2, e_a1_2, _, w_a1_2⟩ := DataW.trod_string Tryd.underlying9 hy1_2
  simp only [List.cons.injEq, and_true] at e_a1_2
  subst e_a1_2
  clear hA0 hval0
  refine (walk_FnExactFaceValue a0_0 a0_1_a a0_1_c a0_1_l a0_2_a a0_2_c a0_2_l a0_3 a1_0 a1_1 a1_2 W w_a0_0 r_a0_1 n_a0_1 r_a0_2 n_a0_2 w_a0_3 w_a1_0 w_a1_1 w_a1_2 (maxAt_of hSh)).mono fun e W' ⟨he, bel⟩ => ?_
  subst he
  exact ⟨_, rfl, _, _, _, [], _, [], hW', trodAll_mk1 (shut_bool Tryd.underlying4 _), (trodAll_cons_mk (Below.trod laidRow (by kernel_rfl) (of_decide_eq_true (by kernel_rfl)) k0 bel lt0) (trodAll_cons_mk (Below.trod laidRow (by kernel_rfl) (of_decide_eq_true (by kernel_rfl)) k1 bel lt1) trodAll_mk0)), rfl, bel.frame _, fun h => by cases h⟩

theorem over_FnExactFaceValue : Rows.fnExactFaceValueRow.holds Tryd.pinned (OpenSpec.ofChange Rows.fnExactFaceValueSpec) :=
  OpenClaim.holds_of_wide 3 Tryd.f3 rfl rfl rfl rfl rfl rfl rfl ⟨rfl, rfl, rfl, rfl, rfl⟩ rfl rfl rfl rfl rfl (by kernel_rfl) Tryd.func3 (by kernel_rfl)
    (of_decide_eq_true (by kernel_rfl)) (by unfold Func.isWrapper; first | (rw [if_pos (by decide +kernel)]; kernel_rfl) | (rw [if_neg (by decide +kernel)]; exact ⟨rfl, rfl⟩))
    (fun os started H enc _ => lifted_FnExactFaceValue os started H enc)

theorem said_FnExactFaceValue : Rows.FnExactFaceValueCardSaid :=
  Claim7.holds_tied_plain_at .later [] [.data, .pinned, .pinned] true (true, "0daa5b8eeafa4c5c42382a267ff587026fbf8bbb2f2469e3b1df525f9bfa6e2f") false over_FnExactFaceValue (fun _ h => by cases h) (by kernel_rfl) (fun _ h => by cases h) fnExactFaceValue_row_tie rfl ⟨rfl, rfl⟩ (by kernel_rfl) rfl
    (fun f fn hf hfn => by
      obtain rfl : f = 3 := Option.some.inj ((show Tryd.prog.funcNamed "loop.example/g00911/laws.FnExactFaceValue" = some 3 by kernel_rfl).symm.trans hf) |>.symm
      obtain rfl : fn = Tryd.f3 := (Option.some.inj (Tryd.func3.symm.trans hfn)).symm
      exact ⟨by kernel_rfl, fun j t ht => by
        rw [Tryd.params3] at ht
        have hm : t ∈ [24, 26] := by simpa using Array.mem_of_getElem? ht
        have hall : ([24, 26].all fun u => !Tryd.prog.wantsStandIn u) = true := by kernel_rfl
        exact (show Tryd.prog.wantsStandIn t = false by simpa using List.all_eq_true.1 hall t hm)⟩)
    (by kernel_rfl)
end Go.Proofs.YtcgedkpbobgkhaaDoor
