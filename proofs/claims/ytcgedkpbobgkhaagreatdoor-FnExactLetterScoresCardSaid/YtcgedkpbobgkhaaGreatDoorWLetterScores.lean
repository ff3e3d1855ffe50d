/- FnExactLetterScores: whatever it is given, it says yes. -/
import Derived.Test.YtcgedkpbobgkhaaGreatDoorCh13d
import Derived.Test.YtcgedkpbobgkhaaGreatDoorMarkI
import Derived.Test.YtcgedkpbobgkhaaGreatDoorLwE
import Derived.Test.YtcgedkpbobgkhaaGreatDoorRowL
import Derived.Test.YtcgedkpbobgkhaaGreatDoorRow4
namespace Go.Proofs.YtcgedkpbobgkhaaGreatDoor
set_option linter.unusedVariables false
set_option linter.unusedSimpArgs false
open Go Go.RowKit Go.ChangeShapes Go.WideShapes Go.ChangeAt
open Go.ChangeMaps (open_string shut_string)
/-- A tile set whose two lists can be read. -/
def TIs (s : ByteArray) (vs cs : List Int) (k : Int) (v : Value) (w : World) : Prop := ∃ a b c d, v = tileV s a b vs.length cs.length c d k ∧ Rd w a (intsV vs) ∧ Rd w b (intsV cs)
theorem TIs.ext {s : ByteArray} {vs cs : List Int} {k : Int} {v : Value} {w w' : World} (h : TIs s vs cs k v w) (x : Ext w w') : TIs s vs cs k v w' := by
  obtain ⟨a, b, c, d, e, h1, h2⟩ := h
  exact ⟨a, b, c, d, e, h1.ext x, h2.ext x⟩
theorem retT_calls {P : Program} {f : FuncId} {args : Array Value} {s : ByteArray} {vs cs : List Int} {k : Int} {w : World} (h : Calls P f args w (RetT s vs cs k w)) : Calls P f args w fun e w' => ∃ v, e = .returned v ∧ TIs s vs cs k v w' ∧ Ext w w' :=
  h.mono fun _ _ ⟨a, b, c, d, he, h1, h2, hx⟩ => ⟨_, he, ⟨a, b, c, d, rfl, h1.rd, h2.rd⟩, hx⟩
theorem flow_tile {P : Program} {f : FuncId} {args : Array Value} {s : ByteArray} {vs cs : List Int} {k : Int} {w : World} (h : Calls P f args w (RetT s vs cs k w)) : flowUpon P Ext w (fun v w' => TIs s vs cs k v w') (.ok (.enter f args) w) :=
  ⟨Ext.refl w, (retT_calls h).mono fun _ _ ⟨v, he, hv, hx⟩ => ⟨v, he, hx, hv⟩⟩
def IcAt (l : List Int) (y : Int) (lo : Nat) (v : Value) (w : World) : Prop := ∃ a cc, v = .tuple #[.slice a l.length cc, .int .i64 y] ∧ InR lo w.heap.size w a (intsV l)
def IlAt (l : List Int) (lo : Nat) (v : Value) (w : World) : Prop := ∃ a cc, v = .slice a l.length cc ∧ InR lo w.heap.size w a (intsV l)
theorem IcAt.ext {l : List Int} {y : Int} {lo : Nat} {v : Value} {w w' : World} (h : IcAt l y lo v w) (k : Ext w w') : IcAt l y lo v w' := by
  obtain ⟨a, cc, e, h⟩ := h
  exact ⟨a, cc, e, (h.ext k).up k.size⟩
theorem IlAt.ext {l : List Int} {lo : Nat} {v : Value} {w w' : World} (h : IlAt l lo v w) (k : Ext w w') : IlAt l lo v w' := by
  obtain ⟨a, cc, e, h⟩ := h
  exact ⟨a, cc, e, (h.ext k).up k.size⟩
theorem OwnR.inR2 {w : World} {B : Nat} {a : Option Addr} {xs : List Value} (h : OwnR w B a xs) : InR B w.heap.size w a xs := by
  rcases h with rfl | ⟨g, rfl, hb, h⟩
  · exact .inl rfl
  · exact .inr ⟨g, rfl, hb, h.1, h⟩
theorem flow_ic {P : Program} {f : FuncId} {args : Array Value} {w : World} {l : List Int} {y : Int} {lo : Nat} (h : Calls P f args w (RetIC l y w)) (hlo : lo ≤ w.heap.size) : flowUpon P Ext w (fun v w' => IcAt l y lo v w') (.ok (.enter f args) w) :=
  ⟨Ext.refl w, h.mono fun _ _ ⟨a, cc, he, ho, hx⟩ => ⟨_, he, hx, a, cc, rfl, ho.inR2.down hlo⟩⟩
set_option maxRecDepth 100000 in
set_option maxHeartbeats 8000000 in
theorem walk_FnExactLetterScores (s : ByteArray) (a1' : Option Addr) (c1 : Nat) (es : List Int) (a2' : Option Addr) (c2 : Nat) (cs : List Int) (k n : Int) (p q : ByteArray) (r c : Int) (d : Bool) (t : ByteArray) (w : World)
    (hs : s.size ≤ maxLen) (r1 : Rd w a1' (intsV es)) (n1 : es.length ≤ maxLen) (r2 : Rd w a2' (intsV cs)) (n2 : cs.length ≤ maxLen) (hk : (Lit.int .i64 k).wf = true) (hn : (Lit.int .i64 n).wf = true) (hp : p.size ≤ maxLen) (hq : q.size ≤ maxLen) (hr : (Lit.int .i64 r).wf = true) (hc : (Lit.int .i64 c).wf = true) (ht : t.size ≤ maxLen) (hT : Tabs w) :
    Calls Tryz.prog 3 #[tileV s a1' a2' es.length cs.length c1 c2 k, boardV n p q, playV r c d t] w (Ret (.bool true) w) := by
  have HTB : Hid (∀ w', Ext w w' → Tabs w') := hid (fun w' k => hT.ext k)
  have R1 : Hid (∀ w', Ext w w' → Rd w' a1' (intsV es)) := hid (fun w' k => r1.ext k)
  have R2 : Hid (∀ w', Ext w w' → Rd w' a2' (intsV cs)) := hid (fun w' k => r2.ext k)
  have HZ := hid (fun w' => szTileSet_any s a1' a2' c1 c2 es cs k 1048576 w' hs n1 n2 (by omega) (by omega))
  have HB := hid (fun L w' (h0 : 0 ≤ L) (h1 : L ≤ 1048576) => szBoard_any n p q L w' hp hq h0 h1)
  have HPz := hid (fun L w' (h0 : 0 ≤ L) (h1 : L ≤ 1048576) => szPlay_any r c d t L w' ht h0 h1)
  have HOK := hid (@szT_ok 1048576 s es cs)
  obtain ⟨T, hT'⟩ : ∃ T, szT 1048576 s es cs = T := ⟨_, rfl⟩
  rw [hT'] at HZ HOK
  clear hT r1 r2 hs n1 n2 hp hq hT' ht hr hc hn hk
  have hE := (((Ext.refl w).alloc (.cells #[.string s, .slice a1' es.length c1, .slice a2' cs.length c2, .int .i64 k] 24)).alloc (.cells #[.int .i64 n, .string p, .string q] 26)).alloc (.cells #[.int .i64 r, .int .i64 c, .bool d, .string t] 28)
  have a0 : (((w.alloc (.cells #[.string s, .slice a1' es.length c1, .slice a2' cs.length c2, .int .i64 k] 24)).alloc (.cells #[.int .i64 n, .string p, .string q] 26)).alloc (.cells #[.int .i64 r, .int .i64 c, .bool d, .string t] 28)).cell? ⟨w.heap.size, 0, none⟩ = some (.string s) := by go_cell
  have a1 : (((w.alloc (.cells #[.string s, .slice a1' es.length c1, .slice a2' cs.length c2, .int .i64 k] 24)).alloc (.cells #[.int .i64 n, .string p, .string q] 26)).alloc (.cells #[.int .i64 r, .int .i64 c, .bool d, .string t] 28)).cell? ⟨w.heap.size, 1, none⟩ = some (.slice a1' es.length c1) := by go_cell
  have a2 : (((w.alloc (.cells #[.string s, .slice a1' es.length c1, .slice a2' cs.length c2, .int .i64 k] 24)).alloc (.cells #[.int .i64 n, .string p, .string q] 26)).alloc (.cells #[.int .i64 r, .int .i64 c, .bool d, .string t] 28)).cell? ⟨w.heap.size, 2, none⟩ = some (.slice a2' cs.length c2) := by go_cell
  have a3 : (((w.alloc (.cells #[.string s, .slice a1' es.length c1, .slice a2' cs.length c2, .int .i64 k] 24)).alloc (.cells #[.int .i64 n, .string p, .string q] 26)).alloc (.cells #[.int .i64 r, .int .i64 c, .bool d, .string t] 28)).cell? ⟨w.heap.size, 3, none⟩ = some (.int .i64 k) := by go_cell
  have b0 : (((w.alloc (.cells #[.string s, .slice a1' es.length c1, .slice a2' cs.length c2, .int .i64 k] 24)).alloc (.cells #[.int .i64 n, .string p, .string q] 26)).alloc (.cells #[.int .i64 r, .int .i64 c, .bool d, .string t] 28)).cell? ⟨w.heap.size + 1, 0, none⟩ = some (.int .i64 n) := by go_cell
  have b1 : (((w.alloc (.cells #[.string s, .slice a1' es.length c1, .slice a2' cs.length c2, .int .i64 k] 24)).alloc (.cells #[.int .i64 n, .string p, .string q] 26)).alloc (.cells #[.int .i64 r, .int .i64 c, .bool d, .string t] 28)).cell? ⟨w.heap.size + 1, 1, none⟩ = some (.string p) := by go_cell
  have b2 : (((w.alloc (.cells #[.string s, .slice a1' es.length c1, .slice a2' cs.length c2, .int .i64 k] 24)).alloc (.cells #[.int .i64 n, .string p, .string q] 26)).alloc (.cells #[.int .i64 r, .int .i64 c, .bool d, .string t] 28)).cell? ⟨w.heap.size + 1, 2, none⟩ = some (.string q) := by go_cell
  have d0 : (((w.alloc (.cells #[.string s, .slice a1' es.length c1, .slice a2' cs.length c2, .int .i64 k] 24)).alloc (.cells #[.int .i64 n, .string p, .string q] 26)).alloc (.cells #[.int .i64 r, .int .i64 c, .bool d, .string t] 28)).cell? ⟨w.heap.size + 2, 0, none⟩ = some (.int .i64 r) := by go_cell
  have d1 : (((w.alloc (.cells #[.string s, .slice a1' es.length c1, .slice a2' cs.length c2, .int .i64 k] 24)).alloc (.cells #[.int .i64 n, .string p, .string q] 26)).alloc (.cells #[.int .i64 r, .int .i64 c, .bool d, .string t] 28)).cell? ⟨w.heap.size + 2, 1, none⟩ = some (.int .i64 c) := by go_cell
  have d2 : (((w.alloc (.cells #[.string s, .slice a1' es.length c1, .slice a2' cs.length c2, .int .i64 k] 24)).alloc (.cells #[.int .i64 n, .string p, .string q] 26)).alloc (.cells #[.int .i64 r, .int .i64 c, .bool d, .string t] 28)).cell? ⟨w.heap.size + 2, 2, none⟩ = some (.bool d) := by go_cell
  have d3 : (((w.alloc (.cells #[.string s, .slice a1' es.length c1, .slice a2' cs.length c2, .int .i64 k] 24)).alloc (.cells #[.int .i64 n, .string p, .string q] 26)).alloc (.cells #[.int .i64 r, .int .i64 c, .bool d, .string t] 28)).cell? ⟨w.heap.size + 2, 3, none⟩ = some (.string t) := by go_cell
  obtain ⟨w0, hw0⟩ : ∃ w0, (((w.alloc (.cells #[.string s, .slice a1' es.length c1, .slice a2' cs.length c2, .int .i64 k] 24)).alloc (.cells #[.int .i64 n, .string p, .string q] 26)).alloc (.cells #[.int .i64 r, .int .i64 c, .bool d, .string t] 28)) = w0 := ⟨_, rfl⟩
  rw [hw0] at hE a0 a1 a2 a3 b0 b1 b2 d0 d1 d2 d3
  go_enter Tryz.func3, Tryz.ntmps3
  go_wp2_with first | (rw [hw0]; clear hw0)
  refine (HZ.out _).mono ?_
  rintro e w1 ⟨rfl, hx⟩
  replace hE := hE.trans hx
  replace a0 := hx.cell a0
  replace a1 := hx.cell a1
  replace a2 := hx.cell a2
  replace a3 := hx.cell a3
  replace b0 := hx.cell b0
  replace b1 := hx.cell b1
  replace b2 := hx.cell b2
  replace d0 := hx.cell d0
  replace d1 := hx.cell d1
  replace d2 := hx.cell d2
  replace d3 := hx.cell d3
  clear hx
  by_cases hT0 : T < 0
  · go_wp2_with fail
    go_returns
    exact ⟨rfl, hE⟩
  obtain ⟨t1, t2⟩ := HOK.out (by omega)
  have q0 : s.size ≤ 1048576 := by omega
  have l1 : es.length ≤ 1048576 := by omega
  have l2 : cs.length ≤ 1048576 := by omega
  have t3 : 0 ≤ T := by omega
  have t4 : T ≤ 1048576 := by omega
  clear t1 t2 HOK
  go_wp2_with fail
  refine (HB.out _ _ t3 t4).mono ?_
  rintro e w2 ⟨rfl, hx⟩
  replace hE := hE.trans hx
  replace a0 := hx.cell a0
  replace a1 := hx.cell a1
  replace a2 := hx.cell a2
  replace a3 := hx.cell a3
  replace b0 := hx.cell b0
  replace b1 := hx.cell b1
  replace b2 := hx.cell b2
  replace d0 := hx.cell d0
  replace d1 := hx.cell d1
  replace d2 := hx.cell d2
  replace d3 := hx.cell d3
  clear hx
  by_cases hS0 : szB T p q < 0
  · go_wp2_with fail
    go_returns
    exact ⟨rfl, hE⟩
  obtain ⟨q1, q2, q3, q4⟩ := szB_neg hS0 (by omega)
  go_wp2_with fail
  refine (HPz.out _ _ q3 q4).mono ?_
  rintro e w3 ⟨rfl, hx⟩
  replace hE := hE.trans hx
  replace a0 := hx.cell a0
  replace a1 := hx.cell a1
  replace a2 := hx.cell a2
  replace a3 := hx.cell a3
  replace b0 := hx.cell b0
  replace b1 := hx.cell b1
  replace b2 := hx.cell b2
  replace d0 := hx.cell d0
  replace d1 := hx.cell d1
  replace d2 := hx.cell d2
  replace d3 := hx.cell d3
  clear hx
  by_cases hU0 : szP (szB T p q) t < 0
  · go_wp2_with fail
    go_returns
    exact ⟨rfl, hE⟩
  obtain ⟨q5, q6, q7⟩ := szP_neg hU0 q4
  have HTo := hid (fun w' (x : Ext w w') => toTileSet_any s a1' a2' c1 c2 es cs k w' (R1.out _ x) (R2.out _ x) l1 l2)
  have HS := hid (fun a b c0 d0 w' (h1 : Rd w' a (intsV es)) (h2 : Rd w' b (intsV cs)) => sLetterScores_any s a b c0 d0 es cs k n p q r c d t w' q0 l1 l2 h1 h2 q1 q2 q5)
  have HI := hid (fun a b c0 d0 w' (h1 : Rd w' a (intsV es)) (h2 : Rd w' b (intsV cs)) (hT : Tabs w') => LetterScores_any s a b c0 d0 es cs k n p q r c d t w' q0 l1 l2 h1 h2 q1 q2 q5 hT)
  have HEq := hid (fun a b a' b' c d c' d' w' (h1 : Rd w' a (intsV es)) (h2 : Rd w' b (intsV cs)) (h1' : Rd w' a' (intsV es)) (h2' : Rd w' b' (intsV cs)) => eqTileSet_self s a b a' b' c d c' d' es cs k w' h1 h2 h1' h2' l1 l2)
  have HMk := hid (fun lo hi a b c0 d0 (w' : World) (hhi : hi ≤ w'.heap.size) (h1 : InI lo hi w' a es.length) (h2 : InI lo hi w' b cs.length) => markTileSet_any lo hi s a b es.length cs.length c0 d0 k 1 w' hhi h1 h2 l1 l2 (by omega) (by omega))
  obtain ⟨V, hV⟩ : ∃ V, lsR s es cs k n p q r c d t = V := ⟨_, rfl⟩
  obtain ⟨Y, hY⟩ : ∃ Y, lsC s es cs k n p q r c d t = Y := ⟨_, rfl⟩
  have hVL : V.length ≤ 1048576 := by rw [← hV]; exact Nat.le_trans lsR_le q5
  rw [hV, hY] at HS HI
  clear hV hY
  have hA := World.block_lt_of_cell? _ _ d0
  simp only [] at hA
  obtain ⟨z2, hz2⟩ : ∃ z, w3.heap.size = z := ⟨_, rfl⟩
  rw [hz2] at hA
  go_wp2_with fail
  refine wp_region_flow_at (C := Ext) 12 [fun v _ => v = .agg #[.string s, .slice a1' es.length c1, .slice a2' cs.length c2, .int .i64 k], fun v w' => TIs s es cs k v w', fun v _ => v = .agg #[.int .i64 n, .string p, .string q], fun v _ => v = boardV n p q, fun v _ => v = .agg #[.int .i64 r, .int .i64 c, .bool d, .string t], fun v _ => v = playV r c d t, fun v w' => IcAt V Y z2 v w', fun v w' => IcAt V Y z2 v w', fun v w' => IlAt V z2 v w', fun v _ => v = .int .i64 Y, fun v w' => IlAt V z2 v w', fun v _ => v = .int .i64 Y]
    [[(3, none)], [(34, some 0)], [(4, none)], [(36, some 2)], [(5, none)], [(38, some 4)], [(35, some 1), (37, some 3), (39, some 5)], [(40, some 6)], [(33, some 7)], [(33, some 7)], [(41, some 8)], [(42, some 9)]] (by kernel_rfl) (by kernel_rfl) Ext.refl (fun _ _ _ => Ext.trans) ?_ ?_ ?_
  · intro F hF
    simp only [List.mem_cons, List.not_mem_nil, or_false] at hF
    rcases hF with rfl | rfl | rfl | rfl | rfl | rfl | rfl | rfl | rfl | rfl | rfl | rfl
    · exact fun _ _ _ h _ => h
    · exact fun _ _ _ h k => h.ext k
    · exact fun _ _ _ h _ => h
    · exact fun _ _ _ h _ => h
    · exact fun _ _ _ h _ => h
    · exact fun _ _ _ h _ => h
    · exact fun _ _ _ h k => h.ext k
    · exact fun _ _ _ h k => h.ext k
    · exact fun _ _ _ h k => h.ext k
    · exact fun _ _ _ h _ => h
    · exact fun _ _ _ h k => h.ext k
    · exact fun _ _ _ h _ => h
  · refine ⟨?_, ?_, ?_, ?_, ?_, ?_, ?_, ?_, ?_, ?_, ?_, ?_, trivial⟩
    · rintro ρ w1 hw hcst hfn hk
      have c0 := hw.cell (b := w.heap.size) (o := 0) (v := .string s) (by first | (simp [*]; done) | (simp [*, go_sem]; done) | go_cell)
      have c1 := hw.cell (b := w.heap.size) (o := 1) (v := .slice a1' es.length c1) (by first | (simp [*]; done) | (simp [*, go_sem]; done) | go_cell)
      have c2 := hw.cell (b := w.heap.size) (o := 2) (v := .slice a2' cs.length c2) (by first | (simp [*]; done) | (simp [*, go_sem]; done) | go_cell)
      have c3 := hw.cell (b := w.heap.size) (o := 3) (v := .int .i64 k) (by first | (simp [*]; done) | (simp [*, go_sem]; done) | go_cell)
      clear hw
      simp only [known, List.getD_cons_zero, List.getD_cons_succ, Nat.reduceAdd] at hk
      simp only [List.getD_cons_zero, List.getD_cons_succ, Nat.reduceAdd, flowAt]
      go_simp
      exact ⟨Ext.refl _, by first | rfl | trivial⟩
    · rintro ρ w1 hw hcst hfn hk
      simp only [known, List.getD_cons_zero, List.getD_cons_succ, Nat.reduceAdd] at hk
      simp only [List.getD_cons_zero, List.getD_cons_succ, Nat.reduceAdd, flowAt]
      go_simp
      exact flow_tile (HTo.out _ (hE.drew.trans hw))
    · rintro ρ w1 hw hcst hfn hk
      have c0 := hw.cell (b := (w.heap.size + 1)) (o := 0) (v := .int .i64 n) (by first | (simp [*]; done) | (simp [*, go_sem]; done) | go_cell)
      have c1 := hw.cell (b := (w.heap.size + 1)) (o := 1) (v := .string p) (by first | (simp [*]; done) | (simp [*, go_sem]; done) | go_cell)
      have c2 := hw.cell (b := (w.heap.size + 1)) (o := 2) (v := .string q) (by first | (simp [*]; done) | (simp [*, go_sem]; done) | go_cell)
      clear hw
      simp only [known, List.getD_cons_zero, List.getD_cons_succ, Nat.reduceAdd] at hk
      simp only [List.getD_cons_zero, List.getD_cons_succ, Nat.reduceAdd, flowAt]
      go_simp
      exact ⟨Ext.refl _, by first | rfl | trivial⟩
    · rintro ρ w1 hw hcst hfn hk
      simp only [known, List.getD_cons_zero, List.getD_cons_succ, Nat.reduceAdd] at hk
      simp only [List.getD_cons_zero, List.getD_cons_succ, Nat.reduceAdd, flowAt]
      go_simp
      exact flow_ret (toBoard_any _ _ _ _)
    · rintro ρ w1 hw hcst hfn hk
      have c0 := hw.cell (b := (w.heap.size + 2)) (o := 0) (v := .int .i64 r) (by first | (simp [*]; done) | (simp [*, go_sem]; done) | go_cell)
      have c1 := hw.cell (b := (w.heap.size + 2)) (o := 1) (v := .int .i64 c) (by first | (simp [*]; done) | (simp [*, go_sem]; done) | go_cell)
      have c2 := hw.cell (b := (w.heap.size + 2)) (o := 2) (v := .bool d) (by first | (simp [*]; done) | (simp [*, go_sem]; done) | go_cell)
      have c3 := hw.cell (b := (w.heap.size + 2)) (o := 3) (v := .string t) (by first | (simp [*]; done) | (simp [*, go_sem]; done) | go_cell)
      clear hw
      simp only [known, List.getD_cons_zero, List.getD_cons_succ, Nat.reduceAdd] at hk
      simp only [List.getD_cons_zero, List.getD_cons_succ, Nat.reduceAdd, flowAt]
      go_simp
      exact ⟨Ext.refl _, by first | rfl | trivial⟩
    · rintro ρ w1 hw hcst hfn hk
      simp only [known, List.getD_cons_zero, List.getD_cons_succ, Nat.reduceAdd] at hk
      simp only [List.getD_cons_zero, List.getD_cons_succ, Nat.reduceAdd, flowAt]
      go_simp
      exact flow_ret (toPlay_any _ _ _ _ _)
    · rintro ρ w1 hw hcst hfn hk
      simp only [known, List.getD_cons_zero, List.getD_cons_succ, Nat.reduceAdd] at hk
      simp only [List.getD_cons_zero, List.getD_cons_succ, Nat.reduceAdd, flowAt]
      go_simp
      (obtain ⟨a5, b5, c5, d5, e5, r5, r6⟩ := hk.1; rw [e5]; exact flow_ic (HS.out _ _ _ _ _ r5 r6) (by rw [← hz2]; exact ((Ext.refl _).drew.trans hw).size))
    · rintro ρ w1 hw hcst hfn hk
      simp only [known, List.getD_cons_zero, List.getD_cons_succ, Nat.reduceAdd] at hk
      simp only [List.getD_cons_zero, List.getD_cons_succ, Nat.reduceAdd, flowAt]
      go_simp
      exact ⟨Ext.refl _, hk.1⟩
    · rintro ρ w1 hw hcst hfn hk
      simp only [known, List.getD_cons_zero, List.getD_cons_succ, Nat.reduceAdd] at hk
      simp only [List.getD_cons_zero, List.getD_cons_succ, Nat.reduceAdd, flowAt]
      go_simp
      (obtain ⟨a5, c5, e5, r5⟩ := hk.1; rw [e5]; exact ⟨Ext.refl _, a5, c5, rfl, r5⟩)
    · rintro ρ w1 hw hcst hfn hk
      simp only [known, List.getD_cons_zero, List.getD_cons_succ, Nat.reduceAdd] at hk
      simp only [List.getD_cons_zero, List.getD_cons_succ, Nat.reduceAdd, flowAt]
      go_simp
      (obtain ⟨a5, c5, e5, r5⟩ := hk.1; rw [e5]; exact ⟨Ext.refl _, rfl⟩)
    · rintro ρ w1 hw hcst hfn hk
      simp only [known, List.getD_cons_zero, List.getD_cons_succ, Nat.reduceAdd] at hk
      simp only [List.getD_cons_zero, List.getD_cons_succ, Nat.reduceAdd, flowAt]
      go_simp
      exact ⟨Ext.refl _, hk.1⟩
    · rintro ρ w1 hw hcst hfn hk
      clear hw
      simp only [known, List.getD_cons_zero, List.getD_cons_succ, Nat.reduceAdd] at hk
      simp only [List.getD_cons_zero, List.getD_cons_succ, Nat.reduceAdd, flowAt]
      go_simp
      exact ⟨Ext.refl _, by first | rfl | trivial⟩
  intro vs w1 hw hf
  simp only [flowFacts, Nat.reduceAdd] at hf
  obtain ⟨e0, e1, e2, e3, e4, e5, e6, e7, e8, e9, e10, e11, -⟩ := hf
  simp only [List.take_succ_cons, List.take_zero, List.drop_succ_cons, List.drop_zero, putAll, Act.put, Nat.reduceAdd, List.setIfInBounds_toArray, List.set_cons_zero, List.set_cons_succ, e0, e1, e2, e3, e4, e5, e6, e7, e8, e9, e11]
  clear e0 e1 e2 e3 e4 e5 e6 e7 e8 e9 e11
  obtain ⟨xI2, y2, e2v, hI2⟩ := e10
  rw [e2v]
  have I2 := hid hI2
  clear hI2 e2v
  have hx := (Ext.refl _).drew.trans hw
  replace hE := hE.drew.trans hw
  replace a0 := hx.cell a0
  replace a1 := hx.cell a1
  replace a2 := hx.cell a2
  replace a3 := hx.cell a3
  replace b0 := hx.cell b0
  replace b1 := hx.cell b1
  replace b2 := hx.cell b2
  replace d0 := hx.cell d0
  replace d1 := hx.cell d1
  replace d2 := hx.cell d2
  replace d3 := hx.cell d3
  have hz23 := hx.size
  rw [hz2] at hz23
  clear hx hw
  obtain ⟨z3, hz3⟩ : ∃ z, w1.heap.size = z := ⟨_, rfl⟩
  rw [hz3] at I2 hz23
  go_wp2_with fail
  refine (HTo.out _ hE).mono ?_
  rintro e w5 ⟨a5, b5, c5, d5, rfl, o1, o2, hx⟩
  replace hE := hE.trans hx
  replace a0 := hx.cell a0
  replace a1 := hx.cell a1
  replace a2 := hx.cell a2
  replace a3 := hx.cell a3
  replace b0 := hx.cell b0
  replace b1 := hx.cell b1
  replace b2 := hx.cell b2
  replace d0 := hx.cell d0
  replace d1 := hx.cell d1
  replace d2 := hx.cell d2
  replace d3 := hx.cell d3
  replace I2 := hid (I2.out.ext hx)
  have hz34 := hx.size
  rw [hz3] at hz34 o1 o2
  have N1 := hid o1.inI
  have N2 := hid o2.inI
  have O1 := hid o1.rd
  have O2 := hid o2.rd
  clear hx o1 o2 hz3
  have hlt := World.block_lt_of_cell? _ _ d0
  go_wp2_with fail
  have hx := (Ext.refl w5).alloc (.cells #[.string s, .slice a5 es.length c5, .slice b5 cs.length d5, .int .i64 k] 34)
  replace hE := hE.trans hx
  replace a0 := hx.cell a0
  replace a1 := hx.cell a1
  replace a2 := hx.cell a2
  replace a3 := hx.cell a3
  replace b0 := hx.cell b0
  replace b1 := hx.cell b1
  replace b2 := hx.cell b2
  replace d0 := hx.cell d0
  replace d1 := hx.cell d1
  replace d2 := hx.cell d2
  replace d3 := hx.cell d3
  replace I2 := hid (I2.out.ext hx)
  replace O1 := hid (O1.out.ext hx)
  replace O2 := hid (O2.out.ext hx)
  replace N1 := hid (N1.out.ext hx)
  replace N2 := hid (N2.out.ext hx)
  have x0 : (w5.alloc (.cells #[.string s, .slice a5 es.length c5, .slice b5 cs.length d5, .int .i64 k] 34)).cell? ⟨w5.heap.size, 0, none⟩ = some (.string s) := by simp
  have x1 : (w5.alloc (.cells #[.string s, .slice a5 es.length c5, .slice b5 cs.length d5, .int .i64 k] 34)).cell? ⟨w5.heap.size, 1, none⟩ = some (.slice a5 es.length c5) := by simp
  have x2 : (w5.alloc (.cells #[.string s, .slice a5 es.length c5, .slice b5 cs.length d5, .int .i64 k] 34)).cell? ⟨w5.heap.size, 2, none⟩ = some (.slice b5 cs.length d5) := by simp
  have x3 : (w5.alloc (.cells #[.string s, .slice a5 es.length c5, .slice b5 cs.length d5, .int .i64 k] 34)).cell? ⟨w5.heap.size, 3, none⟩ = some (.int .i64 k) := by simp
  have hz4' : w5.heap.size < (w5.alloc (.cells #[.string s, .slice a5 es.length c5, .slice b5 cs.length d5, .int .i64 k] 34)).heap.size := by simp
  obtain ⟨w6, hw6⟩ : ∃ w6, (w5.alloc (.cells #[.string s, .slice a5 es.length c5, .slice b5 cs.length d5, .int .i64 k] 34)) = w6 := ⟨_, rfl⟩
  rw [hw6] at hE hz4' I2 O1 O2 N1 N2 x0 x1 x2 x3 a0 a1 a2 a3 b0 b1 b2 d0 d1 d2 d3
  rw [hw6]
  clear hx hw6
  obtain ⟨G, hG⟩ : ∃ G, w5.heap.size = G := ⟨_, rfl⟩
  simp only [hG] at *
  clear hG
  obtain ⟨z5, hz5⟩ : ∃ z, w6.heap.size = z := ⟨_, rfl⟩
  have hz5' : G < z5 := by rw [← hz5]; exact hz4'
  clear hz4' hlt
  refine wp_region_flow_at (C := Ext) 11 [fun v _ => v = .agg #[.string s, .slice a5 es.length c5, .slice b5 cs.length d5, .int .i64 k], fun v _ => v = .agg #[.int .i64 n, .string p, .string q], fun v _ => v = boardV n p q, fun v _ => v = .agg #[.int .i64 r, .int .i64 c, .bool d, .string t], fun v _ => v = playV r c d t, fun v w' => IcAt V Y z5 v w', fun v w' => IcAt V Y z5 v w', fun v w' => IlAt V z5 v w', fun v _ => v = .int .i64 Y, fun v w' => IlAt V z5 v w', fun v _ => v = .int .i64 Y]
    [[(10, none)], [(4, none)], [(47, some 1)], [(5, none)], [(49, some 3)], [(46, some 0), (48, some 2), (50, some 4)], [(51, some 5)], [(45, some 6)], [(45, some 6)], [(52, some 7)], [(53, some 8)]] (by kernel_rfl) (by kernel_rfl) Ext.refl (fun _ _ _ => Ext.trans) ?_ ?_ ?_
  · intro F hF
    simp only [List.mem_cons, List.not_mem_nil, or_false] at hF
    rcases hF with rfl | rfl | rfl | rfl | rfl | rfl | rfl | rfl | rfl | rfl | rfl
    · exact fun _ _ _ h _ => h
    · exact fun _ _ _ h _ => h
    · exact fun _ _ _ h _ => h
    · exact fun _ _ _ h _ => h
    · exact fun _ _ _ h _ => h
    · exact fun _ _ _ h k => h.ext k
    · exact fun _ _ _ h k => h.ext k
    · exact fun _ _ _ h k => h.ext k
    · exact fun _ _ _ h _ => h
    · exact fun _ _ _ h k => h.ext k
    · exact fun _ _ _ h _ => h
  · refine ⟨?_, ?_, ?_, ?_, ?_, ?_, ?_, ?_, ?_, ?_, ?_, trivial⟩
    · rintro ρ w1 hw hcst hfn hk
      have c0 := hw.cell (b := G) (o := 0) (v := .string s) (by first | (simp [*]; done) | (simp [*, go_sem]; done) | go_cell)
      have c1 := hw.cell (b := G) (o := 1) (v := .slice a5 es.length c5) (by first | (simp [*]; done) | (simp [*, go_sem]; done) | go_cell)
      have c2 := hw.cell (b := G) (o := 2) (v := .slice b5 cs.length d5) (by first | (simp [*]; done) | (simp [*, go_sem]; done) | go_cell)
      have c3 := hw.cell (b := G) (o := 3) (v := .int .i64 k) (by first | (simp [*]; done) | (simp [*, go_sem]; done) | go_cell)
      clear hw
      simp only [known, List.getD_cons_zero, List.getD_cons_succ, Nat.reduceAdd] at hk
      simp only [List.getD_cons_zero, List.getD_cons_succ, Nat.reduceAdd, flowAt]
      go_simp
      exact ⟨Ext.refl _, by first | rfl | trivial⟩
    · rintro ρ w1 hw hcst hfn hk
      have c0 := hw.cell (b := (w.heap.size + 1)) (o := 0) (v := .int .i64 n) (by first | (simp [*]; done) | (simp [*, go_sem]; done) | go_cell)
      have c1 := hw.cell (b := (w.heap.size + 1)) (o := 1) (v := .string p) (by first | (simp [*]; done) | (simp [*, go_sem]; done) | go_cell)
      have c2 := hw.cell (b := (w.heap.size + 1)) (o := 2) (v := .string q) (by first | (simp [*]; done) | (simp [*, go_sem]; done) | go_cell)
      clear hw
      simp only [known, List.getD_cons_zero, List.getD_cons_succ, Nat.reduceAdd] at hk
      simp only [List.getD_cons_zero, List.getD_cons_succ, Nat.reduceAdd, flowAt]
      go_simp
      exact ⟨Ext.refl _, by first | rfl | trivial⟩
    · rintro ρ w1 hw hcst hfn hk
      simp only [known, List.getD_cons_zero, List.getD_cons_succ, Nat.reduceAdd] at hk
      simp only [List.getD_cons_zero, List.getD_cons_succ, Nat.reduceAdd, flowAt]
      go_simp
      exact flow_ret (toBoard_any _ _ _ _)
    · rintro ρ w1 hw hcst hfn hk
      have c0 := hw.cell (b := (w.heap.size + 2)) (o := 0) (v := .int .i64 r) (by first | (simp [*]; done) | (simp [*, go_sem]; done) | go_cell)
      have c1 := hw.cell (b := (w.heap.size + 2)) (o := 1) (v := .int .i64 c) (by first | (simp [*]; done) | (simp [*, go_sem]; done) | go_cell)
      have c2 := hw.cell (b := (w.heap.size + 2)) (o := 2) (v := .bool d) (by first | (simp [*]; done) | (simp [*, go_sem]; done) | go_cell)
      have c3 := hw.cell (b := (w.heap.size + 2)) (o := 3) (v := .string t) (by first | (simp [*]; done) | (simp [*, go_sem]; done) | go_cell)
      clear hw
      simp only [known, List.getD_cons_zero, List.getD_cons_succ, Nat.reduceAdd] at hk
      simp only [List.getD_cons_zero, List.getD_cons_succ, Nat.reduceAdd, flowAt]
      go_simp
      exact ⟨Ext.refl _, by first | rfl | trivial⟩
    · rintro ρ w1 hw hcst hfn hk
      simp only [known, List.getD_cons_zero, List.getD_cons_succ, Nat.reduceAdd] at hk
      simp only [List.getD_cons_zero, List.getD_cons_succ, Nat.reduceAdd, flowAt]
      go_simp
      exact flow_ret (toPlay_any _ _ _ _ _)
    · rintro ρ w1 hw hcst hfn hk
      simp only [known, List.getD_cons_zero, List.getD_cons_succ, Nat.reduceAdd] at hk
      simp only [List.getD_cons_zero, List.getD_cons_succ, Nat.reduceAdd, flowAt]
      go_simp
      exact flow_ic (HI.out _ _ _ _ _ (O1.out.ext ((Ext.refl _).drew.trans hw)) (O2.out.ext ((Ext.refl _).drew.trans hw)) (HTB.out _ (hE.drew.trans hw))) (by rw [← hz5]; exact ((Ext.refl _).drew.trans hw).size)
    · rintro ρ w1 hw hcst hfn hk
      simp only [known, List.getD_cons_zero, List.getD_cons_succ, Nat.reduceAdd] at hk
      simp only [List.getD_cons_zero, List.getD_cons_succ, Nat.reduceAdd, flowAt]
      go_simp
      exact ⟨Ext.refl _, hk.1⟩
    · rintro ρ w1 hw hcst hfn hk
      simp only [known, List.getD_cons_zero, List.getD_cons_succ, Nat.reduceAdd] at hk
      simp only [List.getD_cons_zero, List.getD_cons_succ, Nat.reduceAdd, flowAt]
      go_simp
      (obtain ⟨a5, c5, e5, r5⟩ := hk.1; rw [e5]; exact ⟨Ext.refl _, a5, c5, rfl, r5⟩)
    · rintro ρ w1 hw hcst hfn hk
      simp only [known, List.getD_cons_zero, List.getD_cons_succ, Nat.reduceAdd] at hk
      simp only [List.getD_cons_zero, List.getD_cons_succ, Nat.reduceAdd, flowAt]
      go_simp
      (obtain ⟨a5, c5, e5, r5⟩ := hk.1; rw [e5]; exact ⟨Ext.refl _, rfl⟩)
    · rintro ρ w1 hw hcst hfn hk
      simp only [known, List.getD_cons_zero, List.getD_cons_succ, Nat.reduceAdd] at hk
      simp only [List.getD_cons_zero, List.getD_cons_succ, Nat.reduceAdd, flowAt]
      go_simp
      exact ⟨Ext.refl _, hk.1⟩
    · rintro ρ w1 hw hcst hfn hk
      clear hw
      simp only [known, List.getD_cons_zero, List.getD_cons_succ, Nat.reduceAdd] at hk
      simp only [List.getD_cons_zero, List.getD_cons_succ, Nat.reduceAdd, flowAt]
      go_simp
      exact ⟨Ext.refl _, by first | rfl | trivial⟩
  intro vs w1 hw hf
  simp only [flowFacts, Nat.reduceAdd] at hf
  obtain ⟨e0, e1, e2, e3, e4, e5, e6, e7, e8, e9, e10, -⟩ := hf
  simp only [List.take_succ_cons, List.take_zero, List.drop_succ_cons, List.drop_zero, putAll, Act.put, Nat.reduceAdd, List.setIfInBounds_toArray, List.set_cons_zero, List.set_cons_succ, e0, e1, e2, e3, e4, e5, e6, e7, e8, e10]
  clear e0 e1 e2 e3 e4 e5 e6 e7 e8 e10
  obtain ⟨xI4, y4, e4v, hI4⟩ := e9
  rw [e4v]
  have I4 := hid hI4
  clear hI4 e4v
  have hx := (Ext.refl _).drew.trans hw
  replace hE := hE.drew.trans hw
  replace a0 := hx.cell a0
  replace a1 := hx.cell a1
  replace a2 := hx.cell a2
  replace a3 := hx.cell a3
  replace b0 := hx.cell b0
  replace b1 := hx.cell b1
  replace b2 := hx.cell b2
  replace d0 := hx.cell d0
  replace d1 := hx.cell d1
  replace d2 := hx.cell d2
  replace d3 := hx.cell d3
  replace x0 := hx.cell x0
  replace x1 := hx.cell x1
  replace x2 := hx.cell x2
  replace x3 := hx.cell x3
  replace I2 := hid (I2.out.ext hx)
  replace O1 := hid (O1.out.ext hx)
  replace O2 := hid (O2.out.ext hx)
  replace N1 := hid (N1.out.ext hx)
  replace N2 := hid (N2.out.ext hx)
  have hz56 := hx.size
  rw [hz5] at hz56
  clear hx hw
  obtain ⟨z6, hz6⟩ : ∃ z, w1.heap.size = z := ⟨_, rfl⟩
  rw [hz6] at I4 hz56
  clear hz5 hz6
  go_wp2_with fail
  refine (eqInt64S_self xI4 xI2 y4 y2 V _ I4.out.rd I2.out.rd hVL).mono ?_
  rintro e w7 ⟨rfl, hD⟩
  replace hx := hD.ext
  replace hE := hE.trans hx
  replace a0 := hx.cell a0
  replace a1 := hx.cell a1
  replace a2 := hx.cell a2
  replace a3 := hx.cell a3
  replace b0 := hx.cell b0
  replace b1 := hx.cell b1
  replace b2 := hx.cell b2
  replace d0 := hx.cell d0
  replace d1 := hx.cell d1
  replace d2 := hx.cell d2
  replace d3 := hx.cell d3
  replace x0 := hx.cell x0
  replace x1 := hx.cell x1
  replace x2 := hx.cell x2
  replace x3 := hx.cell x3
  replace I2 := hid (I2.out.ext hx)
  replace I4 := hid (I4.out.ext hx)
  replace O1 := hid (O1.out.ext hx)
  replace O2 := hid (O2.out.ext hx)
  replace N1 := hid (N1.out.ext hx)
  replace N2 := hid (N2.out.ext hx)
  have hz67 := hx.size
  clear hx hD
  go_wp2_with fail
  refine wp_region_flow_at (C := Ext) 5 [fun v _ => v = .agg #[.string s, .slice a5 es.length c5, .slice b5 cs.length d5, .int .i64 k], fun v _ => v = .agg #[.string s, .slice a1' es.length c1, .slice a2' cs.length c2, .int .i64 k], fun v w' => TIs s es cs k v w', fun v _ => v = .bool true, fun v _ => v = .bool false]
    [[(10, none)], [(3, none)], [(64, some 1)], [(63, some 0), (65, some 2)], [(66, some 3)]] (by kernel_rfl) (by kernel_rfl) Ext.refl (fun _ _ _ => Ext.trans) ?_ ?_ ?_
  · intro F hF
    simp only [List.mem_cons, List.not_mem_nil, or_false] at hF
    rcases hF with rfl | rfl | rfl | rfl | rfl
    · exact fun _ _ _ h _ => h
    · exact fun _ _ _ h _ => h
    · exact fun _ _ _ h k => h.ext k
    · exact fun _ _ _ h _ => h
    · exact fun _ _ _ h _ => h
  · refine ⟨?_, ?_, ?_, ?_, ?_, trivial⟩
    · rintro ρ w1 hw hcst hfn hk
      have c0 := hw.cell (b := G) (o := 0) (v := .string s) (by first | (simp [*]; done) | (simp [*, go_sem]; done) | go_cell)
      have c1 := hw.cell (b := G) (o := 1) (v := .slice a5 es.length c5) (by first | (simp [*]; done) | (simp [*, go_sem]; done) | go_cell)
      have c2 := hw.cell (b := G) (o := 2) (v := .slice b5 cs.length d5) (by first | (simp [*]; done) | (simp [*, go_sem]; done) | go_cell)
      have c3 := hw.cell (b := G) (o := 3) (v := .int .i64 k) (by first | (simp [*]; done) | (simp [*, go_sem]; done) | go_cell)
      clear hw
      simp only [known, List.getD_cons_zero, List.getD_cons_succ, Nat.reduceAdd] at hk
      simp only [List.getD_cons_zero, List.getD_cons_succ, Nat.reduceAdd, flowAt]
      go_simp
      exact ⟨Ext.refl _, by first | rfl | trivial⟩
    · rintro ρ w1 hw hcst hfn hk
      have c0 := hw.cell (b := w.heap.size) (o := 0) (v := .string s) (by first | (simp [*]; done) | (simp [*, go_sem]; done) | go_cell)
      have c1 := hw.cell (b := w.heap.size) (o := 1) (v := .slice a1' es.length c1) (by first | (simp [*]; done) | (simp [*, go_sem]; done) | go_cell)
      have c2 := hw.cell (b := w.heap.size) (o := 2) (v := .slice a2' cs.length c2) (by first | (simp [*]; done) | (simp [*, go_sem]; done) | go_cell)
      have c3 := hw.cell (b := w.heap.size) (o := 3) (v := .int .i64 k) (by first | (simp [*]; done) | (simp [*, go_sem]; done) | go_cell)
      clear hw
      simp only [known, List.getD_cons_zero, List.getD_cons_succ, Nat.reduceAdd] at hk
      simp only [List.getD_cons_zero, List.getD_cons_succ, Nat.reduceAdd, flowAt]
      go_simp
      exact ⟨Ext.refl _, by first | rfl | trivial⟩
    · rintro ρ w1 hw hcst hfn hk
      simp only [known, List.getD_cons_zero, List.getD_cons_succ, Nat.reduceAdd] at hk
      simp only [List.getD_cons_zero, List.getD_cons_succ, Nat.reduceAdd, flowAt]
      go_simp
      exact flow_tile (HTo.out _ (hE.drew.trans hw))
    · rintro ρ w1 hw hcst hfn hk
      simp only [known, List.getD_cons_zero, List.getD_cons_succ, Nat.reduceAdd] at hk
      simp only [List.getD_cons_zero, List.getD_cons_succ, Nat.reduceAdd, flowAt]
      go_simp
      (obtain ⟨a6, b6, c6, d6, e6, r5, r6⟩ := hk.2.1; rw [e6]; exact flow_ret (HEq.out _ _ _ _ _ _ _ _ _ (O1.out.ext ((Ext.refl _).drew.trans hw)) (O2.out.ext ((Ext.refl _).drew.trans hw)) r5 r6))
    · rintro ρ w1 hw hcst hfn hk
      clear hw
      simp only [known, List.getD_cons_zero, List.getD_cons_succ, Nat.reduceAdd] at hk
      simp only [List.getD_cons_zero, List.getD_cons_succ, Nat.reduceAdd, flowAt]
      go_simp
      exact ⟨Ext.refl _, by first | rfl | trivial⟩
  intro vs w1 hw hf
  simp only [flowFacts, Nat.reduceAdd] at hf
  obtain ⟨e0, e1, e2, e3, e4, -⟩ := hf
  simp only [List.take_succ_cons, List.take_zero, List.drop_succ_cons, List.drop_zero, putAll, Act.put, Nat.reduceAdd, List.setIfInBounds_toArray, List.set_cons_zero, List.set_cons_succ, e0, e1, e2, e3, e4]
  clear e0 e1 e2 e3 e4
  have hx := (Ext.refl _).drew.trans hw
  replace hE := hE.drew.trans hw
  replace a0 := hx.cell a0
  replace a1 := hx.cell a1
  replace a2 := hx.cell a2
  replace a3 := hx.cell a3
  replace b0 := hx.cell b0
  replace b1 := hx.cell b1
  replace b2 := hx.cell b2
  replace d0 := hx.cell d0
  replace d1 := hx.cell d1
  replace d2 := hx.cell d2
  replace d3 := hx.cell d3
  replace x0 := hx.cell x0
  replace x1 := hx.cell x1
  replace x2 := hx.cell x2
  replace x3 := hx.cell x3
  replace I2 := hid (I2.out.ext hx)
  replace I4 := hid (I4.out.ext hx)
  replace N1 := hid (N1.out.ext hx)
  replace N2 := hid (N2.out.ext hx)
  have hz68 := Nat.le_trans hz67 hx.size
  clear hx hw O1 O2 hz67
  have hGl := World.block_lt_of_cell? _ _ x0
  go_wp2_with fail
  refine (HMk.out z3 G _ _ _ _ _ (Nat.le_of_lt hGl) N1.out N2.out).mono ?_
  rintro e w8 ⟨rfl, hx⟩
  replace hE := hx.ext0 hE (by omega)
  replace a0 := hx.cell a0 (by omega)
  replace a1 := hx.cell a1 (by omega)
  replace a2 := hx.cell a2 (by omega)
  replace a3 := hx.cell a3 (by omega)
  replace b0 := hx.cell b0 (by omega)
  replace b1 := hx.cell b1 (by omega)
  replace b2 := hx.cell b2 (by omega)
  replace d0 := hx.cell d0 (by omega)
  replace d1 := hx.cell d1 (by omega)
  replace d2 := hx.cell d2 (by omega)
  replace d3 := hx.cell d3 (by omega)
  replace I2 := hid (hx.inR I2.out (by omega))
  replace I4 := hid (hx.inR I4.out (by omega))
  have hz8 := hx.size
  clear hx hGl N1 N2 x0 x1 x2 x3
  go_wp2_with fail
  refine (eqInt64S_self xI4 xI2 y4 y2 V _ I4.out.rd I2.out.rd hVL).mono ?_
  rintro e w9 ⟨rfl, hD⟩
  replace hx := hD.ext
  replace hE := hE.trans hx
  replace a0 := hx.cell a0
  replace a1 := hx.cell a1
  replace a2 := hx.cell a2
  replace a3 := hx.cell a3
  replace b0 := hx.cell b0
  replace b1 := hx.cell b1
  replace b2 := hx.cell b2
  replace d0 := hx.cell d0
  replace d1 := hx.cell d1
  replace d2 := hx.cell d2
  replace d3 := hx.cell d3
  replace I2 := hid (I2.out.ext hx)
  replace I4 := hid (I4.out.ext hx)
  clear hx hD
  go_wp2_with fail
  refine (markInt64S_any z5 z6 xI4 y4 V 1 _ I4.out hVL (by omega) (by omega)).mono ?_
  rintro e w10 ⟨rfl, hI4, hx⟩
  replace hE := hx.ext0 hE (by omega)
  replace a0 := hx.cell a0 (by omega)
  replace a1 := hx.cell a1 (by omega)
  replace a2 := hx.cell a2 (by omega)
  replace a3 := hx.cell a3 (by omega)
  replace b0 := hx.cell b0 (by omega)
  replace b1 := hx.cell b1 (by omega)
  replace b2 := hx.cell b2 (by omega)
  replace d0 := hx.cell d0 (by omega)
  replace d1 := hx.cell d1 (by omega)
  replace d2 := hx.cell d2 (by omega)
  replace d3 := hx.cell d3 (by omega)
  replace I2 := hid (hx.inR I2.out (by omega))
  replace I4 := hid hI4
  clear hx hI4
  have hq : ((1 + V.length : Nat) : Int) = 1 + (V.length : Int) := by omega
  go_wp2_with fail
  refine (heldInt64S_any xI4 y4 V.length 1 _ I4.out.rd hVL (by omega) (by omega)).mono ?_
  rintro e w11 ⟨rfl, rfl⟩
  obtain ⟨z7, hz7⟩ : ∃ z, w10.heap.size = z := ⟨_, rfl⟩
  go_wp2_with fail
  refine wp_region_flow_at (C := Ext) 12 [fun v _ => v = .agg #[.string s, .slice a1' es.length c1, .slice a2' cs.length c2, .int .i64 k], fun v w' => TIs s es cs k v w', fun v _ => v = .agg #[.int .i64 n, .string p, .string q], fun v _ => v = boardV n p q, fun v _ => v = .agg #[.int .i64 r, .int .i64 c, .bool d, .string t], fun v _ => v = playV r c d t, fun v w' => IcAt V Y z7 v w', fun v w' => IcAt V Y z7 v w', fun v w' => IlAt V z7 v w', fun v _ => v = .int .i64 Y, fun v w' => IlAt V z7 v w', fun v _ => v = .int .i64 Y]
    [[(3, none)], [(96, some 0)], [(4, none)], [(98, some 2)], [(5, none)], [(100, some 4)], [(97, some 1), (99, some 3), (101, some 5)], [(102, some 6)], [(95, some 7)], [(95, some 7)], [(103, some 8)], [(104, some 9)]] (by kernel_rfl) (by kernel_rfl) Ext.refl (fun _ _ _ => Ext.trans) ?_ ?_ ?_
  · intro F hF
    simp only [List.mem_cons, List.not_mem_nil, or_false] at hF
    rcases hF with rfl | rfl | rfl | rfl | rfl | rfl | rfl | rfl | rfl | rfl | rfl | rfl
    · exact fun _ _ _ h _ => h
    · exact fun _ _ _ h k => h.ext k
    · exact fun _ _ _ h _ => h
    · exact fun _ _ _ h _ => h
    · exact fun _ _ _ h _ => h
    · exact fun _ _ _ h _ => h
    · exact fun _ _ _ h k => h.ext k
    · exact fun _ _ _ h k => h.ext k
    · exact fun _ _ _ h k => h.ext k
    · exact fun _ _ _ h _ => h
    · exact fun _ _ _ h k => h.ext k
    · exact fun _ _ _ h _ => h
  · refine ⟨?_, ?_, ?_, ?_, ?_, ?_, ?_, ?_, ?_, ?_, ?_, ?_, trivial⟩
    · rintro ρ w1 hw hcst hfn hk
      have c0 := hw.cell (b := w.heap.size) (o := 0) (v := .string s) (by first | (simp [*]; done) | (simp [*, go_sem]; done) | go_cell)
      have c1 := hw.cell (b := w.heap.size) (o := 1) (v := .slice a1' es.length c1) (by first | (simp [*]; done) | (simp [*, go_sem]; done) | go_cell)
      have c2 := hw.cell (b := w.heap.size) (o := 2) (v := .slice a2' cs.length c2) (by first | (simp [*]; done) | (simp [*, go_sem]; done) | go_cell)
      have c3 := hw.cell (b := w.heap.size) (o := 3) (v := .int .i64 k) (by first | (simp [*]; done) | (simp [*, go_sem]; done) | go_cell)
      clear hw
      simp only [known, List.getD_cons_zero, List.getD_cons_succ, Nat.reduceAdd] at hk
      simp only [List.getD_cons_zero, List.getD_cons_succ, Nat.reduceAdd, flowAt]
      go_simp
      exact ⟨Ext.refl _, by first | rfl | trivial⟩
    · rintro ρ w1 hw hcst hfn hk
      simp only [known, List.getD_cons_zero, List.getD_cons_succ, Nat.reduceAdd] at hk
      simp only [List.getD_cons_zero, List.getD_cons_succ, Nat.reduceAdd, flowAt]
      go_simp
      exact flow_tile (HTo.out _ (hE.drew.trans hw))
    · rintro ρ w1 hw hcst hfn hk
      have c0 := hw.cell (b := (w.heap.size + 1)) (o := 0) (v := .int .i64 n) (by first | (simp [*]; done) | (simp [*, go_sem]; done) | go_cell)
      have c1 := hw.cell (b := (w.heap.size + 1)) (o := 1) (v := .string p) (by first | (simp [*]; done) | (simp [*, go_sem]; done) | go_cell)
      have c2 := hw.cell (b := (w.heap.size + 1)) (o := 2) (v := .string q) (by first | (simp [*]; done) | (simp [*, go_sem]; done) | go_cell)
      clear hw
      simp only [known, List.getD_cons_zero, List.getD_cons_succ, Nat.reduceAdd] at hk
      simp only [List.getD_cons_zero, List.getD_cons_succ, Nat.reduceAdd, flowAt]
      go_simp
      exact ⟨Ext.refl _, by first | rfl | trivial⟩
    · rintro ρ w1 hw hcst hfn hk
      simp only [known, List.getD_cons_zero, List.getD_cons_succ, Nat.reduceAdd] at hk
      simp only [List.getD_cons_zero, List.getD_cons_succ, Nat.reduceAdd, flowAt]
      go_simp
      exact flow_ret (toBoard_any _ _ _ _)
    · rintro ρ w1 hw hcst hfn hk
      have c0 := hw.cell (b := (w.heap.size + 2)) (o := 0) (v := .int .i64 r) (by first | (simp [*]; done) | (simp [*, go_sem]; done) | go_cell)
      have c1 := hw.cell (b := (w.heap.size + 2)) (o := 1) (v := .int .i64 c) (by first | (simp [*]; done) | (simp [*, go_sem]; done) | go_cell)
      have c2 := hw.cell (b := (w.heap.size + 2)) (o := 2) (v := .bool d) (by first | (simp [*]; done) | (simp [*, go_sem]; done) | go_cell)
      have c3 := hw.cell (b := (w.heap.size + 2)) (o := 3) (v := .string t) (by first | (simp [*]; done) | (simp [*, go_sem]; done) | go_cell)
      clear hw
      simp only [known, List.getD_cons_zero, List.getD_cons_succ, Nat.reduceAdd] at hk
      simp only [List.getD_cons_zero, List.getD_cons_succ, Nat.reduceAdd, flowAt]
      go_simp
      exact ⟨Ext.refl _, by first | rfl | trivial⟩
    · rintro ρ w1 hw hcst hfn hk
      simp only [known, List.getD_cons_zero, List.getD_cons_succ, Nat.reduceAdd] at hk
      simp only [List.getD_cons_zero, List.getD_cons_succ, Nat.reduceAdd, flowAt]
      go_simp
      exact flow_ret (toPlay_any _ _ _ _ _)
    · rintro ρ w1 hw hcst hfn hk
      simp only [known, List.getD_cons_zero, List.getD_cons_succ, Nat.reduceAdd] at hk
      simp only [List.getD_cons_zero, List.getD_cons_succ, Nat.reduceAdd, flowAt]
      go_simp
      (obtain ⟨a5, b5, c5, d5, e5, r5, r6⟩ := hk.1; rw [e5]; exact flow_ic (HI.out _ _ _ _ _ r5 r6 (HTB.out _ (hE.drew.trans hw))) (by rw [← hz7]; exact ((Ext.refl _).drew.trans hw).size))
    · rintro ρ w1 hw hcst hfn hk
      simp only [known, List.getD_cons_zero, List.getD_cons_succ, Nat.reduceAdd] at hk
      simp only [List.getD_cons_zero, List.getD_cons_succ, Nat.reduceAdd, flowAt]
      go_simp
      exact ⟨Ext.refl _, hk.1⟩
    · rintro ρ w1 hw hcst hfn hk
      simp only [known, List.getD_cons_zero, List.getD_cons_succ, Nat.reduceAdd] at hk
      simp only [List.getD_cons_zero, List.getD_cons_succ, Nat.reduceAdd, flowAt]
      go_simp
      (obtain ⟨a5, c5, e5, r5⟩ := hk.1; rw [e5]; exact ⟨Ext.refl _, a5, c5, rfl, r5⟩)
    · rintro ρ w1 hw hcst hfn hk
      simp only [known, List.getD_cons_zero, List.getD_cons_succ, Nat.reduceAdd] at hk
      simp only [List.getD_cons_zero, List.getD_cons_succ, Nat.reduceAdd, flowAt]
      go_simp
      (obtain ⟨a5, c5, e5, r5⟩ := hk.1; rw [e5]; exact ⟨Ext.refl _, rfl⟩)
    · rintro ρ w1 hw hcst hfn hk
      simp only [known, List.getD_cons_zero, List.getD_cons_succ, Nat.reduceAdd] at hk
      simp only [List.getD_cons_zero, List.getD_cons_succ, Nat.reduceAdd, flowAt]
      go_simp
      exact ⟨Ext.refl _, hk.1⟩
    · rintro ρ w1 hw hcst hfn hk
      clear hw
      simp only [known, List.getD_cons_zero, List.getD_cons_succ, Nat.reduceAdd] at hk
      simp only [List.getD_cons_zero, List.getD_cons_succ, Nat.reduceAdd, flowAt]
      go_simp
      exact ⟨Ext.refl _, by first | rfl | trivial⟩
  intro vs w1 hw hf
  simp only [flowFacts, Nat.reduceAdd] at hf
  obtain ⟨e0, e1, e2, e3, e4, e5, e6, e7, e8, e9, e10, e11, -⟩ := hf
  simp only [List.take_succ_cons, List.take_zero, List.drop_succ_cons, List.drop_zero, putAll, Act.put, Nat.reduceAdd, List.setIfInBounds_toArray, List.set_cons_zero, List.set_cons_succ, e0, e1, e2, e3, e4, e5, e6, e7, e8, e9, e11]
  clear e0 e1 e2 e3 e4 e5 e6 e7 e8 e9 e11
  obtain ⟨xI7, y7, e7v, hI7⟩ := e10
  rw [e7v]
  have I7 := hid hI7
  clear hI7 e7v
  have hx := (Ext.refl _).drew.trans hw
  replace hE := hE.drew.trans hw
  replace I2 := hid (I2.out.ext hx)
  replace I4 := hid (I4.out.ext hx)
  clear hx hw a0 a1 a2 a3 b0 b1 b2 d0 d1 d2 d3
  go_wp2_with fail
  refine (eqInt64S_self xI7 xI2 y7 y2 V _ I7.out.rd I2.out.rd hVL).mono ?_
  rintro e w12 ⟨rfl, hD⟩
  replace hx := hD.ext
  replace hE := hE.trans hx
  replace I4 := hid (I4.out.ext hx)
  clear hx hD
  go_wp2_with fail
  refine (heldInt64S_any xI4 y4 V.length 1 _ I4.out.rd hVL (by omega) (by omega)).mono ?_
  rintro e w13 ⟨rfl, rfl⟩
  go_wp2_with fail
  go_returns
  exact ⟨rfl, hE⟩

set_option maxRecDepth 100000 in
theorem lifted_FnExactLetterScores (os : Os) (started : os.Started) (H : Type) (enc : TypeId × Value → H) :
    ReturnsInHanded {} Tryz.checked os 3 .any (fun w args => (Rows.fnExactLetterScoresSpec.pre enc Tryz.prog Tryz.f3 [] false w args ∧ laidMetH Tryz.prog Rows.fnExactLetterScoresRow.laid w) ∧ sizedMet enc Tryz.prog Tryz.f3 (OpenSpec.ofChange Rows.fnExactLetterScoresSpec) false w args)
      (Rows.fnExactLetterScoresSpec.post enc Tryz.prog Tryz.f3 false true false false) := by
  refine returnsInHanded_of_change_and (C := Tryz.checked) (X := fun w _ => laidMetH Tryz.prog Rows.fnExactLetterScoresRow.laid w) (fun _ _ _ hh h => h.of_heap hh) ownRow started (by kernel_rfl) Tryz.func3
    (ChangeSpec.witness_shaped (enc := enc) (C := Tryz.checked) (os := os) (X := fun w _ => laidMetH Tryz.prog Rows.fnExactLetterScoresRow.laid w) false (World.laidAll Tryz.prog os Rows.fnExactLetterScoresRow.laid) #[.agg #[.string ⟨#[]⟩, .slice none 0 0, .slice none 0 0, .int .i64 0], .agg #[.int .i64 0, .string ⟨#[]⟩, .string ⟨#[]⟩], .agg #[.int .i64 0, .int .i64 0, .bool false, .string ⟨#[]⟩]] 8 (World.laidAll_os _ _ _)
      (World.shaped_of_ZipB (by kernel_rfl) (by kernel_rfl)) (by kernel_rfl) (by kernel_rfl) (by kernel_rfl)
      (by rw [MakeChecks.laidMetH_plain _ _ _ (by kernel_rfl)]; exact laidMet_laidAll _ (by kernel_rfl) (by kernel_rfl))) ?_
  intro W base args ds gs before hval0 hW _ _ hL _
  have hval : ∀ (j : Nat) t v, Tryz.f3.params[j]? = some t → args[j]? = some v → Value.okWide Tryz.prog W .any base t v := hval0
  have hW' := hW
  obtain ⟨p, q, hA0, hV, rfl, hfz, hnd⟩ := hW
  have hA : DataW.TrodAll enc Tryz.prog W 0 (fun _ => true) true Tryz.f3.params.toList args.toList ds p := hA0
  rw [Tryz.params3] at hA hval
  obtain ⟨v0, vs0, d0, ds0, p0, q0, hargs, rfl, rfl, h0, r0⟩ := trodAll_cons hA
  obtain ⟨v1, vs1, d1, ds1, p1, q1, rfl, rfl, rfl, h1, r1⟩ := trodAll_cons r0
  obtain ⟨v2, vs2, d2, ds2, p2, q2, rfl, rfl, rfl, h2, r2⟩ := trodAll_cons r1
  obtain ⟨rfl, rfl, rfl⟩ := trodAll_nil r2
  obtain rfl : args = #[v0, v1, v2] := by cases args; simp_all
  obtain ⟨rfl, rfl⟩ := trodVars_none hV
  have k0 := h0
  have lt0 : ∀ x ∈ p0, x.block < W.heap.size := by obtain ⟨m, hm⟩ := k0; exact DataW.trod_lt m _ _ _ hm
  have k1 := h1
  have lt1 : ∀ x ∈ p1, x.block < W.heap.size := by obtain ⟨m, hm⟩ := k1; exact DataW.trod_lt m _ _ _ hm
  have k2 := h2
  have lt2 : ∀ x ∈ p2, x.block < W.heap.size := by obtain ⟨m, hm⟩ := k2; exact DataW.trod_lt m _ _ _ hm
  obtain ⟨c0_0, c0_1, c0_2, c0_3, y0_0, y0_1, y0_2, y0_3, m0, rfl, rfl, rfl, hy0_0, hy0_1, hy0_2, hy0_3⟩ := Go.Joins.open_agg4 Tryz.underlying24 (by kernel_rfl) (by kernel_rfl) (hval 0 24 v0 rfl rfl) h0
  obtain ⟨a0_0, e_a0_0, _, w_a0_0⟩ := DataW.trod_string Tryz.underlying9 hy0_0
  simp only [List.cons.injEq, and_true] at e_a0_0
  subst e_a0_0
  obtain ⟨a0_1_a, a0_1_c, a0_1_l, rfl, r_a0_1, n_a0_1⟩ := leaf_ints Tryz.underlying22 Tryz.underlying2 (by kernel_rfl) hy0_1
  obtain ⟨a0_2_a, a0_2_c, a0_2_l, rfl, r_a0_2, n_a0_2⟩ := leaf_ints Tryz.underlying22 Tryz.underlying2 (by kernel_rfl) hy0_2
  obtain ⟨a0_3, e_a0_3, _, w_a0_3⟩ := DataW.trod_int Tryz.underlying2 hy0_3
  simp only [List.cons.injEq, and_true] at e_a0_3
  subst e_a0_3
  obtain ⟨c1_0, c1_1, c1_2, y1_0, y1_1, y1_2, m1, rfl, rfl, rfl, hy1_0, hy1_1, hy1_2⟩ := Go.Joins.open_agg3 Tryz.underlying26 (by kernel_rfl) (by kernel_rfl) (hval 1 26 v1 rfl rfl) h1
  obtain ⟨a1_0, e_a1_0, _, w_a1_0⟩ := DataW.trod_int Tryz.underlying2 hy1_0
  simp only [List.cons.injEq, and_true] at e_a1_0
  subst e_a1_0
  obtain ⟨a1_1, e_a1_1, _, w_a1_1⟩ := DataW.trod_string Tryz.underlying9 hy1_1
  simp only [List.cons.injEq, and_true] at e_a1_1
  subst e_a1_1
  obtain ⟨a1_2, e_a1_2, _, w_a1_2⟩ := DataW.trod_string Tryz.underlying9 hy1_2
  simp only [List.cons.injEq, and_true] at e_a1_2
  subst e_a1_2
  obtain ⟨c2_0, c2_1, c2_2, c2_3, y2_0, y2_1, y2_2, y2_3, m2, rfl, rfl, rfl, hy2_0, hy2_1, hy2_2, hy2_3⟩ := Go.Joins.open_agg4 Tryz.underlying28 (by kernel_rfl) (by kernel_rfl) (hval 2 28 v2 rfl rfl) h2
  obtain ⟨a2_0, e_a2_0, _, w_a2_0⟩ := DataW.trod_int Tryz.underlying2 hy2_0
  simp only [List.cons.injEq, and_true] at e_a2_0
  subst e_a2_0
  obtain ⟨a2_1, e_a2_1, _, w_a2_1⟩ := DataW.trod_int Tryz.underlying2 hy2_1
  simp only [List.cons.injEq, and_true] at e_a2_1
  subst e_a2_1
  obtain ⟨a2_2, e_a2_2, _⟩ := DataW.trod_bool Tryz.underlying4 hy2_2
  simp only [List.cons.injEq, and_true] at e_a2_2
  subst e_a2_2
  obtain ⟨a2_3, e_a2_3, _, w_a2_3⟩ := DataW.trod_string Tryz.underlying9 hy2_3
  simp only [List.cons.injEq, and_true] at e_a2_3
  subst e_a2_3
  clear hA0 hval0
  rw [MakeChecks.laidMetH_plain _ _ _ (by kernel_rfl)] at hL
  refine (walk_FnExactLetterScores a0_0 a0_1_a a0_1_c a0_1_l a0_2_a a0_2_c a0_2_l a0_3 a1_0 a1_1 a1_2 a2_0 a2_1 a2_2 a2_3 W w_a0_0 r_a0_1 n_a0_1 r_a0_2 n_a0_2 w_a0_3 w_a1_0 w_a1_1 w_a1_2 w_a2_0 w_a2_1 w_a2_3 (tabs_of_laid hL)).mono fun e W' ⟨he, bel⟩ => ?_
  subst he
  exact ⟨_, rfl, _, _, _, [], _, [], hW', trodAll_mk1 (shut_bool Tryz.underlying4 _), (trodAll_cons_mk (Below.trod laidRow (by kernel_rfl) (of_decide_eq_true (by kernel_rfl)) k0 bel lt0) (trodAll_cons_mk (Below.trod laidRow (by kernel_rfl) (of_decide_eq_true (by kernel_rfl)) k1 bel lt1) (trodAll_cons_mk (Below.trod laidRow (by kernel_rfl) (of_decide_eq_true (by kernel_rfl)) k2 bel lt2) trodAll_mk0))), rfl, bel.frame _, fun h => by cases h⟩

theorem over_FnExactLetterScores : Rows.fnExactLetterScoresRow.holds Tryz.pinned (OpenSpec.ofChange Rows.fnExactLetterScoresSpec) :=
  OpenClaim.holds_of_wide 3 Tryz.f3 rfl rfl rfl rfl rfl rfl rfl ⟨rfl, rfl, rfl, rfl, rfl⟩ rfl rfl rfl rfl rfl (by kernel_rfl) Tryz.func3 (by kernel_rfl)
    (of_decide_eq_true (by kernel_rfl)) (by unfold Func.isWrapper; first | (rw [if_pos (by decide +kernel)]; kernel_rfl) | (rw [if_neg (by decide +kernel)]; exact ⟨rfl, rfl⟩))
    (fun os started H enc _ => lifted_FnExactLetterScores os started H enc)

theorem said_FnExactLetterScores : Rows.FnExactLetterScoresCardSaid :=
  Claim7.holds_tied_plain_at .later [] [.data, .pinned, .pinned] true (true, "281bf8d7a134e860d52f7b32da6b30332fc28dfbddb938bd71b0170a845d1a45") false over_FnExactLetterScores (fun _ h => by cases h) (by kernel_rfl) (fun _ h => by cases h) fnExactLetterScores_row_tie rfl ⟨rfl, rfl⟩ (by kernel_rfl) rfl
    (fun f fn hf hfn => by
      obtain rfl : f = 3 := Option.some.inj ((show Tryz.prog.funcNamed "loop.example/g00911/laws.FnExactLetterScores" = some 3 by kernel_rfl).symm.trans hf) |>.symm
      obtain rfl : fn = Tryz.f3 := (Option.some.inj (Tryz.func3.symm.trans hfn)).symm
      exact ⟨by kernel_rfl, fun j t ht => by
        rw [Tryz.params3] at ht
        have hm : t ∈ [24, 26, 28] := by simpa using Array.mem_of_getElem? ht
        have hall : ([24, 26, 28].all fun u => !Tryz.prog.wantsStandIn u) = true := by kernel_rfl
        exact (show Tryz.prog.wantsStandIn t = false by simpa using List.all_eq_true.1 hall t hm)⟩)
    (by kernel_rfl)
end Go.Proofs.YtcgedkpbobgkhaaGreatDoor
