/- What FnSetCells draws. Conditions: at most 2^20 bytes to draw from. -/
import Derived.Test.YtcjadgefomlifaaCh11o
namespace Go.Proofs.Ytcjadgefomlifaa
set_option linter.unusedVariables false
set_option linter.unusedSimpArgs false
open Go Go.RowKit
def DrP (v : Value) : Prop := ∃ r c : Int, -2000 ≤ r ∧ r ≤ 2000 ∧ -2000 ≤ c ∧ c ≤ 2000 ∧ v = .tuple #[.int .i64 r, .int .i64 c]
theorem pk_le {n x : Int} (h0 : 0 ≤ x) (h : x < n ∨ x = 0) (hn : n ≤ 1000) : 0 ≤ x ∧ x ≤ 1000 := by omega
set_option maxHeartbeats 2000000 in
theorem l11Place_any (g k b : Nat) (n : Int) (w : World) (h : Src w g k) (hk : k ≤ 1099511610000) (hb : w.cell? ⟨b, 0, none⟩ = some (.int .i64 n)) (hbg : b ≠ g) (hn0 : -1000 ≤ n) (hn1 : n ≤ 1000) :
    Calls Try.prog 36 #[.pointer (some ⟨g, 0, none⟩), .pointer (some ⟨b, 0, none⟩)] w (Drew g k 10 (fun v _ => DrP v) w) := by
  have HS := hid h
  clear h
  go_enter Try.func36, Try.ntmps36
  go_wp2_with fail
  refine (pick_any g k n _ HS.out (by omega)).mono ?_
  rintro e w1 ⟨v, rfl, ⟨r, hr0, hr1, rfl⟩, hE1, hS1⟩
  replace hb := hE1.cell hb hbg
  obtain ⟨hr2, hr3⟩ := pk_le hr0 hr1 hn1
  have HX1 := hid hE1
  have HS1 := hid hS1
  clear hE1 hS1 hr1
  go_wp2_with fail
  refine (pick_any g (k + 2) n _ HS1.out (by omega)).mono ?_
  rintro e w2 ⟨v, rfl, ⟨c, hc0, hc1, rfl⟩, hE1, hS1⟩
  replace hb := hE1.cell hb hbg
  obtain ⟨hc2, hc3⟩ := pk_le hc0 hc1 hn1
  have HX2 := hid (HX1.out.trans hE1)
  have HS2 := hid hS1
  clear hE1 hS1 hc1
  go_wp2_with fail
  refine (pick_any g (k + 4) 20 _ HS2.out (by omega)).mono ?_
  rintro e w3 ⟨v, rfl, ⟨z, hz0, hz1, rfl⟩, hE1, hS1⟩
  replace hb := hE1.cell hb hbg
  have HX3 := hid (HX2.out.trans hE1)
  have HS3 := hid hS1
  clear hE1 hS1 hz1
  by_cases e0 : z = 0
  · subst e0
    go_wp2_with fail
    refine (among_new g (k + 6) 2 [-1, n] w3 HS3.out (by omega) rfl (by omega) (by omega)).mono ?_
    rintro e w4 ⟨v, rfl, ⟨y, hy, rfl⟩, hE3, hS3⟩
    have hy2 : -1000 ≤ y ∧ y ≤ 1000 := by simp at hy; omega
    have HX4 := hid ((HX3.out.ext ((Ext.refl w3).alloc (.cells (([-1, n] : List Int).map (Value.int .i64)).toArray 2))).trans hE3)
    have HS4 := hid hS3
    clear hE3 hS3 hy hb
    obtain ⟨hy0, hy1⟩ := hy2
    go_wp2_with fail
    go_ret2
    exact ⟨_, rfl, ⟨y, c, by omega, by omega, by omega, by omega, rfl⟩, HX4.out, HS4.out.up (by omega)⟩
  · have m0 : (z == 0) = false := by simpa using e0
    by_cases e1 : z = 1
    · subst e1
      go_wp2_with fail
      refine (among_new g (k + 6) 2 [-1, n] w3 HS3.out (by omega) rfl (by omega) (by omega)).mono ?_
      rintro e w4 ⟨v, rfl, ⟨y, hy, rfl⟩, hE3, hS3⟩
      have hy2 : -1000 ≤ y ∧ y ≤ 1000 := by simp at hy; omega
      have HX4 := hid ((HX3.out.ext ((Ext.refl w3).alloc (.cells (([-1, n] : List Int).map (Value.int .i64)).toArray 2))).trans hE3)
      have HS4 := hid hS3
      clear hE3 hS3 hy hb
      obtain ⟨hy0, hy1⟩ := hy2
      go_wp2_with fail
      go_ret2
      exact ⟨_, rfl, ⟨r, y, by omega, by omega, by omega, by omega, rfl⟩, HX4.out, HS4.out.up (by omega)⟩
    · have m1 : (z == 1) = false := by simpa using e1
      clear e0 e1
      go_wp2_with fail
      go_ret2
      exact ⟨_, rfl, ⟨r, c, by omega, by omega, by omega, by omega, rfl⟩, HX3.out, HS3.out.up (by omega)⟩
theorem inv_text1 {g k K h n c : Nat} {l : List ByteArray} {w : World} (hs : Src w g k) (hk : k ≤ 1099511627000) (hK : k + 2 ≤ K) (hgh : g < h) (hn : n = l.length) (h0 : 0 < n) (h1 : n ≤ 100) (hall : l.all (fun s => decide (1 ≤ s.size)) = true) (hrd : Rd w (some ⟨h, 0, none⟩) (l.map Value.string)) :
    invUpon Try.prog (fun v w' => (Exc g w w' ∧ Src w' g K) ∧ ∃ y : ByteArray, 1 ≤ y.size ∧ v = .string y) (.ok (.enter 37 #[.pointer (some ⟨g, 0, none⟩), .slice (some ⟨h, 0, none⟩) n c]) w) := by
  subst hn
  exact inv_drew (text_any g k (some ⟨h, 0, none⟩) c l w hs hk hrd h0 (by omega) (fun y e => by cases e; exact Nat.ne_of_gt hgh)) hK (fun v w' ⟨y, hy, e⟩ => ⟨y, by have := List.all_eq_true.1 hall y hy; simpa using this, e⟩)
theorem invUpon_mono {P : Program} {K K' : Value → World → Prop} {f : FuncId} {args : Array Value} {w : World} (h : invUpon P K (.ok (.enter f args) w)) (hk : ∀ v w', K v w' → K' v w') : invUpon P K' (.ok (.enter f args) w) :=
  inv_calls (h.mono fun _ _ ⟨v, he, hq⟩ => ⟨v, he, hk _ _ hq⟩)
/-- A board, a square and a cell that are drawn. -/
def DrSet (w : World) (e : Ending) (w' : World) : Prop := ∃ (n : Int) (p c : ByteArray) (r k z : Int), -1000 ≤ n ∧ n ≤ 1000 ∧ p.size ≤ 1000 ∧ c.size ≤ 1000 ∧ -2000 ≤ r ∧ r ≤ 2000 ∧ -2000 ≤ k ∧ k ≤ 2000 ∧ 0 ≤ z ∧ z < 256 ∧ e = .returned (.tuple #[boardV n p c, .int .i64 r, .int .i64 k, .int .u8 z]) ∧ Ext w w'
theorem Ext.toExt' {g : Nat} {w0 w w' : World} (h0 : Ext w0 w) (h : Exc g w w') (hg : w0.heap.size ≤ g) : Ext w0 w' :=
  (Exb.of_exc (lo := g) (hi := g + 1) h (Nat.le_refl _) (by omega)).ext0 h0 hg
def SetF (g : Nat) (n r k : Int) (P C : ByteArray) (i : Nat) (v : Value) (w : World) : Prop :=
  match i with
  | 0 => v = .agg #[.int .i64 n, .string P, .string C]
  | 1 => v = .int .i64 r
  | 2 => v = .int .i64 k
  | 3 => v = .pointer (some ⟨g, 0, none⟩)
  | 4 => ∃ h, v = .slice (some ⟨h, 0, none⟩) 7 7 ∧ g < h ∧ Rd w (some ⟨h, 0, none⟩) (([⟨#[97]⟩, ⟨#[122]⟩, ⟨#[65]⟩, ⟨#[46]⟩, ⟨#[63]⟩, ⟨#[49]⟩, ⟨#[113]⟩] : List ByteArray).map Value.string)
  | 5 => ∃ y : ByteArray, 1 ≤ y.size ∧ v = .string y
  | 6 => ∃ z : Int, 0 ≤ z ∧ z < 256 ∧ v = .int .u8 z
  | 8 => v = .int .i64 r
  | 9 => v = .int .i64 k
  | _ => True
def SetW (g B R K : Nat) (n : Int) (P C : ByteArray) (w0 : World) (d : Nat → Bool) (w : World) : Prop :=
  Ext w0 w ∧ Bk w B n P C ∧ (d 5 = false → Src w g K) ∧ (if d 7 = true then Bk w R n P C else Bk w R 0 ⟨#[]⟩ ⟨#[]⟩)
theorem SetF.ext {g : Nat} {n r k : Int} {P C : ByteArray} {i : Nat} {v : Value} {w w' : World} (h : SetF g n r k P C i v w) (e : Ext w w') : SetF g n r k P C i v w' := by
  unfold SetF at *
  split at h <;> try exact h
  obtain ⟨h, h1, h2, h3⟩ := h
  exact ⟨h, h1, h2, h3.ext e⟩
theorem SetF.exc {g b : Nat} {n r k : Int} {P C : ByteArray} {i : Nat} {v : Value} {w w' : World} (h : SetF g n r k P C i v w) (e : Exc b w w') (hb : b ≤ g) : SetF g n r k P C i v w' := by
  unfold SetF at *
  split at h <;> try exact h
  obtain ⟨h, h1, h2, h3⟩ := h
  exact ⟨h, h1, h2, e.rd h3 (by omega)⟩
theorem SetW.ext {g B R K : Nat} {n : Int} {P C : ByteArray} {w0 w w' : World} {d : Nat → Bool} (h : SetW g B R K n P C w0 d w) (e : Ext w w') (i : Nat) (h5 : i ≠ 5) (h7 : i ≠ 7) : SetW g B R K n P C w0 (updB d i) w' := by
  obtain ⟨a, b, c, q⟩ := h
  refine ⟨a.trans e, b.ext e, fun x => (c (by simpa [updB, Ne.symm h5] using x)).ext e, ?_⟩
  have e7 : updB d i 7 = d 7 := by simp [updB, Ne.symm h7]
  rw [e7]
  by_cases h : d 7 = true
  · rw [if_pos h] at q ⊢
    exact q.ext e
  · rw [if_neg h] at q ⊢
    exact q.ext e
theorem SetW.draw {g B R K : Nat} {n : Int} {P C : ByteArray} {w0 w w' : World} {d : Nat → Bool} (h : SetW g B R K n P C w0 d w) (e : Exc g w w') (hB : B ≠ g) (hR : R ≠ g) (h0 : w0.heap.size ≤ g) : SetW g B R K n P C w0 (updB d 5) w' := by
  obtain ⟨a, b, c, q⟩ := h
  refine ⟨a.toExt' e h0, b.exc e hB, fun x => by simp [updB] at x, ?_⟩
  have e7 : updB d 5 7 = d 7 := by simp [updB]
  rw [e7]
  by_cases h : d 7 = true
  · rw [if_pos h] at q ⊢
    exact q.exc e hR
  · rw [if_neg h] at q ⊢
    exact q.exc e hR
theorem SetW.put {g B R K : Nat} {n : Int} {P C : ByteArray} {w0 w : World} {d : Nat → Bool} (h : SetW g B R K n P C w0 d w) (h5 : d 5 = true) (hB : B ≠ R) (h0 : w0.heap.size ≤ R) : SetW g B R K n P C w0 (updB d 7) (put3 w R n P C) := by
  obtain ⟨a, b, c, q⟩ := h
  refine ⟨a.toExt' (exc_put3 w R n P C) h0, b.exc (exc_put3 w R n P C) hB, fun x => by simp [updB, h5] at x, ?_⟩
  rw [if_pos (by simp [updB])]
  split at q
  · exact q.put n P C
  · exact q.put n P C
set_option maxHeartbeats 2000000 in
theorem DrawSetCell_any (a : Option Addr) (c : Nat) (l : List UInt8) (w : World) (hr : Rd w a (bytesV l)) (hl : l.length ≤ 1048576) :
    Calls Try.prog 17 #[.slice a l.length c] w (DrSet w) := by
  have HR := hid hr
  have hx0 : Ext w (w.alloc (.cells #[.int .i64 0, .string ⟨#[]⟩, .string ⟨#[]⟩] 30)) := (Ext.refl w).alloc _
  clear hr
  go_enter Try.func17, Try.ntmps17
  go_wp2_with fail
  refine (l00From_any a c l _ (HR.out.ext hx0) hl).mono ?_
  rintro e w1 ⟨rfl, hx1, hs1⟩
  have BR1 := hid ((Bk.new w 30).ext hx1)
  have HX1 := hid (hx0.trans hx1)
  obtain ⟨g, hg⟩ : ∃ g, (w.alloc (.cells #[.int .i64 0, .string ⟨#[]⟩, .string ⟨#[]⟩] 30)).heap.size = g := ⟨_, rfl⟩
  have hgw : g = w.heap.size + 1 := by rw [← hg]; simp
  rw [hg] at hs1
  rw [hg]
  have hlt := hs1.lt
  have HS1 := hid hs1
  have hgR : w.heap.size < g := by omega
  clear hs1 hx0 hx1 hg hgw
  go_wp2_with fail
  refine (l11Bent_any g 0 _ HS1.out (by omega)).mono ?_
  rintro e w2 ⟨v, rfl, ⟨n, P, C, n0, n1, hp, hc, rfl⟩, hE1, hS1⟩
  have BR2 := hid (BR1.out.exc hE1 (by omega))
  have HX2 := hid (HX1.out.toExt' hE1 (by omega))
  have hl2 := Nat.lt_of_lt_of_le hlt hE1.size
  obtain ⟨B, hB⟩ : ∃ B, w2.heap.size = B := ⟨_, rfl⟩
  have hBg : g < B := by omega
  have hx2 : Ext w2 (w2.alloc (.cells #[.int .i64 n, .string P, .string C] 30)) := (Ext.refl w2).alloc _
  have BR3 := hid (BR2.out.ext hx2)
  have HX3 := hid (HX2.out.trans hx2)
  have HS3 := hid (hS1.ext hx2)
  have BB3 : Hid (Bk (w2.alloc (.cells #[.int .i64 n, .string P, .string C] 30)) B n P C) := hid (by subst hB; exact ⟨⟨by simp, by simp, by simp⟩, fun j => by simp⟩)
  clear hE1 hS1 hx2 hlt hl2 BR1 HX1 HS1 BR2 HX2
  go_wp2_with fail
  refine (l11Place_any g 50 B n _ HS3.out (by omega) BB3.out.1.1 (by omega) n0 n1).mono ?_
  rintro e w3 ⟨v, rfl, ⟨r, k, r0, r1, k0, k1, rfl⟩, hE1, hS1⟩
  have BR4 := hid (BR3.out.exc hE1 (by omega))
  have BB4 := hid (BB3.out.exc hE1 (by omega))
  have HX4 := hid (HX3.out.toExt' hE1 (by omega))
  have HS4 := hid hS1
  obtain ⟨⟨b0, b1, b2⟩, bf⟩ := BB4.out
  clear hE1 hS1 bf BR3 BB3 HX3 HS3 hB
  go_wp2_with fail
  have HB4 := hid (show B ≠ w.heap.size by omega)
  have hRg : w.heap.size < g := hgR
  refine wp_region_inv_at 10 (FInvW (SetF g n r k P C) (SetW g B w.heap.size 60 n P C w)) [[(7, none)], [(8, none)], [(9, none)], [(6, none)], [], [(22, some 3), (23, some 4)], [(24, some 5)], [(2, none), (19, some 0)], [(20, some 1)], [(21, some 2)]] (by kernel_rfl) (by kernel_rfl) ?_ ?_ ?_
  · intro vs
    exact ⟨fun i h => (by cases h), (HX4.out).drew, BB4.out.ext ((Ext.refl _).drew), fun _ => (HS4.out.up (by omega)).ext ((Ext.refl _).drew), by rw [if_neg (by simp)]; exact BR4.out.ext ((Ext.refl _).drew)⟩
  · refine ⟨?_, ?_, ?_, ?_, ?_, ?_, ?_, ?_, ?_, ?_, trivial⟩
    · rintro d vs ρ w1 hI hd ha hc hf ht
      simp only [told, List.getD_cons_zero, List.getD_cons_succ, Nat.reduceAdd] at ht
      obtain ⟨⟨b0, b1, b2⟩, -⟩ := hI.2.2.1
      simp only [Nat.reduceAdd]
      unfold invAt execOp
      go_simp
      exact hI.next (fun _ _ h => h) rfl (hI.2.ext (Ext.refl _) _ (by decide) (by decide))
    · rintro d vs ρ w1 hI hd ha hc hf ht
      simp only [told, List.getD_cons_zero, List.getD_cons_succ, Nat.reduceAdd] at ht
      simp only [Nat.reduceAdd]
      unfold invAt execOp
      go_simp
      exact hI.next (fun _ _ h => h) rfl (hI.2.ext (Ext.refl _) _ (by decide) (by decide))
    · rintro d vs ρ w1 hI hd ha hc hf ht
      simp only [told, List.getD_cons_zero, List.getD_cons_succ, Nat.reduceAdd] at ht
      simp only [Nat.reduceAdd]
      unfold invAt execOp
      go_simp
      exact hI.next (fun _ _ h => h) rfl (hI.2.ext (Ext.refl _) _ (by decide) (by decide))
    · rintro d vs ρ w1 hI hd ha hc hf ht
      simp only [told, List.getD_cons_zero, List.getD_cons_succ, Nat.reduceAdd] at ht
      simp only [Nat.reduceAdd]
      unfold invAt execOp
      go_simp
      exact hI.next (fun _ _ h => h) rfl (hI.2.ext (Ext.refl _) _ (by decide) (by decide))
    · rintro d vs ρ w1 hI hd ha hc hf ht
      simp only [told, List.getD_cons_zero, List.getD_cons_succ, Nat.reduceAdd] at ht
      have hgl := hI.2.1.size
      simp only [Nat.reduceAdd]
      unfold invAt execOp
      go_simp
      exact hI.next (fun _ _ h => h.ext ((Ext.refl _).alloc _)) ⟨_, rfl, Nat.lt_trans hBg hI.2.2.1.lt, rd_new rfl [.string ⟨#[97]⟩, .string ⟨#[122]⟩, .string ⟨#[65]⟩, .string ⟨#[46]⟩, .string ⟨#[63]⟩, .string ⟨#[49]⟩, .string ⟨#[113]⟩] _⟩ (hI.2.ext ((Ext.refl _).alloc _) _ (by decide) (by decide))
    · rintro d vs ρ w1 hI hd ha hc hf ht
      simp only [told, List.getD_cons_zero, List.getD_cons_succ, Nat.reduceAdd] at ht
      have h3 := hI.1 3 (ha 3 (by decide))
      have h4 := hI.1 4 (ha 4 (by decide))
      obtain ⟨h, e4, hgh, hrd⟩ := h4
      have HRD := hid hrd
      have HSS := hid (hI.2.2.2.1 hd)
      have HI := hid hI
      rw [e4] at ht
      simp only [SetF] at h3
      rw [h3] at ht
      clear hrd hI
      simp only [Nat.reduceAdd]
      unfold invAt execOp
      go_simp
      refine invUpon_mono (inv_text1 (K := 100) HSS.out (by omega) (by omega) hgh rfl (by omega) (by omega) (by decide) HRD.out) (fun v w' ⟨⟨x1, x2⟩, hy⟩ => HI.out.next (fun _ _ h => h.exc x1 (Nat.le_refl _)) hy (HI.out.2.draw x1 (by omega) (by omega) (by omega)))
    · rintro d vs ρ w1 hI hd ha hc hf ht
      simp only [told, List.getD_cons_zero, List.getD_cons_succ, Nat.reduceAdd] at ht
      have h5 := hI.1 5 (ha 5 (by decide))
      obtain ⟨y, hy, e5⟩ := h5
      have hy1 : 0 < y.size := by omega
      rw [e5] at ht
      simp only [Nat.reduceAdd]
      unfold invAt execOp
      go_simp
      have hyb := (y[0]'hy1).toNat_lt
      exact hI.next (fun _ _ h => h) ⟨((y[0]'hy1).toNat : Int), by omega, by omega, rfl⟩ (hI.2.ext (Ext.refl _) _ (by decide) (by decide))
    · rintro d vs ρ w1 hI hd ha hc hf ht
      simp only [told, List.getD_cons_zero, List.getD_cons_succ, Nat.reduceAdd] at ht
      have h0 := hI.1 0 (ha 0 (by decide))
      have h5 := hI.1 5 (ha 5 (by decide))
      have hq := hI.2.2.2.2
      simp only [SetF] at h0
      rw [h0] at ht
      have hd5 := ha 5 (by decide)
      rw [if_neg (by rw [hd]; simp)] at hq
      obtain ⟨⟨b0, b1, b2⟩, bf⟩ := hq
      have f0 := bf 0
      have f1 := bf 1
      have f2 := bf 2
      have HI := hid hI
      clear bf hI
      simp only [Nat.reduceAdd]
      unfold invAt execOp
      go_simp
      exact HI.out.next (fun _ _ h => h.exc (exc_put3 w1 w.heap.size n P C) (by omega)) trivial (HI.out.2.put hd5 (by omega) (Nat.le_refl _))
    · rintro d vs ρ w1 hI hd ha hc hf ht
      simp only [told, List.getD_cons_zero, List.getD_cons_succ, Nat.reduceAdd] at ht
      have h1 := hI.1 1 (ha 1 (by decide))
      simp only [SetF] at h1
      rw [h1] at ht
      simp only [Nat.reduceAdd]
      unfold invAt execOp
      go_simp
      exact hI.next (fun _ _ h => h) rfl (hI.2.ext (Ext.refl _) _ (by decide) (by decide))
    · rintro d vs ρ w1 hI hd ha hc hf ht
      simp only [told, List.getD_cons_zero, List.getD_cons_succ, Nat.reduceAdd] at ht
      have h2 := hI.1 2 (ha 2 (by decide))
      simp only [SetF] at h2
      rw [h2] at ht
      simp only [Nat.reduceAdd]
      unfold invAt execOp
      go_simp
      exact hI.next (fun _ _ h => h) rfl (hI.2.ext (Ext.refl _) _ (by decide) (by decide))
  · intro d vs w5 hI hdd
    have e1 := hI.1 1 (hdd 1 (by decide))
    have e2 := hI.1 2 (hdd 2 (by decide))
    have e0 := hI.1 0 (hdd 0 (by decide))
    have e3 := hI.1 3 (hdd 3 (by decide))
    obtain ⟨z, z0, z1, e6⟩ := hI.1 6 (hdd 6 (by decide))
    have e8 := hI.1 8 (hdd 8 (by decide))
    have e9 := hI.1 9 (hdd 9 (by decide))
    have hq := hI.2.2.2.2
    rw [if_pos (hdd 7 (by decide))] at hq
    have HX5 := hid hI.2.1
    obtain ⟨⟨r2, r3, r4⟩, rf⟩ := hq
    have rf0 := rf 0
    have rf1 := rf 1
    have rf2 := rf 2
    simp only [SetF] at e0 e1 e2 e3 e8 e9
    clear rf hI hdd
    simp only [List.take_succ_cons, List.take_zero, List.drop_succ_cons, List.drop_zero, putAll, Act.put, Nat.reduceAdd, List.setIfInBounds_toArray, List.set_cons_zero, List.set_cons_succ, e0, e1, e2, e3, e6, e8, e9]
    clear e0 e1 e2 e3 e6 e8 e9
    go_wp2_with fail
    refine bodyPost_ret (v := .tuple #[boardV n P C, .int .i64 r, .int .i64 k, .int .u8 z]) (by simp [results, Try.results17, go_sem, r2, r3, r4, rf0, rf1, rf2, boardV]) rfl ⟨n, P, C, r, k, z, n0, n1, hp, hc, r0, r1, k0, k1, z0, z1, rfl, HX5.out⟩
end Go.Proofs.Ytcjadgefomlifaa
