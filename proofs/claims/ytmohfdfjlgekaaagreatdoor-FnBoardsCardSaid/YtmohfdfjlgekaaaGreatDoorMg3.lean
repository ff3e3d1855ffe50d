/- Several texts in one: Ch11g, Ch11h, Ch11i. Conditions: see each. -/
import Derived.Test.YtmohfdfjlgekaaaGreatDoorMg2
section
namespace Go.Proofs.YtmohfdfjlgekaaaGreatDoor
set_option linter.unusedVariables false
set_option linter.unusedSimpArgs false
open Go Go.RowKit

theorem toNat_sq (n : Int) (s : ByteArray) (h1 : 5 ≤ n) (h : (s.size : Int) = n * n) : s.size = n.toNat * n.toNat := by
  obtain ⟨m, rfl⟩ := nat_of h1
  simp only [Int.toNat_natCast]
  rw [← Int.natCast_mul] at h
  omega

set_option maxHeartbeats 400000 in
theorem TransposeBoard_any (n : Int) (p c : ByteArray) (w : World) (hp : p.size ≤ 1048576) (hc : c.size ≤ 1048576) :
    Calls Tryz.prog 16 #[boardV n p c] w (Ret (transV n p c) w) := by
  have HR : Hid (transV n p c = if okB n p c then .tuple #[boardV n (turnS n.toNat p) (turnS n.toNat c), .int .i64 0] else .tuple #[boardV 0 noS noS, .int .i64 1]) := hid rfl
  go_enter Tryz.func16, Tryz.ntmps16
  go_wp2_with fail
  refine (ValidBoard_any _ _ _ _ hp hc).mono ?_
  rintro e w1 ⟨rfl, hx⟩
  have c0 := hx.cell (b := w.heap.size) (o := 0) (v := .int .i64 n) (by simp)
  have c1 := hx.cell (b := w.heap.size) (o := 1) (v := .string p) (by simp)
  have c2 := hx.cell (b := w.heap.size) (o := 2) (v := .string c) (by simp)
  have r0 := hx.cell (b := w.heap.size + 1) (o := 0) (v := .int .i64 0) (by simp)
  have r1 := hx.cell (b := w.heap.size + 1) (o := 1) (v := .string ⟨#[]⟩) (by simp)
  have r2 := hx.cell (b := w.heap.size + 1) (o := 2) (v := .string ⟨#[]⟩) (by simp)
  have rf : ∀ j, w1.frozen? ⟨w.heap.size + 1, j, none⟩ = false := fun j => by rw [hx.cells.2 _ _ (by simp)]; simp
  have hE : Ext w w1 := (((Ext.refl w).alloc _).alloc _).trans hx
  have hs := hx.size
  simp only [World.size_alloc] at hs
  cases hok : okB n p c
  · go_wp2_with fail
    refine bodyPost_ret (v := .tuple #[boardV 0 noS noS, .int .i64 1]) (by simp [results, Tryz.results16, go_sem, r0, r1, r2, rf, noS]) rfl ⟨by rw [HR.out, hok]; rfl, ((hE.setCell (by simp) _).setCell (by simp) _).setCell (by simp) _⟩
  · obtain ⟨h1, h2, h3, h4⟩ := okB_true hok
    have t1 := toNat_sq n p h1 h3
    have t2 := toNat_sq n c h1 h4
    have en : ((n.toNat : Nat) : Int) = n := by omega
    have HT := hid (fun w => transpose_any n.toNat p c w t1 t2 (by omega) (by omega))
    rw [en] at HT
    clear h3 h4 t1 t2 en
    go_wp2_with fail
    refine (HT.out _).mono ?_
    rintro e w2 ⟨rfl, hy⟩
    have s0 := hy.cell r0
    have s1 := hy.cell r1
    have s2 := hy.cell r2
    have sf : ∀ j, w2.frozen? ⟨w.heap.size + 1, j, none⟩ = false := fun j => by rw [hy.cells.2 _ _ (by omega)]; exact rf j
    go_wp2_with fail
    refine bodyPost_ret (v := .tuple #[boardV n (turnS n.toNat p) (turnS n.toNat c), .int .i64 0]) (by simp [results, Tryz.results16, go_sem, s0, s1, s2, sf]) rfl ⟨by rw [HR.out, hok]; rfl, (((hE.trans hy).setCell (by simp) _).setCell (by simp) _).setCell (by simp) _⟩
set_option maxHeartbeats 400000 in
theorem sTransposeBoard_any (n : Int) (p c : ByteArray) (w : World) (hp : p.size ≤ 1048576) (hc : c.size ≤ 1048576) :
    Calls Tryz.prog 19 #[boardV n p c] w (Ret (transV n p c) w) := by
  have HR : Hid (transV n p c = if okB n p c then .tuple #[boardV n (turnS n.toNat p) (turnS n.toNat c), .int .i64 0] else .tuple #[boardV 0 noS noS, .int .i64 1]) := hid rfl
  have B : BdAt ((w.alloc (.cells #[.int .i64 n, .string p, .string c] 25)).alloc (.cells #[.int .i64 0, .string ⟨#[]⟩, .string ⟨#[]⟩] 25)) w.heap.size 0 n p c := ⟨by simp, by simp, by simp⟩
  have HB := hid B
  clear B
  go_enter Tryz.func19, Tryz.ntmps19
  go_wp2_with fail
  refine (l11Ok_any _ _ n p c _ HB.out hp hc).mono ?_
  rintro e w1 ⟨rfl, hx⟩
  have hx := hx.ext
  have r0 := hx.cell (b := w.heap.size + 1) (o := 0) (v := .int .i64 0) (by simp)
  have r1 := hx.cell (b := w.heap.size + 1) (o := 1) (v := .string ⟨#[]⟩) (by simp)
  have r2 := hx.cell (b := w.heap.size + 1) (o := 2) (v := .string ⟨#[]⟩) (by simp)
  have rf : ∀ j, w1.frozen? ⟨w.heap.size + 1, j, none⟩ = false := fun j => by rw [hx.cells.2 _ _ (by simp)]; simp
  have hE : Ext w w1 := (((Ext.refl w).alloc _).alloc _).trans hx
  have hs := hx.size
  simp only [World.size_alloc] at hs
  cases hok : okB n p c
  · go_wp2_with fail
    refine bodyPost_ret (v := .tuple #[boardV 0 noS noS, .int .i64 1]) (by simp [results, Tryz.results19, go_sem, r0, r1, r2, rf, noS]) rfl ⟨by rw [HR.out, hok]; rfl, ((hE.setCell (by simp) _).setCell (by simp) _).setCell (by simp) _⟩
  · obtain ⟨h1, h2, h3, h4⟩ := okB_true hok
    have t1 := toNat_sq n p h1 h3
    have t2 := toNat_sq n c h1 h4
    have en : ((n.toNat : Nat) : Int) = n := by omega
    have HT := hid (fun w h => l11Transpose_any w.heap.size 0 n.toNat p c w h t1 t2 (by omega) (by omega))
    clear HT
    have HT : Hid (∀ w' b o, BdAt w' b o n p c → Calls Tryz.prog 34 #[.pointer (some ⟨b, o, none⟩)] w' (Ret (boardV n (turnS n.toNat p) (turnS n.toNat c)) w')) := hid (fun w' b o h => by
      have := l11Transpose_any b o n.toNat p c w' (by rw [en]; exact h) t1 t2 (by omega) (by omega)
      rw [en] at this
      exact this)
    clear h3 h4 t1 t2 en
    go_wp2_with fail
    refine (HT.out _ _ _ (HB.out.ext hx)).mono ?_
    rintro e w2 ⟨rfl, hy⟩
    have s0 := hy.cell r0
    have s1 := hy.cell r1
    have s2 := hy.cell r2
    have sf : ∀ j, w2.frozen? ⟨w.heap.size + 1, j, none⟩ = false := fun j => by rw [hy.cells.2 _ _ (by omega)]; exact rf j
    go_wp2_with fail
    refine bodyPost_ret (v := .tuple #[boardV n (turnS n.toNat p) (turnS n.toNat c), .int .i64 0]) (by simp [results, Tryz.results19, go_sem, s0, s1, s2, sf]) rfl ⟨by rw [HR.out, hok]; rfl, (((hE.trans hy).setCell (by simp) _).setCell (by simp) _).setCell (by simp) _⟩
end Go.Proofs.YtmohfdfjlgekaaaGreatDoor
end
section
namespace Go.Proofs.YtmohfdfjlgekaaaGreatDoor
set_option linter.unusedVariables false
set_option linter.unusedSimpArgs false
open Go Go.RowKit

end Go.Proofs.YtmohfdfjlgekaaaGreatDoor
end
section
namespace Go.Proofs.YtmohfdfjlgekaaaGreatDoor
set_option linter.unusedVariables false
set_option linter.unusedSimpArgs false
open Go Go.RowKit

def lineV (n : Int) (p c : ByteArray) (k : Int) (d : Bool) : Value :=
  if okB n p c then if inB k 0 (n - 1) then .tuple #[.string (rowAt n.toNat (if d then turnS n.toNat c else c) k.toNat), .int .i64 0] else .tuple #[.string noS, .int .i64 2] else .tuple #[.string noS, .int .i64 1]
theorem turnS_size (n : Nat) (s : ByteArray) : (turnS n s).size = n * n := by
  show (turnL n s n).toArray.size = _
  simp [turnL_length]
theorem Own.get {w : World} {B : Nat} {e : TypeId} {size : Nat} {a : Option Addr} {n c : Nat} {xs : List Value} (h : Own w B e size a n c xs) (hn : 0 < n) : ∃ g, a = some ⟨g, 0, none⟩ ∧ ∀ j u, xs[j]? = some u → w.cell? ⟨g, j, none⟩ = some u := by
  obtain ⟨g, rfl, _, _, _, h1⟩ := h.form hn
  refine ⟨g, rfl, fun j u hj => ?_⟩
  obtain ⟨b, o, hb, hc⟩ := h.rd j u hj
  simp only [Option.some.injEq, Addr.mk.injEq, and_true] at hb
  obtain ⟨rfl, rfl⟩ := hb
  simpa using hc

set_option maxHeartbeats 1000000 in
theorem LineOf_any (n : Int) (p c : ByteArray) (k : Int) (d : Bool) (w : World) (hp : p.size ≤ 1048576) (hc : c.size ≤ 1048576) :
    Calls Tryz.prog 26 #[boardV n p c, .int .i64 k, .bool d] w (Ret (lineV n p c k d) w) := by
  have HR : Hid (lineV n p c k d = if okB n p c then if inB k 0 (n - 1) then .tuple #[.string (rowAt n.toNat (if d then turnS n.toNat c else c) k.toNat), .int .i64 0] else .tuple #[.string noS, .int .i64 2] else .tuple #[.string noS, .int .i64 1]) := hid rfl
  go_enter Tryz.func26, Tryz.ntmps26
  go_wp2_with fail
  refine (ValidBoard_any _ _ _ _ hp hc).mono ?_
  rintro e w1 ⟨rfl, hx⟩
  have hE : Ext w w1 := ((Ext.refl w).alloc _).trans hx
  have b0 := hx.cell (b := w.heap.size) (o := 0) (v := .int .i64 n) (by simp)
  have b1 := hx.cell (b := w.heap.size) (o := 1) (v := .string p) (by simp)
  have b2 := hx.cell (b := w.heap.size) (o := 2) (v := .string c) (by simp)
  have bf : ∀ j, w1.frozen? ⟨w.heap.size, j, none⟩ = false := fun j => by rw [hx.cells.2 _ _ (by simp)]; simp
  have hs := hx.size
  simp only [World.size_alloc] at hs
  clear hx
  cases hok : okB n p c
  · go_wp2_with fail
    go_returns
    exact ⟨by rw [HR.out, hok]; rfl, hE⟩
  · obtain ⟨h1, h2, h3, h4⟩ := okB_true hok
    have t1 := toNat_sq n p h1 h3
    have t2 := toNat_sq n c h1 h4
    obtain ⟨m, rfl⟩ := nat_of h1
    simp only [Int.toNat_natCast] at t1 t2 HR
    have HT := hid (fun w => transpose_any m p c w t1 t2 (by omega) (by omega))
    have HW := hid (fun s (hs : s.size = m * m) p c w => rows_any m p c s w hs (by omega) (by omega))
    have H2 := hid t2
    clear h3 h4 t1 t2
    go_wp2_with fail
    refine (within_any _ _ _ _).mono ?_
    rintro e w2 ⟨rfl, hz⟩
    subst hz
    cases hin : inB k 0 ((m : Int) - 1)
    · go_wp2_with fail
      go_returns
      exact ⟨by rw [HR.out, hok, hin]; rfl, hE⟩
    · obtain ⟨i1, i2⟩ := inB_true hin
      obtain ⟨q, rfl⟩ : ∃ q : Nat, k = q := ⟨k.toNat, by omega⟩
      have HQ := hid (And.intro hok hin)
      clear hok hin
      have last : ∀ (s : ByteArray), s.size = m * m → ∀ g : Nat, ∀ wr : World, (∀ j u, (strsV (rowsL m s m))[j]? = some u → wr.cell? ⟨g, j, none⟩ = some u) → wr.cell? ⟨g, q, none⟩ = some (.string (rowAt m s q)) := fun s hs g wr h => h q _ (by simp [strsV, rowsL, List.getElem?_range (show q < m by omega)])
      have hqm : q < m := by omega
      cases d
      · go_wp2_with fail
        refine (HW.out _ H2.out _ _ _).mono ?_
        rintro e w2 ⟨a, cp, rfl, hown, hy⟩
        obtain ⟨g, rfl, hg⟩ := hown.get (by rw [rowsL_length]; omega)
        have l1 := last c H2.out g w2 hg
        have hlen := rowsL_length m c m
        rw [hlen]
        clear hown hg last
        go_wp2_with fail
        go_returns
        exact ⟨by rw [HR.out, HQ.out.1, HQ.out.2]; rfl, hE.trans hy⟩
      · go_wp2_with fail
        refine (HT.out _).mono ?_
        rintro e w2 ⟨rfl, hy⟩
        have xf : ∀ j, w2.frozen? ⟨w.heap.size, j, none⟩ = false := fun j => by rw [hy.cells.2 _ _ (by omega)]; exact bf j
        replace b0 := hy.cell b0
        replace b1 := hy.cell b1
        replace b2 := hy.cell b2
        go_wp2_with fail
        refine (HW.out _ (turnS_size _ _) _ _ _).mono ?_
        rintro e w3 ⟨a, cp, rfl, hown, hz⟩
        obtain ⟨g, rfl, hg⟩ := hown.get (by rw [rowsL_length]; omega)
        have l1 := last _ (turnS_size m c) g w3 hg
        have hlen := rowsL_length m (turnS m c) m
        rw [hlen]
        clear hown hg last
        go_wp2_with fail
        go_returns
        exact ⟨by rw [HR.out, HQ.out.1, HQ.out.2]; rfl, Ext.trans ((((hE.trans hy).setCell (by simp) _).setCell (by simp) _).setCell (by simp) _) hz⟩
end Go.Proofs.YtmohfdfjlgekaaaGreatDoor
end
