/- Automata in memory: copied and compared by the laws' own functions. Conditions: at most 2^20 elements. -/
import Derived.Test.YtlnccdbmchjhlaaDg
namespace Go.Proofs.Ytlnccdbmchjhlaa
set_option linter.unusedVariables false
set_option linter.unusedSimpArgs false
open Go Go.RowKit
/-- The lists behind the nodes lie in blocks from B on, and may be written. -/
def NdOwn (w : World) (B : Nat) (L : List NdP) : Prop := ∀ p ∈ L, OwnR w B p.a (intsV p.nd.nx)
theorem NdOwn.ext {w w' : World} {B : Nat} {L : List NdP} (h : NdOwn w B L) (k : Ext w w') : NdOwn w' B L := fun p hp => (h p hp).ext k
theorem NdOwn.off {w : World} {B : Nat} {L : List NdP} (h : NdOwn w B L) {b o : Nat} (hb : b < B) (u : Value) : NdOwn (w.setCell ⟨b, o, none⟩ u) B L := fun p hp => (h p hp).off hb u
theorem NdOwn.rd {w : World} {B : Nat} {L : List NdP} (h : NdOwn w B L) : NdRd w L := fun p hp => (h p hp).rd
theorem NdOwn.snoc {w : World} {B : Nat} {L : List NdP} (h : NdOwn w B L) {p : NdP} (hp : OwnR w B p.a (intsV p.nd.nx)) : NdOwn w B (L ++ [p]) := fun x hx => by
  rcases List.mem_append.1 hx with hx | hx
  · exact h x hx
  · rw [List.mem_singleton] at hx; subst hx; exact hp
/-- A node comes back, whose list is the call's own. -/
def RetNd (d : Nd) (w : World) (e : Ending) (w' : World) : Prop := ∃ a c, e = .returned (ndV d.fin d.lt a d.nx.length c) ∧ OwnR w' w.heap.size a (intsV d.nx) ∧ Ext w w'
set_option maxHeartbeats 1000000 in
theorem toNode_any (f : Bool) (s : ByteArray) (a : Option Addr) (c : Nat) (nx : List Int) (w : World) (h : Rd w a (intsV nx)) (hl : nx.length ≤ 1048576) :
    Calls Try.prog 36 #[ndV f s a nx.length c] w (RetNd ⟨f, s, nx⟩ w) := by
  have HR : Hid (∀ w', Ext w w' → Rd w' a (intsV nx)) := hid (fun w' k => h.ext k)
  clear h
  go_enter Try.func36, Try.ntmps36
  go_wp2_with fail
  obtain ⟨W, hW⟩ : ∃ W, (((w.alloc (.cells #[.bool f, .string s, .slice a nx.length c] 60)).alloc (.cells #[.bool false, .string ⟨#[]⟩, .slice none 0 0] 51)).alloc (.cells #[.bool f, .string s, .slice none 0 0] 51)) = W := ⟨_, rfl⟩
  have HW := hid hW
  rw [hW]
  clear hW
  have hE0 : Ext w W := by rw [← HW.out]; exact (((Ext.refl w).alloc _).alloc _).alloc _
  have hsW : W.heap.size = w.heap.size + 3 := by rw [← HW.out]; simp
  have r0 : W.cell? ⟨w.heap.size + 1, 0, none⟩ = some (.bool false) := by rw [← HW.out]; go_cell
  have r1 : W.cell? ⟨w.heap.size + 1, 1, none⟩ = some (.string ⟨#[]⟩) := by rw [← HW.out]; go_cell
  have r2 : W.cell? ⟨w.heap.size + 1, 2, none⟩ = some (.slice none 0 0) := by rw [← HW.out]; go_cell
  have t0 : W.cell? ⟨w.heap.size + 2, 0, none⟩ = some (.bool f) := by rw [← HW.out]; go_cell
  have t1 : W.cell? ⟨w.heap.size + 2, 1, none⟩ = some (.string s) := by rw [← HW.out]; go_cell
  have t2 : W.cell? ⟨w.heap.size + 2, 2, none⟩ = some (.slice none 0 0) := by rw [← HW.out]; go_cell
  have rf : ∀ j, W.frozen? ⟨w.heap.size + 1, j, none⟩ = false := fun j => by rw [← HW.out]; go_cell
  have rg : ∀ j, W.frozen? ⟨w.heap.size + 2, j, none⟩ = false := fun j => by rw [← HW.out]; go_cell
  clear HW
  refine (toInt64S_any a c nx _ (HR.out _ hE0) hl).mono ?_
  rintro e w1 ⟨a', c', rfl, hown, hx⟩
  rw [intsV_length]
  have hE1 := hE0.trans hx
  replace r0 := hx.cell r0
  replace r1 := hx.cell r1
  replace r2 := hx.cell r2
  replace t0 := hx.cell t0
  replace t1 := hx.cell t1
  replace t2 := hx.cell t2
  replace rf : ∀ j, w1.frozen? ⟨w.heap.size + 1, j, none⟩ = false := fun j => by rw [hx.cells.2 _ _ (by omega)]; exact rf j
  replace rg : ∀ j, w1.frozen? ⟨w.heap.size + 2, j, none⟩ = false := fun j => by rw [hx.cells.2 _ _ (by omega)]; exact rg j
  have hs := hx.size
  have HO := hid (hown.mono (B' := w.heap.size + 3) (by omega))
  clear hown hx hE0
  go_wp2_with fail
  have hE4 : Ext w ((((w1.setCell ⟨w.heap.size + 1 + 1, 2, none⟩ (.slice a' nx.length c')).setCell ⟨w.heap.size + 1, 0, none⟩ (.bool f)).setCell ⟨w.heap.size + 1, 1, none⟩ (.string s)).setCell ⟨w.heap.size + 1, 2, none⟩ (.slice a' nx.length c')) :=
    (((hE1.setCell (by show w.heap.size ≤ w.heap.size + 1 + 1; omega) _).setCell (by show w.heap.size ≤ w.heap.size + 1; omega) _).setCell (by show w.heap.size ≤ w.heap.size + 1; omega) _).setCell (by show w.heap.size ≤ w.heap.size + 1; omega) _
  have fin := ((((HO.out.off (b := w.heap.size + 1 + 1) (o := 2) (by omega) (.slice a' nx.length c')).off (b := w.heap.size + 1) (o := 0) (by omega) (.bool f)).off (b := w.heap.size + 1) (o := 1) (by omega) (.string s)).off (b := w.heap.size + 1) (o := 2) (by omega) (.slice a' nx.length c')).mono (B' := w.heap.size) (by omega)
  exact bodyPost_ret (v := ndV f s a' nx.length c') (by simp [results, Try.results36, go_sem, r0, r1, r2, rf, rg]) rfl ⟨a', c', rfl, fin, hE4⟩
theorem El_nd : El Try.prog 33 51 (.agg #[.bool false, .string ⟨#[]⟩, .slice none 0 0]) 3 48 := by
  obtain ⟨i, h1, h2, h3, h4⟩ := info_parts (show (Try.prog.info? 51).map (fun i => (i.zero, i.size, i.bytes)) = some (some (.agg #[.bool false, .string ⟨#[]⟩, .slice none 0 0]), 3, 48) by kernel_rfl)
  exact ⟨Try.underlying33, ⟨i, h1, h2, h3, h4⟩, rfl, by decide⟩
theorem Wr.ofk {w : World} {B : Nat} {e : TypeId} {size g n c : Nat} {xs : List Value} (h : w.ownsRow B e size (.slice (some ⟨g, 0, none⟩) n c) n xs) : Wr w g xs := by
  have hrd := (Own.rd (.inr h : Own w B e size (some ⟨g, 0, none⟩) n c xs))
  rcases h.2 with ⟨h2, _⟩ | ⟨g', cap, cur, hv, hg, hh, r⟩
  · cases h2
  · simp only [Value.slice.injEq, Option.some.injEq, Addr.mk.injEq, and_true, true_and] at hv
    obtain ⟨rfl, _⟩ := hv
    refine ⟨(Array.getElem?_eq_some_iff.1 hh).1, fun j u hj => ?_, fun j _ => by simp [World.frozen?, hh]⟩
    obtain ⟨b, o, hb, hc⟩ := hrd j u hj
    simp only [Option.some.injEq, Addr.mk.injEq, and_true] at hb
    obtain ⟨rfl, rfl⟩ := hb
    simpa using hc
section
variable {P : Program}
/-- 'make([]T, n)', elements of any size. -/
theorem wpList_makek {ops : Array Oper} {rest : List Oper} {o : Oper} {ac : Act} {Q : Exit → Act → World → Prop} (hgd : o.guard = none) (x y : Operand) (t : TypeId) (ho : o.op = Op.makeSlice t x y) {w : World} {e : TypeId} {z : Value} {size bytes : Nat} (E : El P t e z size bytes)
    {kl kc : IntKind} {L C : Int} (n : Nat) (hl : ac.eval x = .int kl L) (hc : ac.eval y = .int kc C) (hL : L = (n : Int)) (hC : C = (n : Int)) (b2 : bytes * n ≤ 281474976710656) (b3 : n ≤ maxLen)
    (h : ∀ w' xs, xs.length = n * size → Wr w' w.heap.size xs → Ext w w' → wpList P ops Q rest (ac.put o.dst (.slice (some ⟨w.heap.size, 0, none⟩) n n)) w') : wpList P ops Q (o :: rest) ac w := by
  obtain ⟨i, hi, hzz, hs, hb⟩ := E.info
  refine wpList_make_full w hgd x y t ho w.heap.size e i z size E.under hi hzz hs kl kc L C n hl hc hL hC (by rw [hb]; exact b2) b3 (Nat.le_refl _) (fun w' hw hg => ?_)
  have hln : (madeCells z.cells (n * size)).toList.length = n * size := by rw [Array.length_toList]; exact size_madeCells _ _
  exact h w' _ hln (Wr.ofk hw) ((Below.refl _ _).grown hg (Nat.le_refl _) (fun k hk => by simp at hk))
end
/-- Three cells are set. -/
theorem set3_take (xs ys : List Value) (k : Nat) (u v x : Value) (hk : k * 3 + 2 < xs.length) (h : xs.take (k * 3) = ys) : (((xs.set (k * 3) u).set (k * 3 + 1) v).set (k * 3 + 2) x).take ((k + 1) * 3) = ys ++ [u, v, x] := by
  subst h
  apply List.ext_getElem
  · simp only [List.length_take, List.length_set, List.length_append, List.length_cons, List.length_nil]; omega
  · intro j h1 h2
    simp only [List.length_take, List.length_set, List.length_append, List.length_cons, List.length_nil] at h1 h2
    rw [List.getElem_take, List.getElem_set, List.getElem_set, List.getElem_set, List.getElem_append]
    simp only [List.length_take]
    by_cases c0 : j < k * 3
    · rw [if_neg (by omega), if_neg (by omega), if_neg (by omega), dif_pos (by omega), List.getElem_take]
    · rw [dif_neg (by omega)]
      rcases (show j = k * 3 ∨ j = k * 3 + 1 ∨ j = k * 3 + 2 by omega) with rfl | rfl | rfl
      · rw [if_neg (by omega), if_neg (by omega), if_pos rfl]
        simp [Nat.min_eq_left (show k * 3 ≤ xs.length by omega)]
      · rw [if_neg (by omega), if_pos rfl]
        simp [Nat.min_eq_left (show k * 3 ≤ xs.length by omega)]
      · rw [if_pos rfl]
        simp [Nat.min_eq_left (show k * 3 ≤ xs.length by omega)]
/-- Nodes come back, whose memory is the call's own. -/
def RetNs (l : List Nd) (w : World) (e : Ending) (w' : World) : Prop := ∃ a c L, ndsOf L = l ∧ e = .returned (.slice a l.length c) ∧ OwnR w' w.heap.size a (ndsV L) ∧ NdOwn w' w.heap.size L ∧ Ext w w'
theorem ndsOf_take (L : List NdP) (k : Nat) (h : k < L.length) : (ndsOf L).take (k + 1) = (ndsOf L).take k ++ [(ndAt L k).nd] := by
  rw [List.take_succ_eq_append_getElem (by rw [ndsOf_length]; exact h), ndsOf_at L k h]
set_option maxHeartbeats 1600000 in
theorem toNodeS_any (a : Option Addr) (c : Nat) (l : List NdP) (w : World) (h : DgRd w a l) (hl : l.length ≤ 1048576) (hs : ∀ p ∈ l, p.nd.nx.length ≤ 1048576) :
    Calls Try.prog 23 #[.slice a l.length c] w (RetNs (ndsOf l) w) := by
  have HR := hid h.1
  have HP : Hid (∀ k, k < l.length → ∀ w', Ext w w' → Calls Try.prog 36 #[ndV (ndAt l k).nd.fin (ndAt l k).nd.lt (ndAt l k).a (ndAt l k).nd.nx.length (ndAt l k).c] w' (RetNd (ndAt l k).nd w')) := hid (fun k hk w' hx => toNode_any _ _ _ _ _ w' ((h.2 _ (ndAt_mem l k hk)).ext hx) (hs _ (ndAt_mem l k hk)))
  have HT := hid (ndsOf_take l)
  have HS3 := hid set3_take
  clear h hs
  go_enter Try.func23, Try.ntmps23
  go_wp2_with (refine wpList_makek rfl _ _ 33 rfl El_nd l.length rfl rfl rfl rfl (by omega) (by unfold maxLen; omega) ?_; intro wm xs0 hxl hwr hx)
  go_loopw [4] (fun i wr => ∃ (k : Nat) (xs : List Value) (L : List NdP), k ≤ l.length ∧ i = .int .i64 k ∧ Hid (xs.length = l.length * 3) ∧ Wr wr w.heap.size xs ∧ Hid (xs.take (k * 3) = ndsV L) ∧ Hid (ndsOf L = (ndsOf l).take k) ∧ Hid (NdOwn wr (w.heap.size + 1) L) ∧ Ext w wr ∧ w.heap.size + 1 ≤ wr.heap.size) (fun i _ => l.length - (intOf i).toNat)
  case atStart => exact ⟨0, xs0, [], by omega, rfl, hid hxl, hwr, hid (by simp [ndsV]), hid (by simp [ndsOf]), hid (fun p hp => by simp at hp), hx, by have := hwr.1; omega⟩
  case round =>
    clear hwr hx
    obtain ⟨k, xs, L, hk, rfl, HX, hwr, HTK, HL, HO, hx, hsz⟩ := hrel
    by_cases hlt : k < l.length
    · obtain ⟨b, o, rfl, hc⟩ := (HR.out.ext hx).nds (by omega)
      obtain ⟨c0, c1, c2⟩ := hc k hlt
      have HPk := hid (fun w' hx => HP.out k hlt w' hx)
      have HTk := hid (HT.out k hlt)
      clear hc
      obtain ⟨p, hp⟩ : ∃ p, ndAt l k = p := ⟨_, rfl⟩
      rw [hp] at c0 c1 c2 HPk HTk
      obtain ⟨⟨f, s, nx⟩, pa, pc⟩ := p
      simp only at c0 c1 c2 HPk
      obtain ⟨q, hq⟩ : ∃ q, o + k * 3 = q := ⟨_, rfl⟩
      rw [hq] at c0 c1 c2
      have HB := hid hwr
      clear hp hwr
      go_wp2_with fail
      refine (HPk.out _ hx).mono ?_
      rintro e w2 ⟨a2, c2', rfl, hown, hx2⟩
      have hxl := HX.out
      have hwr2 := HB.out.ext hx2
      obtain ⟨f0, g0⟩ := hwr2.fit (k * 3) (by omega)
      obtain ⟨f1, g1⟩ := hwr2.fit (k * 3 + 1) (by omega)
      obtain ⟨f2, g2⟩ := hwr2.fit (k * 3 + 2) (by omega)
      have HW := hid (((hwr2.set (k * 3) (by omega) (.bool f)).set (k * 3 + 1) (by simp; omega) (.string s)).set (k * 3 + 2) (by simp; omega) (.slice a2 nx.length c2'))
      have HOW := hid (hown.mono (B' := w.heap.size + 1) (by omega))
      have hs2 := hx2.size
      have HE := hid (hx.trans hx2)
      have HNO := hid (HO.out.ext hx2)
      have HSET := hid (HS3.out xs (ndsV L) k (.bool f) (.string s) (.slice a2 nx.length c2') (by omega) HTK.out)
      simp only at HOW
      obtain ⟨u0, hu0⟩ : ∃ u, xs[k * 3] = u := ⟨_, rfl⟩
      obtain ⟨u1, hu1⟩ : ∃ u, xs[k * 3 + 1] = u := ⟨_, rfl⟩
      obtain ⟨u2, hu2⟩ : ∃ u, xs[k * 3 + 2] = u := ⟨_, rfl⟩
      rw [hu0] at f0
      rw [hu1] at f1
      rw [hu2] at f2
      clear hu0 hu1 hu2 hxl hown hwr2 hx2 HB
      go_wp2_with fail
      go_roundw
      case rel =>
        refine ⟨k + 1, _, L ++ [⟨⟨f, s, nx⟩, a2, c2'⟩], by omega, by go_num, ?_, HW.out, ?_, ?_, ?_, ((HE.out.setCell (by show w.heap.size ≤ w.heap.size; omega) _).setCell (by show w.heap.size ≤ w.heap.size; omega) _).setCell (by show w.heap.size ≤ w.heap.size; omega) _, by simp [World.setCell]; omega⟩
        · exact hid (by simp only [List.length_set]; exact HX.out)
        · exact hid (by rw [HSET.out, ndsV_append]; simp [ndsV])
        · exact hid (by rw [HTk.out, ← HL.out]; simp [ndsOf])
        · exact hid ((((HNO.out.snoc (p := ⟨⟨f, s, nx⟩, a2, c2'⟩) HOW.out).off (by omega) _).off (by omega) _).off (by omega) _)
      case measure => simp [intOf]; omega
    · obtain rfl : k = l.length := by omega
      have HB := hid hwr
      clear hwr
      go_wp2_with fail
      go_returns
      refine ⟨some ⟨w.heap.size, 0, none⟩, l.length, L, by rw [HL.out, ← ndsOf_length, List.take_length], by rw [ndsOf_length]; rfl, ?_, fun p hp => (HO.out p hp).mono (by omega), hx⟩
      rw [← HTK.out, ← HX.out, List.take_length]
      exact .inr ⟨_, rfl, Nat.le_refl _, HB.out⟩
end Go.Proofs.Ytlnccdbmchjhlaa
