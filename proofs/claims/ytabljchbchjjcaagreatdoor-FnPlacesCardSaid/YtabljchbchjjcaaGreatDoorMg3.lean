/- Several texts in one: Dg2, Dg3. Conditions: see each. -/
import Derived.Test.YtabljchbchjjcaaGreatDoorMg2
section
namespace Go.Proofs.YtabljchbchjjcaaGreatDoor
set_option linter.unusedVariables false
set_option linter.unusedSimpArgs false
open Go Go.RowKit
/-- The lists behind the nodes lie in blocks from B on, and may be written. -/
def NdOwn (w : World) (B : Nat) (L : List NdP) : Prop := ∀ p ∈ L, OwnR w B p.a (intsV p.nd.nx)
theorem NdOwn.ext {w w' : World} {B : Nat} {L : List NdP} (h : NdOwn w B L) (k : Ext w w') : NdOwn w' B L := fun p hp => (h p hp).ext k
theorem NdOwn.off {w : World} {B : Nat} {L : List NdP} (h : NdOwn w B L) {b o : Nat} (hb : b < B) (u : Value) : NdOwn (w.setCell ⟨b, o, none⟩ u) B L := fun p hp => (h p hp).off hb u
theorem NdOwn.rd {w : World} {B : Nat} {L : List NdP} (h : NdOwn w B L) : NdRd w L := fun p hp => (h p hp).rd
theorem NdOwn.snoc {w : World} {B : Nat} {L : List NdP} (h : NdOwn w B L) {p : NdP} (hp : OwnR w B p.a (intsV p.nd.nx)) : NdOwn w B (L ++ [p]) := fun x hx => by
  rcases List.mem_append.1 hx with hx | hx
  · exact h x hx
  · rw [List.mem_singleton] at hx; subst hx; exact hp
/-- A node comes back, whose list is the call's own. -/
def RetNd (d : Nd) (w : World) (e : Ending) (w' : World) : Prop := ∃ a c, e = .returned (ndV d.fin d.lt a d.nx.length c) ∧ OwnR w' w.heap.size a (intsV d.nx) ∧ Ext w w'
theorem El_nd : El Tryz.prog 28 92 (.agg #[.bool false, .string ⟨#[]⟩, .slice none 0 0]) 3 48 := by
  obtain ⟨i, h1, h2, h3, h4⟩ := info_parts (show (Tryz.prog.info? 92).map (fun i => (i.zero, i.size, i.bytes)) = some (some (.agg #[.bool false, .string ⟨#[]⟩, .slice none 0 0]), 3, 48) by kernel_rfl)
  exact ⟨Tryz.underlying28, ⟨i, h1, h2, h3, h4⟩, rfl, by decide⟩
theorem Wr.ofk {w : World} {B : Nat} {e : TypeId} {size g n c : Nat} {xs : List Value} (h : w.ownsRow B e size (.slice (some ⟨g, 0, none⟩) n c) n xs) : Wr w g xs := by
  have hrd := (Own.rd (.inr h : Own w B e size (some ⟨g, 0, none⟩) n c xs))
  rcases h.2 with ⟨h2, _⟩ | ⟨g', cap, cur, hv, hg, hh, r⟩
  · cases h2
  · simp only [Value.slice.injEq, Option.some.injEq, Addr.mk.injEq, and_true, true_and] at hv
    obtain ⟨rfl, _⟩ := hv
    refine ⟨(Array.getElem?_eq_some_iff.1 hh).1, fun j u hj => ?_, fun j _ => by simp [World.frozen?, hh]⟩
    obtain ⟨b, o, hb, hc⟩ := hrd j u hj
    simp only [Option.some.injEq, Addr.mk.injEq, and_true] at hb
    obtain ⟨rfl, rfl⟩ := hb
    simpa using hc
section
variable {P : Program}
/-- 'make([]T, n)', elements of any size. -/
theorem wpList_makek {ops : Array Oper} {rest : List Oper} {o : Oper} {ac : Act} {Q : Exit → Act → World → Prop} (hgd : o.guard = none) (x y : Operand) (t : TypeId) (ho : o.op = Op.makeSlice t x y) {w : World} {e : TypeId} {z : Value} {size bytes : Nat} (E : El P t e z size bytes)
    {kl kc : IntKind} {L C : Int} (n : Nat) (hl : ac.eval x = .int kl L) (hc : ac.eval y = .int kc C) (hL : L = (n : Int)) (hC : C = (n : Int)) (b2 : bytes * n ≤ 281474976710656) (b3 : n ≤ maxLen)
    (h : ∀ w' xs, xs.length = n * size → Wr w' w.heap.size xs → Ext w w' → wpList P ops Q rest (ac.put o.dst (.slice (some ⟨w.heap.size, 0, none⟩) n n)) w') : wpList P ops Q (o :: rest) ac w := by
  obtain ⟨i, hi, hzz, hs, hb⟩ := E.info
  refine wpList_make_full w hgd x y t ho w.heap.size e i z size E.under hi hzz hs kl kc L C n hl hc hL hC (by rw [hb]; exact b2) b3 (Nat.le_refl _) (fun w' hw hg => ?_)
  have hln : (madeCells z.cells (n * size)).toList.length = n * size := by rw [Array.length_toList]; exact size_madeCells _ _
  exact h w' _ hln (Wr.ofk hw) ((Below.refl _ _).grown hg (Nat.le_refl _) (fun k hk => by simp at hk))
end
/-- Three cells are set. -/
theorem set3_take (xs ys : List Value) (k : Nat) (u v x : Value) (hk : k * 3 + 2 < xs.length) (h : xs.take (k * 3) = ys) : (((xs.set (k * 3) u).set (k * 3 + 1) v).set (k * 3 + 2) x).take ((k + 1) * 3) = ys ++ [u, v, x] := by
  subst h
  apply List.ext_getElem
  · simp only [List.length_take, List.length_set, List.length_append, List.length_cons, List.length_nil]; omega
  · intro j h1 h2
    simp only [List.length_take, List.length_set, List.length_append, List.length_cons, List.length_nil] at h1 h2
    rw [List.getElem_take, List.getElem_set, List.getElem_set, List.getElem_set, List.getElem_append]
    simp only [List.length_take]
    by_cases c0 : j < k * 3
    · rw [if_neg (by omega), if_neg (by omega), if_neg (by omega), dif_pos (by omega), List.getElem_take]
    · rw [dif_neg (by omega)]
      rcases (show j = k * 3 ∨ j = k * 3 + 1 ∨ j = k * 3 + 2 by omega) with rfl | rfl | rfl
      · rw [if_neg (by omega), if_neg (by omega), if_pos rfl]
        simp [Nat.min_eq_left (show k * 3 ≤ xs.length by omega)]
      · rw [if_neg (by omega), if_pos rfl]
        simp [Nat.min_eq_left (show k * 3 ≤ xs.length by omega)]
      · rw [if_pos rfl]
        simp [Nat.min_eq_left (show k * 3 ≤ xs.length by omega)]
/-- Nodes come back, whose memory is the call's own. -/
def RetNs (l : List Nd) (w : World) (e : Ending) (w' : World) : Prop := ∃ a c L, ndsOf L = l ∧ e = .returned (.slice a l.length c) ∧ OwnR w' w.heap.size a (ndsV L) ∧ NdOwn w' w.heap.size L ∧ Ext w w'
theorem ndsOf_take (L : List NdP) (k : Nat) (h : k < L.length) : (ndsOf L).take (k + 1) = (ndsOf L).take k ++ [(ndAt L k).nd] := by
  rw [List.take_succ_eq_append_getElem (by rw [ndsOf_length]; exact h), ndsOf_at L k h]
end Go.Proofs.YtabljchbchjjcaaGreatDoor
end
section
namespace Go.Proofs.YtabljchbchjjcaaGreatDoor
set_option linter.unusedVariables false
set_option linter.unusedSimpArgs false
open Go Go.RowKit
theorem ints_ne {xs ys : List Int} (k : Nat) (h1 : k < xs.length) (h2 : k < ys.length) (h : xs[k] ≠ ys[k]) : decide (xs = ys) = false := by
  rw [decide_eq_false_iff_not]
  intro e
  subst e
  exact h rfl
theorem ints_eq {xs ys : List Int} (hl : xs.length = ys.length) (h : ∀ k (h1 : k < xs.length) (h2 : k < ys.length), xs[k] = ys[k]) : decide (xs = ys) = true := by
  rw [decide_eq_true_eq]
  exact List.ext_getElem hl h
set_option maxHeartbeats 1000000 in
theorem l00Same_any (a b : Option Addr) (c d : Nat) (xs ys : List Int) (w : World) (h : Rd w a (intsV xs)) (h' : Rd w b (intsV ys)) (hl : xs.length ≤ 1048576) (hl2 : ys.length ≤ 1048576) :
    Calls Tryz.prog 90 #[.slice a xs.length c, .slice b ys.length d] w fun e w' => e = .returned (.bool (decide (xs = ys))) ∧ Dr w w' := by
  have HR := hid h
  have HS := hid h'
  have HNE := hid (fun k h1 h2 h => ints_ne (xs := xs) (ys := ys) k h1 h2 h)
  have HEQ := hid (fun h1 h2 => ints_eq (xs := xs) (ys := ys) h1 h2)
  have HLN : Hid (xs.length ≠ ys.length → decide (xs = ys) = false) := hid (fun h => by rw [decide_eq_false_iff_not]; intro e; exact h (by rw [e]))
  clear h h'
  by_cases hne : xs.length = ys.length
  · have hb : ((xs.length : Int) != (ys.length : Int)) = false := by simp; omega
    have HLE := hid hne
    clear hne
    go_enter Tryz.func90, Tryz.ntmps90
    go_wp2_with fail
    go_loopw [5] (fun i wr => ∃ k : Nat, k ≤ xs.length ∧ i = .int .i64 k ∧ Hid (∀ j (h1 : j < xs.length) (h2 : j < ys.length), j < k → xs[j] = ys[j]) ∧ Dr w wr) (fun i _ => xs.length - (intOf i).toNat)
    case atStart => exact ⟨0, by omega, rfl, hid (fun j _ _ h => by omega), Dr.refl _⟩
    case round =>
      obtain ⟨k, hk, rfl, HA, hD⟩ := hrel
      by_cases hlt : k < xs.length
      · have hlt2 : k < ys.length := by have := HLE.out; omega
        obtain ⟨b1, o1, rfl, hc⟩ := (HR.out.ext hD.ext).int (by omega)
        obtain ⟨b2, o2, rfl, hd⟩ := (HS.out.ext hD.ext).int (by omega)
        have hck := hc k hlt
        have hdk := hd k hlt2
        have HNk := hid (HNE.out k hlt hlt2)
        have HAk : Hid (∀ u v, xs[k] = u → ys[k] = v → u = v → ∀ j (h1 : j < xs.length) (h2 : j < ys.length), j < k + 1 → xs[j] = ys[j]) := hid (fun u v e1 e2 e3 j h1 h2 h => by
          by_cases e : j = k
          · subst e; rw [e1, e2, e3]
          · exact HA.out j h1 h2 (by omega))
        clear hc hd
        obtain ⟨u, hu⟩ : ∃ u, xs[k] = u := ⟨_, rfl⟩
        obtain ⟨v, hv⟩ : ∃ v, ys[k] = v := ⟨_, rfl⟩
        rw [hu] at hck HNk
        rw [hv] at hdk HNk
        have HK := hid (HAk.out u v hu hv)
        clear hu hv HAk
        by_cases huv : u = v
        · have hbe : (u != v) = false := by simp [huv]
          have HK2 := hid (HK.out huv)
          subst huv
          go_wp2_with fail
          go_quiet (fail)
          go_wp2_with fail
          go_roundw
          case rel => exact ⟨k + 1, by omega, by go_num, HK2, hD.trans ⟨_, rfl⟩⟩
          case measure => simp [intOf]; omega
        · have hbe : (u != v) = true := by simp [huv]
          have HN := hid (HNk.out huv)
          clear huv
          go_wp2_with fail
          go_quiet (fail)
          go_wp2_with fail
          go_returns
          exact ⟨by rw [HN.out]; rfl, hD.trans ⟨_, rfl⟩⟩
      · have HT := hid (HEQ.out HLE.out (fun j h1 h2 => HA.out j h1 h2 (by omega)))
        go_wp2_with fail
        go_returns
        exact ⟨by rw [HT.out]; rfl, hD⟩
  · have hb : ((xs.length : Int) != (ys.length : Int)) = true := by simp; omega
    have HN := hid (HLN.out hne)
    clear hne
    go_enter Tryz.func90, Tryz.ntmps90
    go_wp2_with fail
    go_returns
    exact ⟨by rw [HN.out]; rfl, Dr.refl _⟩
end Go.Proofs.YtabljchbchjjcaaGreatDoor
end
