/- Automata compared, by the laws' own functions, by the program and by the reference. Conditions: at most 2^20 elements. -/
import Derived.Test.YtlnccdbmchjhlaaDoorDg2
namespace Go.Proofs.YtlnccdbmchjhlaaDoor
set_option linter.unusedVariables false
set_option linter.unusedSimpArgs false
open Go Go.RowKit
theorem ints_ne {xs ys : List Int} (k : Nat) (h1 : k < xs.length) (h2 : k < ys.length) (h : xs[k] ≠ ys[k]) : decide (xs = ys) = false := by
  rw [decide_eq_false_iff_not]
  intro e
  subst e
  exact h rfl
theorem ints_eq {xs ys : List Int} (hl : xs.length = ys.length) (h : ∀ k (h1 : k < xs.length) (h2 : k < ys.length), xs[k] = ys[k]) : decide (xs = ys) = true := by
  rw [decide_eq_true_eq]
  exact List.ext_getElem hl h
set_option maxHeartbeats 1000000 in
theorem l00Same_any (a b : Option Addr) (c d : Nat) (xs ys : List Int) (w : World) (h : Rd w a (intsV xs)) (h' : Rd w b (intsV ys)) (hl : xs.length ≤ 1048576) (hl2 : ys.length ≤ 1048576) :
    Calls Tryd.prog 74 #[.slice a xs.length c, .slice b ys.length d] w fun e w' => e = .returned (.bool (decide (xs = ys))) ∧ Dr w w' := by
  have HR := hid h
  have HS := hid h'
  have HNE := hid (fun k h1 h2 h => ints_ne (xs := xs) (ys := ys) k h1 h2 h)
  have HEQ := hid (fun h1 h2 => ints_eq (xs := xs) (ys := ys) h1 h2)
  have HLN : Hid (xs.length ≠ ys.length → decide (xs = ys) = false) := hid (fun h => by rw [decide_eq_false_iff_not]; intro e; exact h (by rw [e]))
  clear h h'
  by_cases hne : xs.length = ys.length
  · have hb : ((xs.length : Int) != (ys.length : Int)) = false := by simp; omega
    have HLE := hid hne
    clear hne
    go_enter Tryd.func74, Tryd.ntmps74
    go_wp2_with fail
    go_loopw [5] (fun i wr => ∃ k : Nat, k ≤ xs.length ∧ i = .int .i64 k ∧ Hid (∀ j (h1 : j < xs.length) (h2 : j < ys.length), j < k → xs[j] = ys[j]) ∧ Dr w wr) (fun i _ => xs.length - (intOf i).toNat)
    case atStart => exact ⟨0, by omega, rfl, hid (fun j _ _ h => by omega), Dr.refl _⟩
    case round =>
      obtain ⟨k, hk, rfl, HA, hD⟩ := hrel
      by_cases hlt : k < xs.length
      · have hlt2 : k < ys.length := by have := HLE.out; omega
        obtain ⟨b1, o1, rfl, hc⟩ := (HR.out.ext hD.ext).int (by omega)
        obtain ⟨b2, o2, rfl, hd⟩ := (HS.out.ext hD.ext).int (by omega)
        have hck := hc k hlt
        have hdk := hd k hlt2
        have HNk := hid (HNE.out k hlt hlt2)
        have HAk : Hid (∀ u v, xs[k] = u → ys[k] = v → u = v → ∀ j (h1 : j < xs.length) (h2 : j < ys.length), j < k + 1 → xs[j] = ys[j]) := hid (fun u v e1 e2 e3 j h1 h2 h => by
          by_cases e : j = k
          · subst e; rw [e1, e2, e3]
          · exact HA.out j h1 h2 (by omega))
        clear hc hd
        obtain ⟨u, hu⟩ : ∃ u, xs[k] = u := ⟨_, rfl⟩
        obtain ⟨v, hv⟩ : ∃ v, ys[k] = v := ⟨_, rfl⟩
        rw [hu] at hck HNk
        rw [hv] at hdk HNk
        have HK := hid (HAk.out u v hu hv)
        clear hu hv HAk
        by_cases huv : u = v
        · have hbe : (u != v) = false := by simp [huv]
          have HK2 := hid (HK.out huv)
          subst huv
          go_wp2_with fail
          go_quiet (fail)
          go_wp2_with fail
          go_roundw
          case rel => exact ⟨k + 1, by omega, by go_num, HK2, hD.trans ⟨_, rfl⟩⟩
          case measure => simp [intOf]; omega
        · have hbe : (u != v) = true := by simp [huv]
          have HN := hid (HNk.out huv)
          clear huv
          go_wp2_with fail
          go_quiet (fail)
          go_wp2_with fail
          go_returns
          exact ⟨by rw [HN.out]; rfl, hD.trans ⟨_, rfl⟩⟩
      · have HT := hid (HEQ.out HLE.out (fun j h1 h2 => HA.out j h1 h2 (by omega)))
        go_wp2_with fail
        go_returns
        exact ⟨by rw [HT.out]; rfl, hD⟩
  · have hb : ((xs.length : Int) != (ys.length : Int)) = true := by simp; omega
    have HN := hid (HLN.out hne)
    clear hne
    go_enter Tryd.func74, Tryd.ntmps74
    go_wp2_with fail
    go_returns
    exact ⟨by rw [HN.out]; rfl, Dr.refl _⟩
end Go.Proofs.YtlnccdbmchjhlaaDoor
