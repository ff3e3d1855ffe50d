/- CompletionsOf, by the reference. Conditions: at most 2^20 words, each of at most 2^20 bytes. -/
import Derived.Test.YtaigabenlccdaaaCh10q
import Derived.Test.YtaigabenlccdaaaCh10o
namespace Go.Proofs.Ytaigabenlccdaaa
set_option linter.unusedVariables false
set_option linter.unusedSimpArgs false
open Go Go.RowKit
theorem ltS_bytes (z : Int) (k : Nat) (h : z = 97 + (k : Int)) (hk : k < 26) : bytesV [ltU k] = [Value.int .u8 z] := by
  rw [bytesV, List.map_cons, List.map_nil, ltU_nat k hk, h]
  rfl
set_option maxRecDepth 100000 in
set_option maxHeartbeats 2000000 in
theorem sCompletionsOf_any (a : Option Addr) (c : Nat) (l : List ByteArray) (r : ByteArray) (w : World) (h : Rd w a (strsV l)) (hl : l.length ≤ 1048576) (hs : ∀ s ∈ l, s.size ≤ 1048576) (hr : r.size ≤ 1048576) :
    Calls Try.prog 18 #[lexV a l.length c, .string r] w (Ret (.tuple #[.string (comX l r), .int .i64 (comC l r)]) w) := by
  have HR : Hid (∀ w', Ext w w' → Rd w' a (strsV l)) := hid (fun w' k => h.ext k)
  have HLX : Hid (LxAt (w.alloc (.cells #[.slice a l.length c] 28)) w.heap.size 0 l) := hid ⟨a, c, by simp, h.ext ((Ext.refl w).alloc _)⟩
  have HVR := hid (fun w => l03Rack_any r w hr)
  have HC : Hid (comC l r = if lexOk l then if rackOk r then 0 else 1 else 1) := hid rfl
  have HX : Hid (comX l r = if lexOk l then if rackOk r then comS l r 26 else ⟨#[]⟩ else ⟨#[]⟩) := hid rfl
  have HV := hid (fun w1 (k : Ext (w.alloc (.cells #[.slice a l.length c] 28)) w1) => l05Ok_any w.heap.size 0 l w1 (HLX.out.ext k) hl hs)
  clear h
  cases hk : lexOk l
  · rw [hk] at HV HC HX
    clear hk
    go_enter Try.func18, Try.ntmps18
    go_wp2_with fail
    refine (HV.out _ (Ext.refl _)).mono ?_
    rintro e w1 ⟨rfl, hD⟩
    have hE1 := ((Ext.refl w).alloc _).trans hD.ext
    clear hD
    go_wp2_with fail
    go_returns
    exact ⟨by rw [HX.out, HC.out]; rfl, hE1⟩
  cases hk2 : rackOk r
  · rw [hk] at HV HC HX
    rw [hk2] at HVR HC HX
    clear hk hk2
    go_enter Try.func18, Try.ntmps18
    go_wp2_with fail
    refine (HV.out _ (Ext.refl _)).mono ?_
    rintro e w1 ⟨rfl, hD⟩
    have hE1 := ((Ext.refl w).alloc _).trans hD.ext
    clear hD
    go_wp2_with fail
    refine (HVR.out _).mono ?_
    rintro e w2 ⟨rfl, hx⟩
    replace hE1 := hE1.trans hx
    clear hx
    go_wp2_with fail
    go_returns
    exact ⟨by rw [HX.out, HC.out]; rfl, hE1⟩
  · have hri : r.size ≤ 7 := by
      unfold rackOk at hk2
      simp only [Bool.and_eq_true, decide_eq_true_eq] at hk2
      exact hk2.1
    rw [hk] at HV HC HX
    rw [hk2] at HVR HC HX
    have HK : Hid (comC l r = 0) := hid HC.out
    have HXX : Hid (comX l r = comS l r 26) := hid HX.out
    have HSU := hid (comS_succ l r)
    have HSZ := hid (comS_size l r)
    have HHB : Hid (∀ k, hitB l r k = l.any fun s => decide (s.size = r.size + 1) && canW (r.data.toList ++ [ltU k]) s.data.toList) := hid (fun k => rfl)
    have HSO : Hid (∀ k w', Calls Try.prog 49 #[.string (r ++ ltS k)] w' (Ret (.string (sortS (r ++ ltS k))) w')) := hid (fun k w' => l03Sort_any _ _ (by rw [ByteArray.size_append]; show r.size + 1 ≤ _; omega))
    have HSS : Hid (∀ k, (sortS (r ++ ltS k)).size = r.size + 1) := hid (fun k => by
      unfold sortS
      show (sortU (r ++ ltS k).data.toList).toArray.size = _
      rw [List.size_toArray, sortU_length, app_byte]
      simp)
    have HCN : Hid (∀ k s w', s ∈ l → Calls Try.prog 50 #[.string (sortS (r ++ ltS k)), .string s] w' (Ret (.bool (canW (r.data.toList ++ [ltU k]) s.data.toList)) w')) := hid (fun k s w' hm => by
      have := l03Can_any (sortS (r ++ ltS k)) s w' (by rw [HSS.out]; omega) (hs s hm)
      rw [show (sortS (r ++ ltS k)).data.toList = sortU (r.data.toList ++ [ltU k]) by unfold sortS; simp only [List.toList_toArray]; rw [app_byte], canW_perm (sortU_perm _)] at this
      exact this)
    have HZZ : Hid (∀ k, k < l.length → (wAt l k).size ≤ 1048576) := hid (fun k hk => hs _ (wAt_mem l k hk))
    have HNO := hid (fun (g : ByteArray → Bool) => @any_no l g)
    have HYE := hid (fun (g : ByteArray → Bool) => @any_yes l g)
    clear hk hk2 hs
    go_enter Try.func18, Try.ntmps18
    go_wp2_with fail
    refine (HV.out _ (Ext.refl _)).mono ?_
    rintro e w1 ⟨rfl, hD⟩
    have b0 := hD.ext.cell (b := w.heap.size) (o := 0) (v := .slice a l.length c) (by simp)
    have hE1 := ((Ext.refl w).alloc _).trans hD.ext
    clear hD
    go_wp2_with fail
    refine (HVR.out _).mono ?_
    rintro e w2 ⟨rfl, hx⟩
    replace hE1 := hE1.trans hx
    have HB0 := hid (fun w' (k : Ext w2 w') => k.cell (hx.cell b0))
    have HE1 := hid hE1
    clear hx b0 hE1
    go_wp2_with fail
    go_loopw [6, 7] (fun s v wr => ∃ (k : Nat) (z : Int) (S : ByteArray), k ≤ 26 ∧ Hid (z = 97 + (k : Int)) ∧ 97 ≤ z ∧ z ≤ 123 ∧ s = .string S ∧ S.size ≤ 26 ∧ v = .int .u8 z ∧ Hid (S = comS l r k) ∧ Ext w2 wr) (fun _ v _ => 123 - (intOf v).toNat)
    case atStart => exact ⟨0, 97, ⟨#[]⟩, by omega, hid rfl, by omega, by omega, rfl, by decide, rfl, hid rfl, Ext.refl _⟩
    case round =>
      obtain ⟨k, z, S, hk, hz, hz1, hz2, rfl, hS, rfl, HS, hx⟩ := hrel
      by_cases hlt : z ≤ 122
      · have hk2 : k < 26 := by have := hz.out; omega
        have HCB := hid (ltS_bytes z k hz.out hk2)
        have HSOk := hid (fun w' => HSO.out k w')
        have HSSk := HSS.out k
        have HCNk := hid (fun s w' h => HCN.out k s w' h)
        have HSUk := HSU.out k
        have HHk := hid (HHB.out k)
        have hx1 : (ltS k).size = 1 := rfl
        obtain ⟨T, hT⟩ : ∃ T, sortS (r ++ ltS k) = T := ⟨_, rfl⟩
        rw [hT] at HSOk HSSk HCNk
        have HXL : Hid (ltS k = ⟨[ltU k].toArray⟩) := hid rfl
        obtain ⟨x, hxk⟩ : ∃ x, ltS k = x := ⟨_, rfl⟩
        rw [hxk] at hx1 HSOk HSUk HXL
        have HSU1 := hid HSUk
        have hx2 : x.size ≤ 1 := by omega
        have hTs : T.size ≤ 8 := by omega
        have HTS := hid HSSk
        clear hxk hx1 HSUk hT HSSk
        have w8 : IntKind.u8.wrap (z + 1) = z + 1 := by simp [IntKind.wrap, IntKind.bits, IntKind.signed]; omega
        have HZ1 : Hid (z + 1 = 97 + ((k + 1 : Nat) : Int)) := hid (by have := hz.out; omega)
        have HRd : Hid (Rd (wr.alloc (.cells #[.int .u8 z] 5)) (some ⟨wr.heap.size, 0, none⟩) (bytesV [ltU k])) := hid (by
          rw [HCB.out]
          intro j u hj
          match j with
          | 0 =>
            simp only [List.getElem?_cons_zero, Option.some.injEq] at hj
            subst hj
            exact ⟨wr.heap.size, 0, rfl, by simp⟩
          | j + 1 => simp at hj)
        go_wp2_with (refine wpList_str rfl _ 35 9 rfl Try.underlying35 Try.underlying5 Try.underlying9 rfl (l := [ltU k]) rfl HRd.out ?_; rw [← HXL.out])
        refine (HSOk.out _).mono ?_
        rintro e w3 ⟨rfl, hy⟩
        replace hx := (hx.alloc _).trans hy
        clear hy
        go_wp2_with fail
        go_loopw [6, 10] (fun s i wq => ∃ j : Nat, j ≤ l.length ∧ s = .string S ∧ i = .int .i64 (j : Int) ∧ Hid (∀ q, q < j → (decide ((wAt l q).size = r.size + 1) && canW (r.data.toList ++ [ltU k]) (wAt l q).data.toList) = false) ∧ Ext w2 wq) (fun _ i _ => l.length - (intOf i).toNat)
        case atStart => exact ⟨0, by omega, rfl, rfl, hid (fun q hq => by omega), hx⟩
        case round =>
          clear hx
          obtain ⟨j, hj, rfl, rfl, HALL, hx⟩ := hrel
          have b0 := HB0.out _ hx
          by_cases hjl : j < l.length
          · obtain ⟨b, o, rfl, hc⟩ := (HR.out _ (HE1.out.trans hx)).word (by omega)
            have c0 := hc j hjl
            have HM := hid (wAt_mem l j hjl)
            have hq := HZZ.out j hjl
            have HJ : Hid (∀ B, (decide ((wAt l j).size = r.size + 1) && canW (r.data.toList ++ [ltU k]) (wAt l j).data.toList) = B → B = false → ∀ q, q < j + 1 → (decide ((wAt l q).size = r.size + 1) && canW (r.data.toList ++ [ltU k]) (wAt l q).data.toList) = false) := hid (fun B h1 h2 q hq => by
              by_cases e : q = j
              · subst e; rw [h1, h2]
              · exact HALL.out q (by omega))
            have HY : Hid ((decide ((wAt l j).size = r.size + 1) && canW (r.data.toList ++ [ltU k]) (wAt l j).data.toList) = true → hitB l r k = true) := hid (fun h => by rw [HHk.out]; exact HYE.out _ j hjl h)
            obtain ⟨s, hs⟩ : ∃ s, wAt l j = s := ⟨_, rfl⟩
            rw [hs] at c0 HM hq HJ HY
            obtain ⟨p0, hp0⟩ : ∃ p0, o + j = p0 := ⟨_, rfl⟩
            rw [hp0] at c0
            clear hs hc
            by_cases he : s.size = r.size + 1
            · have HD : Hid (decide (s.size = r.size + 1) = true) := hid (decide_eq_true he)
              have hei : ((s.size : Int) == (T.size : Int)) = true := by have := HTS.out; simp; omega
              have HCS := hid (fun w' => HCNk.out s w' HM.out)
              obtain ⟨C, hC⟩ : ∃ C, canW (r.data.toList ++ [ltU k]) s.data.toList = C := ⟨_, rfl⟩
              rw [hC] at HJ HY HCS
              clear he hC
              go_wp2_with fail
              refine (HCS.out _).mono ?_
              rintro e w4 ⟨rfl, hy⟩
              replace hx := hx.trans hy
              clear hy
              cases C
              · have HJ2 := hid (HJ.out _ rfl (by rw [HD.out]; rfl))
                go_wp2_with fail
                go_roundw
                case rel => exact ⟨j + 1, by omega, rfl, by go_num, HJ2, hx⟩
                case measure => simp [intOf]; omega
              · have HH := hid (HY.out (by rw [HD.out]; rfl))
                have HN : Hid (S ++ x = comS l r (k + 1)) := hid (by rw [HSU1.out, HH.out, if_pos rfl, HS.out])
                have hsz : (S ++ x).size ≤ 26 := by
                  rw [HN.out]
                  exact Nat.le_trans (HSZ.out (k + 1)) (by omega)
                go_wp2_with fail
                go_roundw
                case rel => exact ⟨k + 1, z + 1, S ++ x, by omega, HZ1, by omega, by omega, rfl, hsz, rfl, HN, hx⟩
                case measure => simp [intOf]; omega
            · have HJ2 := hid (HJ.out _ rfl (by rw [decide_eq_false he]; rfl))
              have hei : ((s.size : Int) == (T.size : Int)) = false := by have := HTS.out; simp; omega
              clear he
              go_wp2_with fail
              go_roundw
              case rel => exact ⟨j + 1, by omega, rfl, by go_num, HJ2, hx⟩
              case measure => simp [intOf]; omega
          · obtain rfl : j = l.length := by omega
            have HH : Hid (hitB l r k = false) := hid (by rw [HHk.out]; exact HNO.out _ HALL.out)
            go_wp2_with fail
            go_roundw
            case rel => exact ⟨k + 1, z + 1, S, by omega, HZ1, by omega, by omega, rfl, by omega, rfl, hid (by rw [HSU.out k, HH.out]; simpa using HS.out), hx⟩
            case measure => simp [intOf]; omega
      · obtain rfl : k = 26 := by have := hz.out; omega
        go_wp2_with fail
        go_returns
        exact ⟨by rw [HXX.out, HK.out, ← HS.out]; rfl, HE1.out.trans hx⟩
end Go.Proofs.Ytaigabenlccdaaa
