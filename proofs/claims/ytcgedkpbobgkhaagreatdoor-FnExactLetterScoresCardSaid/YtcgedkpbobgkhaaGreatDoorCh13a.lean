/- The score of one letter. Conditions stand at each. -/
import Derived.Test.YtcgedkpbobgkhaaGreatDoorPremL
import Derived.Test.YtcgedkpbobgkhaaGreatDoorCh02c
import Derived.Laws.EntriesVeiled
import Derived.WideMake
namespace Go.Proofs.YtcgedkpbobgkhaaGreatDoor
set_option linter.unusedVariables false
set_option linter.unusedSimpArgs false
open Go Go.RowKit
theorem run_updatePush {P : Program} {w : World} (mty kt et : TypeId) (r clock : Nat) (es : Array MapEntry) (d : TypeDesc) (key val : Value) (hm : P.underlying mty = some (.map kt et)) (hk : P.underlying kt = some d) (hkey : MapKept.IsKey d key) (hb : w.heap[r]? = some (.map es clock)) (hf : Instr.findNow d key es.toList 0 = some none) :
    (Instr.mapUpdate mty (.map (some r)) key val).run P w = .ok () { w with heap := w.heap.setIfInBounds r (.map (es.push { key := key, val := val, born := clock }) (clock + 1)) } := by
  have hc : (Instr.checkKey false 10000 kt key).run P w = .ok () w := MapKept.run_checkKey hk hkey false 9999
  simp [Instr.mapUpdate, run_underlying hm, MapKept.run_getObj_map hb, hc, MapKept.run_findKey hk hf, MapKept.run_setObj_map _ hb, Result.andThen]
theorem run_lookupHit {P : Program} {w : World} (mty kt et : TypeId) (r clock i : Nat) (es : Array MapEntry) (d : TypeDesc) (key val : Value) (hm : P.underlying mty = some (.map kt et)) (hk : P.underlying kt = some d) (hkey : MapKept.IsKey d key) (hb : w.heap[r]? = some (.map es clock)) (hf : Instr.findNow d key es.toList 0 = some (some (i, val))) :
    (Instr.lookup mty (.map (some r)) key true).run P w = .ok (.tuple #[val, .bool true]) w := by
  have hc : (Instr.checkKey es.isEmpty 10000 kt key).run P w = .ok () w := MapKept.run_checkKey hk hkey _ 9999
  simp [Instr.lookup, run_underlying hm, MapKept.run_getObj_map hb, hc, MapKept.run_findKey hk hf, Result.andThen]
theorem run_lookupMiss {P : Program} {w : World} (mty kt et : TypeId) (r clock : Nat) (es : Array MapEntry) (d : TypeDesc) (key z : Value) (hm : P.underlying mty = some (.map kt et)) (hk : P.underlying kt = some d) (hkey : MapKept.IsKey d key) (hb : w.heap[r]? = some (.map es clock)) (hf : Instr.findNow d key es.toList 0 = some none) (hz : (zeroValue et).run P w = .ok z w) :
    (Instr.lookup mty (.map (some r)) key true).run P w = .ok (.tuple #[z, .bool false]) w := by
  have hc : (Instr.checkKey es.isEmpty 10000 kt key).run P w = .ok () w := MapKept.run_checkKey hk hkey _ 9999
  simp [Instr.lookup, run_underlying hm, MapKept.run_getObj_map hb, hc, MapKept.run_findKey hk hf, Result.andThen, hz]
theorem ext_setObj {w0 w : World} (h : Ext w0 w) {r : Nat} (hr : w0.heap.size ≤ r) (o : Obj) : Ext w0 { w with heap := w.heap.setIfInBounds r o } :=
  ⟨h.below.os, h.below.tape, h.below.output, Nat.le_trans h.size (by simp), fun j hj => by rw [← h.below.block j hj]; simp [Array.getElem?_setIfInBounds]; omega⟩
/-- By what a premium multiplies a letter. -/
def facI (x : Int) : Int := if x = 50 then 2 else if x = 51 then 3 else 1
def facM : Array MapEntry := #[{ key := .int .u8 50, val := .func (.func 73) #[] #[], born := 0 }, { key := .int .u8 51, val := .func (.func 74) #[] #[], born := 1 }]
set_option maxHeartbeats 1000000 in
theorem letterFactors_any (w : World) : Calls Tryz.prog 66 #[] w (fun e w' => ∃ b, e = .returned (.map (some b)) ∧ w'.heap[b]? = some (.map facM 2) ∧ Ext w w') := by
  have hmm := @run_makeMap_plain Tryz.prog
  have hb0 : (w.alloc (.map #[] 0)).heap[w.heap.size]? = some (.map #[] 0) := (MapKept.heap_alloc w _).1
  have h1 := run_updatePush (P := Tryz.prog) 89 5 87 w.heap.size 0 #[] (.int .u8) (.int .u8 50) (.func (.func 73) #[] #[]) Tryz.underlying89 Tryz.underlying5 rfl hb0 rfl
  have hx1 := ext_setObj ((Ext.refl w).alloc (.map #[] 0)) (Nat.le_refl _) (.map (#[].push { key := .int .u8 50, val := .func (.func 73) #[] #[], born := 0 }) (0 + 1))
  have hb1 := (MapKept.heap_set (o' := .map (#[].push { key := .int .u8 50, val := .func (.func 73) #[] #[], born := 0 }) (0 + 1)) hb0).1
  obtain ⟨W1, hW1⟩ : ∃ W : World, { (w.alloc (.map #[] 0)) with heap := (w.alloc (.map #[] 0)).heap.setIfInBounds w.heap.size (.map (#[].push { key := .int .u8 50, val := .func (.func 73) #[] #[], born := 0 }) (0 + 1)) } = W := ⟨_, rfl⟩
  have hb1' : W1.heap[w.heap.size]? = some (.map #[{ key := .int .u8 50, val := .func (.func 73) #[] #[], born := 0 }] 1) := by rw [← hW1]; exact hb1
  rw [hW1] at h1 hx1
  clear hW1 hb1
  have h2 := run_updatePush (P := Tryz.prog) 89 5 87 w.heap.size 1 #[{ key := .int .u8 50, val := .func (.func 73) #[] #[], born := 0 }] (.int .u8) (.int .u8 51) (.func (.func 74) #[] #[]) Tryz.underlying89 Tryz.underlying5 rfl hb1' (by rfl)
  have hx2 := ext_setObj hx1 (Nat.le_refl _) (.map (#[{ key := .int .u8 50, val := .func (.func 73) #[] #[], born := 0 }].push { key := .int .u8 51, val := .func (.func 74) #[] #[], born := 1 }) (1 + 1))
  have hb2 := (MapKept.heap_set (o' := .map (#[{ key := .int .u8 50, val := .func (.func 73) #[] #[], born := 0 }].push { key := .int .u8 51, val := .func (.func 74) #[] #[], born := 1 }) (1 + 1)) hb1').1
  obtain ⟨W2, hW2⟩ : ∃ W : World, { W1 with heap := W1.heap.setIfInBounds w.heap.size (.map (#[{ key := .int .u8 50, val := .func (.func 73) #[] #[], born := 0 }].push { key := .int .u8 51, val := .func (.func 74) #[] #[], born := 1 }) (1 + 1)) } = W := ⟨_, rfl⟩
  have HB2 : Hid (W2.heap[w.heap.size]? = some (.map facM 2)) := hid (by rw [← hW2]; exact hb2)
  rw [hW2] at h2 hx2
  have HX := hid hx2
  clear hW2 hb2 hx2 hx1 hb0 hb1'
  go_enter Tryz.func66, Tryz.ntmps66
  go_wp2_with fail
  go_returns
  exact ⟨_, rfl, HB2.out, HX.out⟩
theorem fac1_any (v : Int) (w : World) (h0 : 0 ≤ v) (h1 : v ≤ 1000) : Calls Tryz.prog 73 #[.int .i64 v] w (Same (.int .i64 (2 * v)) w) := by
  have q : IntKind.i64.wrap (2 * v) = 2 * v := IntWalk.i64_in _ (by omega)
  go_enter Tryz.func73, Tryz.ntmps73
  go_wp2_with fail
  go_returns
  exact ⟨rfl, rfl⟩
theorem fac2_any (v : Int) (w : World) (h0 : 0 ≤ v) (h1 : v ≤ 1000) : Calls Tryz.prog 74 #[.int .i64 v] w (Same (.int .i64 (3 * v)) w) := by
  have q : IntKind.i64.wrap (3 * v) = 3 * v := IntWalk.i64_in _ (by omega)
  go_enter Tryz.func74, Tryz.ntmps74
  go_wp2_with fail
  go_returns
  exact ⟨rfl, rfl⟩
set_option maxHeartbeats 1000000 in
theorem letterScore_any (s : ByteArray) (a b : Option Addr) (n c d : Nat) (vs : List Int) (k : Int) (x : UInt8) (z : Int) (w : World) (hs : s.size ≤ 1048576) (hr : Rd w a (intsV vs)) (hv : vs.length = s.size) (hvs : ∀ i (h : i < vs.length), 0 ≤ vs[i] ∧ vs[i] ≤ 20) :
    Calls Tryz.prog 43 #[tileV s a b vs.length n c d k, .int .u8 x.toNat, .int .u8 z] w (Ret (.int .i64 (facI z * valL s vs x)) w) := by
  have hx0 := (Ext.refl w).alloc (.cells #[.string s, .slice a vs.length c, .slice b n d, .int .i64 k] 34)
  have HV := hid (valueOf_any s a b n c d vs k x _ hs (hr.ext hx0) hv)
  obtain ⟨v0, v1⟩ := valL_in s vs x hvs
  obtain ⟨v, hvv⟩ : ∃ v, valL s vs x = v := ⟨_, rfl⟩
  rw [hvv] at HV v0 v1
  have HVV := hid hvv
  clear hvv hvs hr hs hv
  go_enter Tryz.func43, Tryz.ntmps43
  go_wp2_with fail
  refine HV.out.mono ?_
  rintro e w1 ⟨rfl, hx⟩
  have HX := hid (hx0.trans hx)
  clear hx hx0 HV
  go_wp2_with fail
  refine (letterFactors_any _).mono ?_
  rintro e w2 ⟨g, rfl, hg, hx⟩
  replace HX := hid (HX.out.trans hx)
  clear hx
  by_cases z2 : z = 50
  · subst z2
    have hlk := run_lookupHit (P := Tryz.prog) 89 5 87 g 2 0 facM (.int .u8) (.int .u8 50) (.func (.func 73) #[] #[]) Tryz.underlying89 Tryz.underlying5 rfl hg (by rfl)
    have HR : Hid (facI 50 * valL s vs x = 2 * v) := hid (by rw [HVV.out]; rfl)
    clear hg
    go_wp2_with fail
    refine (fac1_any v _ v0 (by omega)).mono ?_
    rintro e w3 ⟨rfl, rfl⟩
    go_wp2_with fail
    go_returns
    exact ⟨ret_int HR.out.symm, HX.out⟩
  by_cases z3 : z = 51
  · subst z3
    have hlk := run_lookupHit (P := Tryz.prog) 89 5 87 g 2 1 facM (.int .u8) (.int .u8 51) (.func (.func 74) #[] #[]) Tryz.underlying89 Tryz.underlying5 rfl hg (by rfl)
    have HR : Hid (facI 51 * valL s vs x = 3 * v) := hid (by rw [HVV.out]; rfl)
    clear hg z2
    go_wp2_with fail
    refine (fac2_any v _ v0 (by omega)).mono ?_
    rintro e w3 ⟨rfl, rfl⟩
    go_wp2_with fail
    go_returns
    exact ⟨ret_int HR.out.symm, HX.out⟩
  · have hfn : Instr.findNow (.int .u8) (.int .u8 z) facM.toList 0 = some none := by
      have e1 : (z == 50) = false := by simpa using z2
      have e2 : (z == 51) = false := by simpa using z3
      simp [facM, Instr.findNow, Instr.sameNow, e1, e2]
    have hz0 : (zeroValue 87).run Tryz.prog w2 = .ok .nilFunc w2 := by kernel_rfl
    have hlk := run_lookupMiss (P := Tryz.prog) 89 5 87 g 2 facM (.int .u8) (.int .u8 z) _ Tryz.underlying89 Tryz.underlying5 rfl hg hfn hz0
    have HR : Hid (facI z * valL s vs x = v) := hid (by rw [HVV.out]; simp [facI, z2, z3])
    clear hg hfn hz0 z2 z3
    go_wp2_with fail
    go_returns
    exact ⟨ret_int HR.out.symm, HX.out⟩
set_option maxHeartbeats 1000000 in
theorem l13Letter_any (s : ByteArray) (a b : Option Addr) (m c d g q : Nat) (vs : List Int) (k : Int) (n : Int) (p cs : ByteArray) (i j : Int) (x : UInt8) (w : World) (hs : s.size ≤ 1048576) (hT : TileAt w g s a b vs.length m c d k) (hr : Rd w a (intsV vs)) (hv : vs.length = s.size) (hvs : ∀ i (h : i < vs.length), 0 ≤ vs[i] ∧ vs[i] ≤ 20)
    (hB : BdAt w q 0 n p cs) (h1 : 5 ≤ n) (h2 : n ≤ 15) (hp : (p.size : Int) = n * n) (hin : inRC n i j = true) :
    Calls Tryz.prog 33 #[.pointer (some ⟨g, 0, none⟩), .pointer (some ⟨q, 0, none⟩), .int .i64 i, .int .i64 j, .int .u8 x.toNat] w fun e w' => e = .returned (.int .i64 (facI (sqAt n p i j) * valL s vs x)) ∧ Dr w w' := by
  have HV := hid (l02Value_any s a b m c d g vs k x w hs hT hr hv)
  have HP := hid (l13Premium_any q 0 n p cs i j w hB h1 h2 hp hin)
  obtain ⟨v0, v1⟩ := valL_in s vs x hvs
  obtain ⟨v, hvv⟩ : ∃ v, valL s vs x = v := ⟨_, rfl⟩
  rw [hvv] at HV v0 v1 ⊢
  obtain ⟨z, hz⟩ : ∃ z, sqAt n p i j = z := ⟨_, rfl⟩
  rw [hz] at HP ⊢
  have q2 : IntKind.i64.wrap (2 * v) = 2 * v := IntWalk.i64_in _ (by omega)
  have q3 : IntKind.i64.wrap (3 * v) = 3 * v := IntWalk.i64_in _ (by omega)
  clear hvv hz hs hT hr hv hvs hB hp hin
  go_enter Tryz.func33, Tryz.ntmps33
  go_wp2_with fail
  refine HV.out.mono ?_
  rintro e w1 ⟨rfl, rfl⟩
  go_wp2_with fail
  refine HP.out.mono ?_
  rintro e w2 ⟨rfl, hD⟩
  have HD := hid hD
  clear hD HV HP
  by_cases z2 : z = 50
  · subst z2
    go_wp2_with fail
    go_returns
    exact ⟨ret_int (by simp [facI]), HD.out⟩
  by_cases z3 : z = 51
  · subst z3
    go_wp2_with fail
    go_returns
    exact ⟨ret_int (by simp [facI]), HD.out⟩
  · have e2 : (z == 50) = false := by simpa using z2
    have e3 : (z == 51) = false := by simpa using z3
    have HR : Hid (v = facI z * v) := hid (by simp [facI, z2, z3])
    clear z2 z3
    go_wp2_with fail
    go_returns
    exact ⟨ret_int HR.out, HD.out⟩
end Go.Proofs.YtcgedkpbobgkhaaGreatDoor
