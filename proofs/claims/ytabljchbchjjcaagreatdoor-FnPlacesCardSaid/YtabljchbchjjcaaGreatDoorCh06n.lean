/- An automaton's nodes inspected in the order in which they are met. Conditions: the renumbered nodes of what was built; at most 200000 nodes. -/
import Derived.Test.YtabljchbchjjcaaGreatDoorMg7
import Derived.Test.YtabljchbchjjcaaGreatDoorMg8
import Derived.Test.YtabljchbchjjcaaGreatDoorMg2
namespace Go.Proofs.YtabljchbchjjcaaGreatDoor
set_option linter.unusedVariables false
set_option linter.unusedSimpArgs false
open Go Go.RowKit
theorem wr_ch {K : Nat → Prop} {w w' : World} {g : Nat} {xs : List Value} (k : Ch K w w') (h : Wr w g xs) (hg : ¬ K g) : Wr w' g xs := by
  obtain ⟨r1, r2, r3⟩ := h
  refine ⟨Nat.lt_of_lt_of_le r1 k.size, fun j u hj => k.cell (r2 j u hj) hg, fun j hj => ?_⟩
  rw [← r3 j hj]
  have := k.block g r1 hg
  simp only [World.frozen?, this]
theorem ndG_nd (L : List NdP) (k : Nat) : ndG (ndsOf L) k = (ndAt L k).nd := by
  unfold ndG ndAt ndsOf
  rw [List.getD_eq_getElem?_getD, List.getD_eq_getElem?_getD, List.getElem?_map]
  cases L[k]? <;> rfl
def Ki (xb gO gS gL b : Nat) : Prop := b = xb ∨ b = gO ∨ b = gS ∨ b = gL
/-- What the inspector holds. -/
structure InS (w : World) (xb gO gS gL cO cS cL : Nat) (aD : Option Addr) (cD n : Nat) (O : List Nat) (m : Nat) (op : Nat → Bool) (sv lv : Nat → Nat) : Prop where
  bx : Bx w xb 97 [.slice aD n cD, .int .i64 (m : Int), .slice (some ⟨gO, 0, none⟩) O.length cO, .slice (some ⟨gS, 0, none⟩) O.length cS, .slice (some ⟨gL, 0, none⟩) O.length cL]
  po : Wr w gO (O.map fun z => Value.bool (op z))
  ps : Wr w gS (O.map fun z => Value.int .i64 (sv z : Int))
  pl : Wr w gL (O.map fun z => Value.int .i64 (lv z : Int))
  ne : xb ≠ gO ∧ xb ≠ gS ∧ xb ≠ gL ∧ gO ≠ gS ∧ gO ≠ gL ∧ gS ≠ gL
section
variable {w w' : World} {xb gO gS gL cO cS cL : Nat} {aD : Option Addr} {cD n : Nat} {O : List Nat} {m : Nat} {op op' : Nat → Bool} {sv lv sv' lv' : Nat → Nat}
theorem InS.ch {K : Nat → Prop} (h : InS w xb gO gS gL cO cS cL aD cD n O m op sv lv) (k : Ch K w w') (hk : ∀ b, Ki xb gO gS gL b → ¬ K b) : InS w' xb gO gS gL cO cS cL aD cD n O m op sv lv :=
  ⟨h.bx.ch k (hk _ (.inl rfl)), wr_ch k h.po (hk _ (.inr (.inl rfl))), wr_ch k h.ps (hk _ (.inr (.inr (.inl rfl)))), wr_ch k h.pl (hk _ (.inr (.inr (.inr rfl)))), h.ne⟩
theorem InS.ext (h : InS w xb gO gS gL cO cS cL aD cD n O m op sv lv) (k : Ext w w') : InS w' xb gO gS gL cO cS cL aD cD n O m op sv lv := h.ch (Ch.of_ext (fun _ => False) k) (by simp)
theorem InS.congr (h : InS w xb gO gS gL cO cS cL aD cD n O m op sv lv) (e : ∀ z ∈ O, op' z = op z ∧ sv' z = sv z ∧ lv' z = lv z) : InS w xb gO gS gL cO cS cL aD cD n O m op' sv' lv' := by
  refine ⟨h.bx, ?_, ?_, ?_, h.ne⟩
  · rw [List.map_congr_left (g := fun z => Value.bool (op z)) (fun z hz => by rw [(e z hz).1])]; exact h.po
  · rw [List.map_congr_left (g := fun z => Value.int .i64 (sv z : Int)) (fun z hz => by rw [(e z hz).2.1])]; exact h.ps
  · rw [List.map_congr_left (g := fun z => Value.int .i64 (lv z : Int)) (fun z hz => by rw [(e z hz).2.2])]; exact h.pl
theorem InS.setM (h : InS w xb gO gS gL cO cS cL aD cD n O m op sv lv) (m' : Nat) : InS (w.setCell ⟨xb, 1, none⟩ (.int .i64 (m' : Int))) xb gO gS gL cO cS cL aD cD n O m' op sv lv := by
  have k := Ch.set w xb 1 (.int .i64 (m' : Int))
  obtain ⟨n1, n2, n3, -⟩ := h.ne
  exact ⟨h.bx.set 1 _, wr_ch k h.po (fun e => n1 e.symm), wr_ch k h.ps (fun e => n2 e.symm), wr_ch k h.pl (fun e => n3 e.symm), h.ne⟩
theorem InS.setO (h : InS w xb gO gS gL cO cS cL aD cD n O m op sv lv) (hn : O.Nodup) {x : Nat} (hx : x ∈ O) (v : Bool) : InS (w.setCell ⟨gO, O.idxOf x, none⟩ (.bool v)) xb gO gS gL cO cS cL aD cD n O m (updF op x v) sv lv := by
  have k := Ch.set w gO (O.idxOf x) (.bool v)
  obtain ⟨n1, n2, n3, n4, n5, n6⟩ := h.ne
  refine ⟨h.bx.ch k n1, ?_, wr_ch k h.ps (fun e => n4 e.symm), wr_ch k h.pl (fun e => n5 e.symm), h.ne⟩
  rw [← map_upd hn hx op Value.bool v]
  exact h.po.set _ (by rw [List.length_map]; exact List.idxOf_lt_length_of_mem hx) _
theorem InS.setS (h : InS w xb gO gS gL cO cS cL aD cD n O m op sv lv) (hn : O.Nodup) {x : Nat} (hx : x ∈ O) (v : Nat) : InS (w.setCell ⟨gS, O.idxOf x, none⟩ (.int .i64 (v : Int))) xb gO gS gL cO cS cL aD cD n O m op (updF sv x v) lv := by
  have k := Ch.set w gS (O.idxOf x) (.int .i64 (v : Int))
  obtain ⟨n1, n2, n3, n4, n5, n6⟩ := h.ne
  refine ⟨h.bx.ch k n2, wr_ch k h.po n4, ?_, wr_ch k h.pl (fun e => n6 e.symm), h.ne⟩
  rw [← map_upd hn hx sv (fun q => Value.int .i64 (q : Int)) v]
  exact h.ps.set _ (by rw [List.length_map]; exact List.idxOf_lt_length_of_mem hx) _
theorem InS.setL (h : InS w xb gO gS gL cO cS cL aD cD n O m op sv lv) (hn : O.Nodup) {x : Nat} (hx : x ∈ O) (v : Nat) : InS (w.setCell ⟨gL, O.idxOf x, none⟩ (.int .i64 (v : Int))) xb gO gS gL cO cS cL aD cD n O m op sv (updF lv x v) := by
  have k := Ch.set w gL (O.idxOf x) (.int .i64 (v : Int))
  obtain ⟨n1, n2, n3, n4, n5, n6⟩ := h.ne
  refine ⟨h.bx.ch k n3, wr_ch k h.po n5, wr_ch k h.ps n6, ?_, h.ne⟩
  rw [← map_upd hn hx lv (fun q => Value.int .i64 (q : Int)) v]
  exact h.pl.set _ (by rw [List.length_map]; exact List.idxOf_lt_length_of_mem hx) _
theorem InS.atO (h : InS w xb gO gS gL cO cS cL aD cD n O m op sv lv) {x : Nat} (hx : x ∈ O) : w.cell? ⟨gO, O.idxOf x, none⟩ = some (.bool (op x)) ∧ w.frozen? ⟨gO, O.idxOf x, none⟩ = false :=
  ⟨h.po.2.1 _ _ (map_at hx _), h.po.2.2 _ (by rw [List.length_map]; exact List.idxOf_lt_length_of_mem hx)⟩
theorem InS.atS (h : InS w xb gO gS gL cO cS cL aD cD n O m op sv lv) {x : Nat} (hx : x ∈ O) : w.cell? ⟨gS, O.idxOf x, none⟩ = some (.int .i64 (sv x : Int)) ∧ w.frozen? ⟨gS, O.idxOf x, none⟩ = false :=
  ⟨h.ps.2.1 _ _ (map_at hx _), h.ps.2.2 _ (by rw [List.length_map]; exact List.idxOf_lt_length_of_mem hx)⟩
theorem InS.atL (h : InS w xb gO gS gL cO cS cL aD cD n O m op sv lv) {x : Nat} (hx : x ∈ O) : w.cell? ⟨gL, O.idxOf x, none⟩ = some (.int .i64 (lv x : Int)) ∧ w.frozen? ⟨gL, O.idxOf x, none⟩ = false :=
  ⟨h.pl.2.1 _ _ (map_at hx _), h.pl.2.2 _ (by rw [List.length_map]; exact List.idxOf_lt_length_of_mem hx)⟩
end
/-- A visit to a node that was met before. -/
theorem ivisit_old (xb gO gS gL cO cS cL : Nat) (aD : Option Addr) (cD n : Nat) (O : List Nat) (m : Nat) (op : Nat → Bool) (sv lv : Nat → Nat) (x : Nat) (w : World) (h : InS w xb gO gS gL cO cS cL aD cD n O m op sv lv) (hx : x ∈ O) (hm : O.idxOf x < m) (hop : op x = false) (hl : O.length ≤ 200000) :
    Calls Tryz.prog 53 #[.pointer (some ⟨xb, 0, none⟩), .int .i64 (O.idxOf x : Nat)] w (Ret (.bool true) w) := by
  have c1 := h.bx.cell (i := 1) rfl
  have c2 := h.bx.cell (i := 2) rfl
  obtain ⟨d0, -⟩ := h.atO hx
  rw [hop] at d0
  have hi := List.idxOf_lt_length_of_mem hx
  obtain ⟨k, hk⟩ : ∃ k, O.idxOf x = k := ⟨_, rfl⟩
  rw [hk] at d0 hm hi ⊢
  have hlt : (k : Int) < (m : Int) := by omega
  clear h hx hop hk
  go_enter Tryz.func53, Tryz.ntmps53
  go_wp2_with fail
  go_returns
  exact ⟨rfl, Ext.refl _⟩
/-- What a visit to a new node is to do. -/
def InsC (xb gO gS gL cO cS cL : Nat) (aD : Option Addr) (cD : Nat) (LD : List NdP) (N : List Nd) (O : List Nat) (f : Nat) : Prop := ∀ (x : Nat) (o : List Nat) (op : Nat → Bool) (sv lv : Nat → Nat) (w : World),
  x < f → x ∈ O → x ∉ o → o.Nodup → (∀ z ∈ o, z < N.length) → dfs N f o x <+: O → InS w xb gO gS gL cO cS cL aD cD LD.length O o.length op sv lv → (∀ z, op z = true → x < z) → (∀ z ∈ o, op z = false → sv z = cntN N z ∧ lv z = lgsN N z) → (∀ z ∈ O, z ∉ o → op z = false ∧ sv z = 0 ∧ lv z = 0) →
  (∀ w', Ch (Ki xb gO gS gL) w w' → DgRd w' aD LD) →
  Calls Tryz.prog 53 #[.pointer (some ⟨xb, 0, none⟩), .int .i64 (O.idxOf x : Nat)] w fun e w' => e = .returned (.bool (decide (0 < cntN N x) || decide (O.idxOf x = 0))) ∧ ∃ sv' lv', InS w' xb gO gS gL cO cS cL aD cD LD.length O (dfs N f o x).length op sv' lv' ∧
    (∀ z ∈ o, sv' z = sv z ∧ lv' z = lv z) ∧ (∀ z ∈ dfs N f o x, z ∉ o → sv' z = cntN N z ∧ lv' z = lgsN N z) ∧ (∀ z ∈ O, z ∉ dfs N f o x → sv' z = 0 ∧ lv' z = 0) ∧ Ch (Ki xb gO gS gL) w w'
set_option maxRecDepth 100000 in
set_option maxHeartbeats 8000000 in
theorem ivisit_fin (xb gO gS gL cO cS cL : Nat) (aD : Option Addr) (cD : Nat) (LD : List NdP) (N : List Nd) (O : List Nat) (f : Nat) (ih : InsC xb gO gS gL cO cS cL aD cD LD N O f) (hN : Dn N) (hNe : NeOk N) (hnd : O.Nodup) (hO : ∀ z ∈ O, z < N.length) (hc : ∀ z ∈ O, ∀ j ∈ nxs N z, j ∈ O) (hM : ndsOf LD = numM N O) (hl : N.length ≤ 200000) (hnl : ∀ z, z < N.length → (ndG N z).nx.length ≤ 100000)
    (x : Nat) (o : List Nat) (op : Nat → Bool) (sv lv : Nat → Nat) (w : World) (hxf : x ≤ f) (hx : x ∈ O) (hxo : x ∉ o) (ho : o.Nodup) (ho2 : ∀ z ∈ o, z < N.length) (hp : dfs N (f + 1) o x <+: O) (hI : InS w xb gO gS gL cO cS cL aD cD LD.length O o.length op sv lv) (hop : ∀ z, op z = true → x < z)
    (hdone : ∀ z ∈ o, op z = false → sv z = cntN N z ∧ lv z = lgsN N z) (hnew : ∀ z ∈ O, z ∉ o → op z = false ∧ sv z = 0 ∧ lv z = 0) (hR : ∀ w', Ch (Ki xb gO gS gL) w w' → DgRd w' aD LD) (lt : ByteArray) (nx0 : List Int) (hgN : ndG N x = ⟨true, lt, nx0⟩) :
    Calls Tryz.prog 53 #[.pointer (some ⟨xb, 0, none⟩), .int .i64 (O.idxOf x : Nat)] w fun e w' => e = .returned (.bool (decide (0 < cntN N x) || decide (O.idxOf x = 0))) ∧ ∃ sv' lv', InS w' xb gO gS gL cO cS cL aD cD LD.length O (dfs N (f + 1) o x).length op sv' lv' ∧
      (∀ z ∈ o, sv' z = sv z ∧ lv' z = lv z) ∧ (∀ z ∈ dfs N (f + 1) o x, z ∉ o → sv' z = cntN N z ∧ lv' z = lgsN N z) ∧ (∀ z ∈ O, z ∉ dfs N (f + 1) o x → sv' z = 0 ∧ lv' z = 0) ∧ Ch (Ki xb gO gS gL) w w' := by
  have hxN := hO x hx
  have HORD := hid (fun i => ordI_ok hN hxN hxf hxo ho ho2 i)
  have hall := ordI_all (N := N) (f := f) hxo
  have hlx : (nxs N x).length = nx0.length := by unfold nxs; rw [hgN, List.length_map]
  have hpre : ∀ i, ordI N f o x i <+: O := fun i => by
    refine List.IsPrefix.trans ?_ hp
    rw [← hall]
    unfold ordI
    rw [List.take_length]
    conv => rhs; rw [← List.take_append_drop i (nxs N x), List.foldl_append]
    exact fold_pre N f _ _
  have hk0 : O.idxOf x = o.length := by rw [idxOf_pre ((HORD.out 0).2.2.2.2.trans (hpre 0)) (by simp), idxOf_new hxo]
  have hol : o.length < O.length := by rw [← hk0]; exact List.idxOf_lt_length_of_mem hx
  have hOl : O.length ≤ N.length := nodup_len hnd hO
  have hLD : LD.length = O.length := by rw [← ndsOf_length LD, hM, numM_len]
  obtain ⟨p0, hp0⟩ : ∃ p, ndAt LD o.length = p := ⟨_, rfl⟩
  obtain ⟨nd0, pa, pc⟩ := p0
  have hnd0 : nd0 = ⟨true, lt, nx0.map fun j => (O.idxOf j.toNat : Int)⟩ := by
    have h1 := ndG_nd LD o.length
    rw [hp0, hM, ← hk0, numM_at hx] at h1
    unfold numN at h1
    rw [hgN] at h1
    exact h1.symm
  subst hnd0
  have HPM : Hid (⟨⟨true, lt, nx0.map fun j => (O.idxOf j.toNat : Int)⟩, pa, pc⟩ ∈ LD) := hid (by rw [← hp0]; exact ndAt_mem LD _ (by omega))
  obtain ⟨bN, oN, rfl, -⟩ := (hR w (Ch.refl _ _)).1.nds (by omega)
  obtain ⟨q, hq⟩ : ∃ q, oN + o.length * 3 = q := ⟨_, rfl⟩
  have HND : Hid (∀ w', Ch (Ki xb gO gS gL) w w' → w'.cell? ⟨bN, q, none⟩ = some (.bool true) ∧ w'.cell? ⟨bN, q + 1, none⟩ = some (.string lt) ∧ w'.cell? ⟨bN, q + 2, none⟩ = some (.slice pa nx0.length pc)) := hid (by
    intro w' hb
    obtain ⟨b9, o9, e9, hcl⟩ := (hR w' hb).1.nds (by omega)
    simp only [Option.some.injEq, Addr.mk.injEq, and_true] at e9
    obtain ⟨rfl, rfl⟩ := e9
    obtain ⟨x0, x1, x2⟩ := hcl o.length (by omega)
    rw [hp0, hq] at x0 x1 x2
    simp only [List.length_map] at x2
    exact ⟨x0, x1, x2⟩)
  have hnxl : nx0.length ≤ 100000 := by have := hnl x hxN; rw [hgN] at this; exact this
  have HI1 := hid (hI.setM (o.length + 1))
  have HI2 := hid ((hI.setM (o.length + 1)).setO hnd hx true)
  have HC2 : Hid (Ch (Ki xb gO gS gL) w ((w.setCell ⟨xb, 1, none⟩ (.int .i64 ((o.length + 1 : Nat) : Int))).setCell ⟨gO, O.idxOf x, none⟩ (.bool true))) := hid (((Ch.set w xb 1 _).mono (fun b _ e => .inl e)).next (Ch.set _ gO _ _) (fun b _ e => .inr (.inl e)))
  have c0 := hI.bx.cell (i := 0) rfl
  have c1 := hI.bx.cell (i := 1) rfl
  have c2 := hI.bx.cell (i := 2) rfl
  have c3 := hI.bx.cell (i := 3) rfl
  have c4 := hI.bx.cell (i := 4) rfl
  have cf := hI.bx.free 1
  obtain ⟨o0, of0⟩ := hI.atO hx
  obtain ⟨s0, sf0⟩ := hI.atS hx
  obtain ⟨l0, lf0⟩ := hI.atL hx
  obtain ⟨n1, n2, n3, n4, n5, n6⟩ := hI.ne
  obtain ⟨y0, y1, y2⟩ := HND.out _ HC2.out
  have h3 := hI.po.1
  have hxl := hI.bx.lt
  have hsl := hI.ps.1
  have hll := hI.pl.1
  rw [hk0] at o0 of0 s0 sf0 l0 lf0 y0 y1 y2 HC2 HI2
  rw [show ((o.length + 1 : Nat) : Int) = (o.length : Int) + 1 from rfl] at y0 y1 y2 HC2 HI2
  have hol2 : (o.length : Int) < (O.length : Int) := by omega
  rw [hk0]
  clear hI
  obtain ⟨W4, hW4⟩ : ∃ W, ((((w.setCell ⟨xb, 1, none⟩ (.int .i64 ((o.length : Int) + 1))).setCell ⟨gO, o.length, none⟩ (.bool true)).setCell ⟨gS, o.length, none⟩ (.int .i64 1)).alloc (.cells #[.bool true, .string lt, .slice pa nx0.length pc] 92)) = W := ⟨_, rfl⟩
  have HI4 : Hid (InS W4 xb gO gS gL cO cS cL (some ⟨bN, oN, none⟩) cD LD.length O (ordI N f o x 0).length (updF op x true) (updF sv x (cntI N x 0)) lv) := hid (by
    rw [← hW4, ordI_zero, List.length_append, List.length_singleton, cntI_zero, hgN]
    have h := (HI2.out.setS hnd hx 1).ext ((Ext.refl _).alloc (.cells #[.bool true, .string lt, .slice pa nx0.length pc] 92))
    rw [hk0] at h
    exact h)
  have HC4 : Hid (Ch (Ki xb gO gS gL) w W4) := hid (by
    rw [← hW4]
    exact (HC2.out.next (Ch.set _ gS _ _) (fun b _ e => .inr (.inr (.inl e)))).thenExt ((Ext.refl _).alloc _))
  have HB4 : Hid (Bx W4 w.heap.size 92 [.bool true, .string lt, .slice pa nx0.length pc]) := hid (by
    rw [← hW4]
    have h := Bx.new ((((w.setCell ⟨xb, 1, none⟩ (.int .i64 ((o.length : Int) + 1))).setCell ⟨gO, o.length, none⟩ (.bool true)).setCell ⟨gS, o.length, none⟩ (.int .i64 1))) 92 [.bool true, .string lt, .slice pa nx0.length pc]
    simpa using h)
  have hv1 : (updF sv x (cntI N x 0)) x = cntI N x 0 ∧ lv x = lgsI N x 0 := ⟨updF_same _ _ _, by rw [(hnew x hx hxo).2.2, lgsI_zero]⟩
  have hv2 : ∀ z ∈ o, (updF sv x (cntI N x 0)) z = sv z := fun z hz => updF_other (fun e => hxo (e ▸ hz))
  have hv3 : ∀ z ∈ ordI N f o x 0, z ∉ o → z ≠ x → (updF sv x (cntI N x 0)) z = cntN N z ∧ lv z = lgsN N z := fun z hz h1 h2 => by
    rw [ordI_zero] at hz
    rcases List.mem_append.1 hz with h | h
    · exact absurd h h1
    · simp at h
      exact absurd h h2
  have hv4 : ∀ z ∈ O, z ∉ ordI N f o x 0 → (updF sv x (cntI N x 0)) z = 0 ∧ lv z = 0 := fun z hz h => by
    rw [ordI_zero] at h
    have h1 : z ∉ o := fun q => h (List.mem_append.2 (.inl q))
    have h2 : z ≠ x := fun q => h (by simp [q])
    rw [updF_other h2]
    exact (hnew z hz h1).2
  have HV1 := hid hv1
  have HV2 := hid hv2
  have HV3 := hid hv3
  have HV4 := hid hv4
  have HW4 := hid hW4
  have HIH := hid ih
  have HOP := hid hop
  have HDO := hid hdone
  have HNW := hid hnew
  have HR := hid hR
  have HNN := hid hN
  have HNE := hid hNe
  have HGN := hid hgN
  have HPRE := hid hpre
  have HALL := hid hall
  have HK0 := hid hk0
  have HCL := hid hc
  have hed : (edg N x).length = nx0.length := by rw [edg_len hN hxN, hgN]
  have HED := hid hed
  have HLE := hid (fun i h => lgsI_le N (k := x) (i := i) hN hxN h)
  clear hW4 ih hop hdone hnew hR hv1 hv2 hv3 hv4 hgN hpre hall hk0 hp0 hM hc hed hp HI1 HI2 HC2
  go_enter Tryz.func53, Tryz.ntmps53
  go_wp2_with fail
  rw [HW4.out]
  clear HW4 y0 y1 y2 c0 c1 c2 c3 c4 cf o0 of0 s0 sf0 l0 lf0
  go_loopw [60] (fun v60 wr => ∃ (i : Nat) (sv1 lv1 : Nat → Nat), v60 = .int .i64 (i : Int) ∧ i ≤ nx0.length ∧ Hid (InS wr xb gO gS gL cO cS cL (some ⟨bN, oN, none⟩) cD LD.length O (ordI N f o x i).length (updF op x true) sv1 lv1) ∧ Hid (sv1 x = cntI N x i ∧ lv1 x = lgsI N x i) ∧ Hid (∀ z ∈ o, sv1 z = sv z ∧ lv1 z = lv z) ∧
    Hid (∀ z ∈ ordI N f o x i, z ∉ o → z ≠ x → sv1 z = cntN N z ∧ lv1 z = lgsN N z) ∧ Hid (∀ z ∈ O, z ∉ ordI N f o x i → sv1 z = 0 ∧ lv1 z = 0) ∧ Hid (Ch (Ki xb gO gS gL) w wr) ∧ Hid (Bx wr w.heap.size 92 [.bool true, .string lt, .slice pa nx0.length pc])) (fun v60 _ => nx0.length - (intOf v60).toNat)
  case atStart => exact ⟨0, _, _, rfl, by omega, HI4, HV1, hid (fun z hz => ⟨HV2.out z hz, rfl⟩), HV3, HV4, HC4, HB4⟩
  case round =>
    clear HI4 HV1 HV2 HV3 HV4 HC4 HB4
    obtain ⟨i, sv1, lv1, rfl, hi, HI, HV1, HV2, HV3, HV4, HCH, HB⟩ := hrel
    by_cases hil : i < nx0.length
    · obtain ⟨bx, ox, rfl, hcx⟩ := ((HR.out wr HCH.out).2 _ HPM.out).int (show 0 < (nx0.map fun j => (O.idxOf j.toNat : Int)).length by rw [List.length_map]; omega)
      have hcj := hcx i (by rw [List.length_map]; exact hil)
      rw [List.getElem_map] at hcj
      clear hcx
      obtain ⟨y, hy⟩ : ∃ y, (nx0[i]).toNat = y := ⟨_, rfl⟩
      rw [hy] at hcj
      have hyn : y ∈ nxs N x := by unfold nxs; rw [HGN.out, ← hy]; exact List.mem_map_of_mem (List.getElem_mem hil)
      have hyx : y < x := HNN.out.nxs hxN y hyn
      have hyO := HCL.out x hx y hyn
      have hyne := HNE.out x hxN y hyn
      have he2 : ((edg N x)[i]'(by rw [HED.out]; exact hil)).2 = y := by
        have := edg_at HNN.out hxN (i := i) (by rw [HGN.out]; exact hil)
        rw [this]
        simp only [HGN.out]
        exact hy
      have hcs := cntI_succ (N := N) (k := x) (i := i) (by rw [HED.out]; exact hil)
      have hls := lgsI_succ (N := N) (k := x) (i := i) (by rw [HED.out]; exact hil) (by rw [he2]; exact hyne)
      rw [he2] at hcs hls
      have hos : ordI N f o x (i + 1) = dfs N f (ordI N f o x i) y := by
        have h2 : i < (nxs N x).length := by omega
        rw [ordI_succ h2]
        congr 1
        unfold nxs
        simp only [HGN.out, List.getElem_map]
        exact hy
      obtain ⟨q1, q2, q3, q4, q5⟩ := HORD.out i
      have hxi : x ∈ ordI N f o x i := mem_pre q5 (by simp)
      have hoi : ∀ z ∈ o, z ∈ ordI N f o x i := fun z hz => mem_pre q5 (by simp [hz])
      have hyp : updF op x true y = false := by
        rw [updF_other (by omega)]
        cases hq2 : op y
        · rfl
        · have := HOP.out y hq2
          omega
      have hyo : ∀ (h : y ∈ o), sv y = cntN N y ∧ lv y = lgsN N y := fun h => HDO.out y h (by rw [← updF_other (f := op) (v := true) (show y ≠ x by omega)]; exact hyp)
      have HCALL : Hid (Calls Tryz.prog 53 #[.pointer (some ⟨xb, 0, none⟩), .int .i64 (O.idxOf y : Nat)] wr fun e w5 => e = .returned (.bool true) ∧ ∃ sv2 lv2, InS w5 xb gO gS gL cO cS cL (some ⟨bN, oN, none⟩) cD LD.length O (ordI N f o x (i + 1)).length (updF op x true) sv2 lv2 ∧ (sv2 x = cntI N x i ∧ lv2 x = lgsI N x i) ∧ (∀ z ∈ o, sv2 z = sv z ∧ lv2 z = lv z) ∧
          (∀ z ∈ ordI N f o x (i + 1), z ∉ o → z ≠ x → sv2 z = cntN N z ∧ lv2 z = lgsN N z) ∧ (∀ z ∈ O, z ∉ ordI N f o x (i + 1) → sv2 z = 0 ∧ lv2 z = 0) ∧ (sv2 y = cntN N y ∧ lv2 y = lgsN N y) ∧ Ch (Ki xb gO gS gL) wr w5) := hid (by
        by_cases hyi : y ∈ ordI N f o x i
        · have hde : ordI N f o x (i + 1) = ordI N f o x i := by
            rw [hos]
            cases f with
            | zero => omega
            | succ f => rw [dfs, if_pos hyi]
          have hym : O.idxOf y < (ordI N f o x i).length := by
            rw [idxOf_pre (HPRE.out i) hyi]
            exact List.idxOf_lt_length_of_mem hyi
          rw [hde]
          refine (ivisit_old xb gO gS gL cO cS cL _ cD LD.length O _ _ sv1 lv1 y wr HI.out hyO hym hyp (by omega)).mono ?_
          rintro e w5 ⟨rfl, hx5⟩
          refine ⟨rfl, sv1, lv1, HI.out.ext hx5, HV1.out, HV2.out, HV3.out, HV4.out, ?_, Ch.of_ext _ hx5⟩
          by_cases hyo2 : y ∈ o
          · rw [(HV2.out y hyo2).1, (HV2.out y hyo2).2]
            exact hyo hyo2
          · exact HV3.out y hyi hyo2 (by omega)
        · have h := HIH.out y (ordI N f o x i) (updF op x true) sv1 lv1 wr (by omega) hyO hyi q1 q2 (by rw [← hos]; exact HPRE.out (i + 1)) HI.out
            (fun z hz => by
              by_cases e : z = x
              · omega
              · rw [updF_other e] at hz
                have := HOP.out z hz
                omega)
            (fun z hz hzo => by
              have hzx : z ≠ x := fun e => by rw [e, updF_same] at hzo; cases hzo
              rw [updF_other hzx] at hzo
              by_cases hz2 : z ∈ o
              · rw [(HV2.out z hz2).1, (HV2.out z hz2).2]
                exact HDO.out z hz2 hzo
              · exact HV3.out z hz hz2 hzx)
            (fun z hz hzi => by
              have hzx : z ≠ x := fun e => hzi (e ▸ hxi)
              rw [updF_other hzx]
              exact ⟨(HNW.out z hz (fun q => hzi (hoi z q))).1, HV4.out z hz hzi⟩)
            (fun w' k => HR.out w' (HCH.out.trans k))
          rw [← hos] at h
          refine h.mono ?_
          rintro e w5 ⟨rfl, sv2, lv2, k1, k2, k3, k4, k5⟩
          have hyi1 : y ∈ ordI N f o x (i + 1) := by
            rw [hos]
            cases f with
            | zero => omega
            | succ f => exact dfs_mem _ _ _ _
          refine ⟨by rw [decide_eq_true (cntN_pos hyne)]; rfl, sv2, lv2, k1, ?_, fun z hz => ?_, fun z hz h1 h2 => ?_, k4, k3 y hyi1 hyi, k5⟩
          · rw [(k2 x hxi).1, (k2 x hxi).2]
            exact HV1.out
          · rw [(k2 z (hoi z hz)).1, (k2 z (hoi z hz)).2]
            exact HV2.out z hz
          · by_cases hz2 : z ∈ ordI N f o x i
            · rw [(k2 z hz2).1, (k2 z hz2).2]
              exact HV3.out z hz2 h1 h2
            · exact k3 z hz hz2)
      have hxi1 : x ∈ ordI N f o x (i + 1) := mem_pre (HORD.out (i + 1)).2.2.2.2 (by simp)
      have hc1 := cntI_le N x i
      have hc2 := cntN_le N y
      have hl1 := HLE.out i (by rw [HED.out]; omega)
      have hl2 := lgsN_le N y
      have hjl := List.idxOf_lt_length_of_mem hyO
      have hjk : O.idxOf y ≠ o.length := fun e => by
        have a1 := List.getElem_idxOf (List.idxOf_lt_length_of_mem hyO)
        have a2 := List.getElem_idxOf (List.idxOf_lt_length_of_mem hx)
        have a3 : O.idxOf y = O.idxOf x := by rw [e, HK0.out]
        have : y = x := by rw [← a1, ← a2]; simp only [a3]
        omega
      obtain ⟨j, hj⟩ : ∃ j, O.idxOf y = j := ⟨_, rfl⟩
      have HJ := hid hj
      rw [hj] at hcj HCALL hjl hjk
      obtain ⟨p1, hp1⟩ : ∃ p, ox + i = p := ⟨_, rfl⟩
      rw [hp1] at hcj
      obtain ⟨A, hA⟩ : ∃ A, cntI N x i = A := ⟨_, rfl⟩
      obtain ⟨D, hD⟩ : ∃ D, cntN N y = D := ⟨_, rfl⟩
      obtain ⟨E, hE⟩ : ∃ E, lgsI N x i = E := ⟨_, rfl⟩
      obtain ⟨G, hG⟩ : ∃ G, lgsN N y = G := ⟨_, rfl⟩
      rw [hA, hD] at hcs
      rw [hE, hG] at hls
      rw [hA] at hc1
      rw [hD] at hc2
      rw [hE] at hl1
      rw [hG] at hl2
      rw [hA, hD, hE, hG] at HCALL
      have HCS := hid hcs
      have HLS := hid hls
      have d0 := HB.out.cell (i := 0) rfl
      have d2 := HB.out.cell (i := 2) rfl
      have hszw := HCH.out.size
      clear hy he2 hcs hls hos q1 q2 q3 q4 q5 hoi hyp hyo hj hA hD hE hG hyne hyn hxi HIH HDO
      go_wp2_with fail
      with_reducible refine HCALL.out.mono ?_
      rintro e w5 ⟨rfl, sv2, lv2, k1, k2, k3, k4, k5, k6, k7⟩
      obtain ⟨mm, hmm⟩ : ∃ m, (ordI N f o x (i + 1)).length = m := ⟨_, rfl⟩
      have HMM := hid hmm
      rw [hmm] at k1
      have K1 := hid k1
      have K2 := hid k2
      have K3 := hid k3
      have K4 := hid k4
      have K5 := hid k5
      have K6 := hid k6
      have K7 := hid k7
      have c0 := k1.bx.cell (i := 0) rfl
      have c1 := k1.bx.cell (i := 1) rfl
      have c2 := k1.bx.cell (i := 2) rfl
      have c3 := k1.bx.cell (i := 3) rfl
      have c4 := k1.bx.cell (i := 4) rfl
      obtain ⟨s0, sf0⟩ := k1.atS hx
      obtain ⟨s1, -⟩ := k1.atS hyO
      rw [HK0.out, k2.1] at s0
      rw [HK0.out] at sf0
      rw [HJ.out, k6.1] at s1
      have hz5 := k7.size
      have u1 : IntKind.i64.wrap ((A : Int) + (D : Int)) = (A : Int) + (D : Int) := IntWalk.i64_in _ (by omega)
      obtain ⟨S, hS⟩ : ∃ S, min (A + D) 3001 = S := ⟨_, rfl⟩
      have hSi : (if 3001 < (A : Int) + (D : Int) then 3001 else (A : Int) + (D : Int)) = (S : Int) := by split <;> omega
      have HSI := hid hSi
      have HS := hid hS
      clear hmm k1 k2 k3 k4 k5 k6 k7 hcj HCALL d0 d2 hS hSi
      go_wp2_with fail
      refine wp_region_flow_at (C := Ext) 22 [fun v _ => v = .pointer (some ⟨xb, 0, none⟩), fun v _ => v = .pointer (some ⟨xb, 0, none⟩), fun v _ => v = .pointer (some ⟨xb, 3, none⟩), fun v _ => v = .slice (some ⟨gS, 0, none⟩) O.length cS, fun v _ => v = .int .i64 (o.length : Int), fun v _ => v = .pointer (some ⟨xb, 0, none⟩), fun v _ => v = .pointer (some ⟨xb, 0, none⟩), fun v _ => v = .pointer (some ⟨xb, 3, none⟩), fun v _ => v = .slice (some ⟨gS, 0, none⟩) O.length cS, fun v _ => v = .int .i64 (o.length : Int), fun v _ => v = .pointer (some ⟨gS, o.length, none⟩), fun v _ => v = .int .i64 (A : Int), fun v _ => v = .pointer (some ⟨xb, 0, none⟩), fun v _ => v = .pointer (some ⟨xb, 0, none⟩), fun v _ => v = .pointer (some ⟨xb, 3, none⟩), fun v _ => v = .slice (some ⟨gS, 0, none⟩) O.length cS, fun v _ => v = .int .i64 (j : Int), fun v _ => v = .pointer (some ⟨gS, j, none⟩), fun v _ => v = .int .i64 (D : Int), fun v _ => v = .int .i64 ((A : Int) + (D : Int)), fun v _ => v = .int .i64 (S : Int), fun v _ => v = .pointer (some ⟨gS, o.length, none⟩)]
        [[(0, none)], [(68, some 0)], [(69, some 1)], [(70, some 2)], [(1, none)], [(0, none)], [(73, some 5)], [(74, some 6)], [(75, some 7)], [(1, none)], [(76, some 8), (77, some 9)], [(78, some 10)], [(0, none)], [(80, some 12)], [(81, some 13)], [(82, some 14)], [(7, none)], [(83, some 15), (84, some 16)], [(85, some 17)], [(79, some 11), (86, some 18)], [(87, some 19)], [(71, some 3), (72, some 4)]] (by kernel_rfl) (by kernel_rfl) Ext.refl (fun _ _ _ => Ext.trans) ?_ ?_ ?_
      · intro F hF
        simp only [List.mem_cons, List.not_mem_nil, or_false] at hF
        rcases hF with rfl | rfl | rfl | rfl | rfl | rfl | rfl | rfl | rfl | rfl | rfl | rfl | rfl | rfl | rfl | rfl | rfl | rfl | rfl | rfl | rfl | rfl <;> exact fun _ _ _ h _ => h
      · refine ⟨?_, ?_, ?_, ?_, ?_, ?_, ?_, ?_, ?_, ?_, ?_, ?_, ?_, ?_, ?_, ?_, ?_, ?_, ?_, ?_, ?_, ?_, trivial⟩
        · rintro ρ w1 hw hcst hfn hk
          clear hw
          simp only [known, List.getD_cons_zero, List.getD_cons_succ, Nat.reduceAdd] at hk
          simp only [List.getD_cons_zero, List.getD_cons_succ, Nat.reduceAdd, flowAt]
          go_simp
          exact ⟨Ext.refl _, by first | rfl | trivial⟩
        · rintro ρ w1 hw hcst hfn hk
          clear hw
          simp only [known, List.getD_cons_zero, List.getD_cons_succ, Nat.reduceAdd] at hk
          simp only [List.getD_cons_zero, List.getD_cons_succ, Nat.reduceAdd, flowAt]
          go_simp
          exact ⟨Ext.refl _, by first | rfl | trivial⟩
        · rintro ρ w1 hw hcst hfn hk
          clear hw
          simp only [known, List.getD_cons_zero, List.getD_cons_succ, Nat.reduceAdd] at hk
          simp only [List.getD_cons_zero, List.getD_cons_succ, Nat.reduceAdd, flowAt]
          go_simp
          exact ⟨Ext.refl _, by first | rfl | trivial⟩
        · rintro ρ w1 hw hcst hfn hk
          have c0 := hw.cell (b := xb) (o := 3) (v := .slice (some ⟨gS, 0, none⟩) O.length cS) (by first | (simp [*]; done) | (simp [*, go_sem]; done) | go_cell)
          clear hw
          simp only [known, List.getD_cons_zero, List.getD_cons_succ, Nat.reduceAdd] at hk
          simp only [List.getD_cons_zero, List.getD_cons_succ, Nat.reduceAdd, flowAt]
          go_simp
          exact ⟨Ext.refl _, by first | rfl | trivial⟩
        · rintro ρ w1 hw hcst hfn hk
          clear hw
          simp only [known, List.getD_cons_zero, List.getD_cons_succ, Nat.reduceAdd] at hk
          simp only [List.getD_cons_zero, List.getD_cons_succ, Nat.reduceAdd, flowAt]
          go_simp
          exact ⟨Ext.refl _, by first | rfl | trivial⟩
        · rintro ρ w1 hw hcst hfn hk
          clear hw
          simp only [known, List.getD_cons_zero, List.getD_cons_succ, Nat.reduceAdd] at hk
          simp only [List.getD_cons_zero, List.getD_cons_succ, Nat.reduceAdd, flowAt]
          go_simp
          exact ⟨Ext.refl _, by first | rfl | trivial⟩
        · rintro ρ w1 hw hcst hfn hk
          clear hw
          simp only [known, List.getD_cons_zero, List.getD_cons_succ, Nat.reduceAdd] at hk
          simp only [List.getD_cons_zero, List.getD_cons_succ, Nat.reduceAdd, flowAt]
          go_simp
          exact ⟨Ext.refl _, by first | rfl | trivial⟩
        · rintro ρ w1 hw hcst hfn hk
          clear hw
          simp only [known, List.getD_cons_zero, List.getD_cons_succ, Nat.reduceAdd] at hk
          simp only [List.getD_cons_zero, List.getD_cons_succ, Nat.reduceAdd, flowAt]
          go_simp
          exact ⟨Ext.refl _, by first | rfl | trivial⟩
        · rintro ρ w1 hw hcst hfn hk
          have c0 := hw.cell (b := xb) (o := 3) (v := .slice (some ⟨gS, 0, none⟩) O.length cS) (by first | (simp [*]; done) | (simp [*, go_sem]; done) | go_cell)
          clear hw
          simp only [known, List.getD_cons_zero, List.getD_cons_succ, Nat.reduceAdd] at hk
          simp only [List.getD_cons_zero, List.getD_cons_succ, Nat.reduceAdd, flowAt]
          go_simp
          exact ⟨Ext.refl _, by first | rfl | trivial⟩
        · rintro ρ w1 hw hcst hfn hk
          clear hw
          simp only [known, List.getD_cons_zero, List.getD_cons_succ, Nat.reduceAdd] at hk
          simp only [List.getD_cons_zero, List.getD_cons_succ, Nat.reduceAdd, flowAt]
          go_simp
          exact ⟨Ext.refl _, by first | rfl | trivial⟩
        · rintro ρ w1 hw hcst hfn hk
          simp only [known, List.getD_cons_zero, List.getD_cons_succ, Nat.reduceAdd] at hk
          simp only [List.getD_cons_zero, List.getD_cons_succ, Nat.reduceAdd, flowAt]
          go_simp
          first | exact ⟨Ext.refl _, rfl⟩ | (rw [if_pos (by omega)]; exact ⟨Ext.refl _, by first | rfl | rw [Nat.zero_add]⟩)
        · rintro ρ w1 hw hcst hfn hk
          have c0 := hw.cell (b := gS) (o := o.length) (v := .int .i64 (A : Int)) (by first | (simp [*]; done) | (simp [*, go_sem]; done) | go_cell)
          clear hw
          simp only [known, List.getD_cons_zero, List.getD_cons_succ, Nat.reduceAdd] at hk
          simp only [List.getD_cons_zero, List.getD_cons_succ, Nat.reduceAdd, flowAt]
          go_simp
          exact ⟨Ext.refl _, by first | rfl | trivial⟩
        · rintro ρ w1 hw hcst hfn hk
          clear hw
          simp only [known, List.getD_cons_zero, List.getD_cons_succ, Nat.reduceAdd] at hk
          simp only [List.getD_cons_zero, List.getD_cons_succ, Nat.reduceAdd, flowAt]
          go_simp
          exact ⟨Ext.refl _, by first | rfl | trivial⟩
        · rintro ρ w1 hw hcst hfn hk
          clear hw
          simp only [known, List.getD_cons_zero, List.getD_cons_succ, Nat.reduceAdd] at hk
          simp only [List.getD_cons_zero, List.getD_cons_succ, Nat.reduceAdd, flowAt]
          go_simp
          exact ⟨Ext.refl _, by first | rfl | trivial⟩
        · rintro ρ w1 hw hcst hfn hk
          clear hw
          simp only [known, List.getD_cons_zero, List.getD_cons_succ, Nat.reduceAdd] at hk
          simp only [List.getD_cons_zero, List.getD_cons_succ, Nat.reduceAdd, flowAt]
          go_simp
          exact ⟨Ext.refl _, by first | rfl | trivial⟩
        · rintro ρ w1 hw hcst hfn hk
          have c0 := hw.cell (b := xb) (o := 3) (v := .slice (some ⟨gS, 0, none⟩) O.length cS) (by first | (simp [*]; done) | (simp [*, go_sem]; done) | go_cell)
          clear hw
          simp only [known, List.getD_cons_zero, List.getD_cons_succ, Nat.reduceAdd] at hk
          simp only [List.getD_cons_zero, List.getD_cons_succ, Nat.reduceAdd, flowAt]
          go_simp
          exact ⟨Ext.refl _, by first | rfl | trivial⟩
        · rintro ρ w1 hw hcst hfn hk
          clear hw
          simp only [known, List.getD_cons_zero, List.getD_cons_succ, Nat.reduceAdd] at hk
          simp only [List.getD_cons_zero, List.getD_cons_succ, Nat.reduceAdd, flowAt]
          go_simp
          exact ⟨Ext.refl _, by first | rfl | trivial⟩
        · rintro ρ w1 hw hcst hfn hk
          simp only [known, List.getD_cons_zero, List.getD_cons_succ, Nat.reduceAdd] at hk
          simp only [List.getD_cons_zero, List.getD_cons_succ, Nat.reduceAdd, flowAt]
          go_simp
          first | exact ⟨Ext.refl _, rfl⟩ | (rw [if_pos (by omega)]; exact ⟨Ext.refl _, by first | rfl | rw [Nat.zero_add]⟩)
        · rintro ρ w1 hw hcst hfn hk
          have c0 := hw.cell (b := gS) (o := j) (v := .int .i64 (D : Int)) (by first | (simp [*]; done) | (simp [*, go_sem]; done) | go_cell)
          clear hw
          simp only [known, List.getD_cons_zero, List.getD_cons_succ, Nat.reduceAdd] at hk
          simp only [List.getD_cons_zero, List.getD_cons_succ, Nat.reduceAdd, flowAt]
          go_simp
          exact ⟨Ext.refl _, by first | rfl | trivial⟩
        · rintro ρ w1 hw hcst hfn hk
          simp only [known, List.getD_cons_zero, List.getD_cons_succ, Nat.reduceAdd] at hk
          simp only [List.getD_cons_zero, List.getD_cons_succ, Nat.reduceAdd, flowAt]
          go_simp
          exact ⟨Ext.refl _, by first | rfl | rw [u1]⟩
        · rintro ρ w1 hw hcst hfn hk
          simp only [known, List.getD_cons_zero, List.getD_cons_succ, Nat.reduceAdd] at hk
          simp only [List.getD_cons_zero, List.getD_cons_succ, Nat.reduceAdd, flowAt]
          go_simp
          exact ⟨Ext.refl _, by show Value.int .i64 _ = Value.int .i64 _; rw [HSI.out]⟩
        · rintro ρ w1 hw hcst hfn hk
          simp only [known, List.getD_cons_zero, List.getD_cons_succ, Nat.reduceAdd] at hk
          simp only [List.getD_cons_zero, List.getD_cons_succ, Nat.reduceAdd, flowAt]
          go_simp
          first | exact ⟨Ext.refl _, rfl⟩ | (rw [if_pos (by omega)]; exact ⟨Ext.refl _, by first | rfl | rw [Nat.zero_add]⟩)
      intro vs w1 hw hf
      simp only [flowFacts, Nat.reduceAdd] at hf
      obtain ⟨e0, e1, e2, e3, e4, e5, e6, e7, e8, e9, e10, e11, e12, e13, e14, e15, e16, e17, e18, e19, e20, e21, -⟩ := hf
      simp only [List.take_succ_cons, List.take_zero, List.drop_succ_cons, List.drop_zero, putAll, Act.put, Nat.reduceAdd, List.setIfInBounds_toArray, List.set_cons_zero, List.set_cons_succ, e0, e1, e2, e3, e4, e5, e6, e7, e8, e9, e10, e11, e12, e13, e14, e15, e16, e17, e18, e19, e20, e21]
      clear e0 e1 e2 e3 e4 e5 e6 e7 e8 e9 e10 e11 e12 e13 e14 e15 e16 e17 e18 e19 e20 e21
      have hx6 := (Ext.refl _).drew.trans hw
      have K8 := hid (((K1.out.ext hx6).setS hnd hx S))
      have K9 := hid (((K7.out.thenExt hx6).next (J := fun b => b = gS) (Ch.set w1 gS (O.idxOf x) (.int .i64 (S : Int))) (fun b _ e => .inr (.inr (.inl e)))))
      rw [HK0.out] at K8 K9
      replace s0 := hx6.cell s0
      have sf1 : w1.frozen? ⟨gS, o.length, none⟩ = false := by rw [hx6.cells.2 _ _ (by omega)]; exact sf0
      have hz6 := hx6.size
      clear hw hx6 c0 c1 c2 c3 c4 s1 sf0
      go_wp2_with fail
      obtain ⟨W6, hW6⟩ : ∃ W, w1.setCell ⟨gS, o.length, none⟩ (.int .i64 (S : Int)) = W := ⟨_, rfl⟩
      rw [hW6] at K8 K9
      rw [hW6]
      have hz7 : W6.heap.size = w1.heap.size := by rw [← hW6]; simp
      clear hW6 s0 sf1
      have c0 := K8.out.bx.cell (i := 0) rfl
      have c1 := K8.out.bx.cell (i := 1) rfl
      have c2 := K8.out.bx.cell (i := 2) rfl
      have c3 := K8.out.bx.cell (i := 3) rfl
      have c4 := K8.out.bx.cell (i := 4) rfl
      obtain ⟨l0, lf0⟩ := K8.out.atL hx
      obtain ⟨l1, -⟩ := K8.out.atL hyO
      rw [HK0.out, K2.out.2] at l0
      rw [HK0.out] at lf0
      rw [HJ.out, K6.out.2] at l1
      have u2 : IntKind.i64.wrap ((G : Int) + 1) = (G : Int) + 1 := IntWalk.i64_in _ (by omega)
      obtain ⟨T, hT⟩ : ∃ T, max E (G + 1) = T := ⟨_, rfl⟩
      have hTi : (if (E : Int) < (G : Int) + 1 then (G : Int) + 1 else (E : Int)) = (T : Int) := by split <;> omega
      have HTI := hid hTi
      have HT := hid hT
      clear hT hTi
      go_wp2_with fail
      refine wp_region_flow_at (C := Ext) 22 [fun v _ => v = .pointer (some ⟨xb, 0, none⟩), fun v _ => v = .pointer (some ⟨xb, 0, none⟩), fun v _ => v = .pointer (some ⟨xb, 4, none⟩), fun v _ => v = .slice (some ⟨gL, 0, none⟩) O.length cL, fun v _ => v = .int .i64 (o.length : Int), fun v _ => v = .pointer (some ⟨xb, 0, none⟩), fun v _ => v = .pointer (some ⟨xb, 0, none⟩), fun v _ => v = .pointer (some ⟨xb, 4, none⟩), fun v _ => v = .slice (some ⟨gL, 0, none⟩) O.length cL, fun v _ => v = .int .i64 (o.length : Int), fun v _ => v = .pointer (some ⟨gL, o.length, none⟩), fun v _ => v = .int .i64 (E : Int), fun v _ => v = .pointer (some ⟨xb, 0, none⟩), fun v _ => v = .pointer (some ⟨xb, 0, none⟩), fun v _ => v = .pointer (some ⟨xb, 4, none⟩), fun v _ => v = .slice (some ⟨gL, 0, none⟩) O.length cL, fun v _ => v = .int .i64 (j : Int), fun v _ => v = .pointer (some ⟨gL, j, none⟩), fun v _ => v = .int .i64 (G : Int), fun v _ => v = .int .i64 ((G : Int) + 1), fun v _ => v = .int .i64 (T : Int), fun v _ => v = .pointer (some ⟨gL, o.length, none⟩)]
        [[(0, none)], [(90, some 0)], [(91, some 1)], [(92, some 2)], [(1, none)], [(0, none)], [(95, some 5)], [(96, some 6)], [(97, some 7)], [(1, none)], [(98, some 8), (99, some 9)], [(100, some 10)], [(0, none)], [(102, some 12)], [(103, some 13)], [(104, some 14)], [(7, none)], [(105, some 15), (106, some 16)], [(107, some 17)], [(108, some 18)], [(101, some 11), (109, some 19)], [(93, some 3), (94, some 4)]] (by kernel_rfl) (by kernel_rfl) Ext.refl (fun _ _ _ => Ext.trans) ?_ ?_ ?_
      · intro F hF
        simp only [List.mem_cons, List.not_mem_nil, or_false] at hF
        rcases hF with rfl | rfl | rfl | rfl | rfl | rfl | rfl | rfl | rfl | rfl | rfl | rfl | rfl | rfl | rfl | rfl | rfl | rfl | rfl | rfl | rfl | rfl <;> exact fun _ _ _ h _ => h
      · refine ⟨?_, ?_, ?_, ?_, ?_, ?_, ?_, ?_, ?_, ?_, ?_, ?_, ?_, ?_, ?_, ?_, ?_, ?_, ?_, ?_, ?_, ?_, trivial⟩
        · rintro ρ w1 hw hcst hfn hk
          clear hw
          simp only [known, List.getD_cons_zero, List.getD_cons_succ, Nat.reduceAdd] at hk
          simp only [List.getD_cons_zero, List.getD_cons_succ, Nat.reduceAdd, flowAt]
          go_simp
          exact ⟨Ext.refl _, by first | rfl | trivial⟩
        · rintro ρ w1 hw hcst hfn hk
          clear hw
          simp only [known, List.getD_cons_zero, List.getD_cons_succ, Nat.reduceAdd] at hk
          simp only [List.getD_cons_zero, List.getD_cons_succ, Nat.reduceAdd, flowAt]
          go_simp
          exact ⟨Ext.refl _, by first | rfl | trivial⟩
        · rintro ρ w1 hw hcst hfn hk
          clear hw
          simp only [known, List.getD_cons_zero, List.getD_cons_succ, Nat.reduceAdd] at hk
          simp only [List.getD_cons_zero, List.getD_cons_succ, Nat.reduceAdd, flowAt]
          go_simp
          exact ⟨Ext.refl _, by first | rfl | trivial⟩
        · rintro ρ w1 hw hcst hfn hk
          have c0 := hw.cell (b := xb) (o := 4) (v := .slice (some ⟨gL, 0, none⟩) O.length cL) (by first | (simp [*]; done) | (simp [*, go_sem]; done) | go_cell)
          clear hw
          simp only [known, List.getD_cons_zero, List.getD_cons_succ, Nat.reduceAdd] at hk
          simp only [List.getD_cons_zero, List.getD_cons_succ, Nat.reduceAdd, flowAt]
          go_simp
          exact ⟨Ext.refl _, by first | rfl | trivial⟩
        · rintro ρ w1 hw hcst hfn hk
          clear hw
          simp only [known, List.getD_cons_zero, List.getD_cons_succ, Nat.reduceAdd] at hk
          simp only [List.getD_cons_zero, List.getD_cons_succ, Nat.reduceAdd, flowAt]
          go_simp
          exact ⟨Ext.refl _, by first | rfl | trivial⟩
        · rintro ρ w1 hw hcst hfn hk
          clear hw
          simp only [known, List.getD_cons_zero, List.getD_cons_succ, Nat.reduceAdd] at hk
          simp only [List.getD_cons_zero, List.getD_cons_succ, Nat.reduceAdd, flowAt]
          go_simp
          exact ⟨Ext.refl _, by first | rfl | trivial⟩
        · rintro ρ w1 hw hcst hfn hk
          clear hw
          simp only [known, List.getD_cons_zero, List.getD_cons_succ, Nat.reduceAdd] at hk
          simp only [List.getD_cons_zero, List.getD_cons_succ, Nat.reduceAdd, flowAt]
          go_simp
          exact ⟨Ext.refl _, by first | rfl | trivial⟩
        · rintro ρ w1 hw hcst hfn hk
          clear hw
          simp only [known, List.getD_cons_zero, List.getD_cons_succ, Nat.reduceAdd] at hk
          simp only [List.getD_cons_zero, List.getD_cons_succ, Nat.reduceAdd, flowAt]
          go_simp
          exact ⟨Ext.refl _, by first | rfl | trivial⟩
        · rintro ρ w1 hw hcst hfn hk
          have c0 := hw.cell (b := xb) (o := 4) (v := .slice (some ⟨gL, 0, none⟩) O.length cL) (by first | (simp [*]; done) | (simp [*, go_sem]; done) | go_cell)
          clear hw
          simp only [known, List.getD_cons_zero, List.getD_cons_succ, Nat.reduceAdd] at hk
          simp only [List.getD_cons_zero, List.getD_cons_succ, Nat.reduceAdd, flowAt]
          go_simp
          exact ⟨Ext.refl _, by first | rfl | trivial⟩
        · rintro ρ w1 hw hcst hfn hk
          clear hw
          simp only [known, List.getD_cons_zero, List.getD_cons_succ, Nat.reduceAdd] at hk
          simp only [List.getD_cons_zero, List.getD_cons_succ, Nat.reduceAdd, flowAt]
          go_simp
          exact ⟨Ext.refl _, by first | rfl | trivial⟩
        · rintro ρ w1 hw hcst hfn hk
          simp only [known, List.getD_cons_zero, List.getD_cons_succ, Nat.reduceAdd] at hk
          simp only [List.getD_cons_zero, List.getD_cons_succ, Nat.reduceAdd, flowAt]
          go_simp
          first | exact ⟨Ext.refl _, rfl⟩ | (rw [if_pos (by omega)]; exact ⟨Ext.refl _, by first | rfl | rw [Nat.zero_add]⟩)
        · rintro ρ w1 hw hcst hfn hk
          have c0 := hw.cell (b := gL) (o := o.length) (v := .int .i64 (E : Int)) (by first | (simp [*]; done) | (simp [*, go_sem]; done) | go_cell)
          clear hw
          simp only [known, List.getD_cons_zero, List.getD_cons_succ, Nat.reduceAdd] at hk
          simp only [List.getD_cons_zero, List.getD_cons_succ, Nat.reduceAdd, flowAt]
          go_simp
          exact ⟨Ext.refl _, by first | rfl | trivial⟩
        · rintro ρ w1 hw hcst hfn hk
          clear hw
          simp only [known, List.getD_cons_zero, List.getD_cons_succ, Nat.reduceAdd] at hk
          simp only [List.getD_cons_zero, List.getD_cons_succ, Nat.reduceAdd, flowAt]
          go_simp
          exact ⟨Ext.refl _, by first | rfl | trivial⟩
        · rintro ρ w1 hw hcst hfn hk
          clear hw
          simp only [known, List.getD_cons_zero, List.getD_cons_succ, Nat.reduceAdd] at hk
          simp only [List.getD_cons_zero, List.getD_cons_succ, Nat.reduceAdd, flowAt]
          go_simp
          exact ⟨Ext.refl _, by first | rfl | trivial⟩
        · rintro ρ w1 hw hcst hfn hk
          clear hw
          simp only [known, List.getD_cons_zero, List.getD_cons_succ, Nat.reduceAdd] at hk
          simp only [List.getD_cons_zero, List.getD_cons_succ, Nat.reduceAdd, flowAt]
          go_simp
          exact ⟨Ext.refl _, by first | rfl | trivial⟩
        · rintro ρ w1 hw hcst hfn hk
          have c0 := hw.cell (b := xb) (o := 4) (v := .slice (some ⟨gL, 0, none⟩) O.length cL) (by first | (simp [*]; done) | (simp [*, go_sem]; done) | go_cell)
          clear hw
          simp only [known, List.getD_cons_zero, List.getD_cons_succ, Nat.reduceAdd] at hk
          simp only [List.getD_cons_zero, List.getD_cons_succ, Nat.reduceAdd, flowAt]
          go_simp
          exact ⟨Ext.refl _, by first | rfl | trivial⟩
        · rintro ρ w1 hw hcst hfn hk
          clear hw
          simp only [known, List.getD_cons_zero, List.getD_cons_succ, Nat.reduceAdd] at hk
          simp only [List.getD_cons_zero, List.getD_cons_succ, Nat.reduceAdd, flowAt]
          go_simp
          exact ⟨Ext.refl _, by first | rfl | trivial⟩
        · rintro ρ w1 hw hcst hfn hk
          simp only [known, List.getD_cons_zero, List.getD_cons_succ, Nat.reduceAdd] at hk
          simp only [List.getD_cons_zero, List.getD_cons_succ, Nat.reduceAdd, flowAt]
          go_simp
          first | exact ⟨Ext.refl _, rfl⟩ | (rw [if_pos (by omega)]; exact ⟨Ext.refl _, by first | rfl | rw [Nat.zero_add]⟩)
        · rintro ρ w1 hw hcst hfn hk
          have c0 := hw.cell (b := gL) (o := j) (v := .int .i64 (G : Int)) (by first | (simp [*]; done) | (simp [*, go_sem]; done) | go_cell)
          clear hw
          simp only [known, List.getD_cons_zero, List.getD_cons_succ, Nat.reduceAdd] at hk
          simp only [List.getD_cons_zero, List.getD_cons_succ, Nat.reduceAdd, flowAt]
          go_simp
          exact ⟨Ext.refl _, by first | rfl | trivial⟩
        · rintro ρ w1 hw hcst hfn hk
          simp only [known, List.getD_cons_zero, List.getD_cons_succ, Nat.reduceAdd] at hk
          simp only [List.getD_cons_zero, List.getD_cons_succ, Nat.reduceAdd, flowAt]
          go_simp
          exact ⟨Ext.refl _, by first | rfl | rw [u2]⟩
        · rintro ρ w1 hw hcst hfn hk
          simp only [known, List.getD_cons_zero, List.getD_cons_succ, Nat.reduceAdd] at hk
          simp only [List.getD_cons_zero, List.getD_cons_succ, Nat.reduceAdd, flowAt]
          go_simp
          exact ⟨Ext.refl _, by show Value.int .i64 _ = Value.int .i64 _; rw [HTI.out]⟩
        · rintro ρ w1 hw hcst hfn hk
          simp only [known, List.getD_cons_zero, List.getD_cons_succ, Nat.reduceAdd] at hk
          simp only [List.getD_cons_zero, List.getD_cons_succ, Nat.reduceAdd, flowAt]
          go_simp
          first | exact ⟨Ext.refl _, rfl⟩ | (rw [if_pos (by omega)]; exact ⟨Ext.refl _, by first | rfl | rw [Nat.zero_add]⟩)
      intro vs w1 hw hf
      simp only [flowFacts, Nat.reduceAdd] at hf
      obtain ⟨e0, e1, e2, e3, e4, e5, e6, e7, e8, e9, e10, e11, e12, e13, e14, e15, e16, e17, e18, e19, e20, e21, -⟩ := hf
      simp only [List.take_succ_cons, List.take_zero, List.drop_succ_cons, List.drop_zero, putAll, Act.put, Nat.reduceAdd, List.setIfInBounds_toArray, List.set_cons_zero, List.set_cons_succ, e0, e1, e2, e3, e4, e5, e6, e7, e8, e9, e10, e11, e12, e13, e14, e15, e16, e17, e18, e19, e20, e21]
      clear e0 e1 e2 e3 e4 e5 e6 e7 e8 e9 e10 e11 e12 e13 e14 e15 e16 e17 e18 e19 e20 e21
      have hx8 := (Ext.refl _).drew.trans hw
      have K10 := hid (((K8.out.ext hx8).setL hnd hx T))
      have K11 := hid (((K9.out.thenExt hx8).next (J := fun b => b = gL) (Ch.set w1 gL (O.idxOf x) (.int .i64 (T : Int))) (fun b _ e => .inr (.inr (.inr e)))))
      rw [HK0.out] at K10 K11
      replace l0 := hx8.cell l0
      have lf1 : w1.frozen? ⟨gL, o.length, none⟩ = false := by rw [hx8.cells.2 _ _ (by omega)]; exact lf0
      clear hw hx8 c0 c1 c2 c3 c4 l1 lf0
      go_wp2_with fail
      obtain ⟨W8, hW8⟩ : ∃ W, w1.setCell ⟨gL, o.length, none⟩ (.int .i64 (T : Int)) = W := ⟨_, rfl⟩
      rw [hW8] at K10 K11
      try rw [hW8]
      clear hW8 l0 lf1
      go_roundw
      case rel =>
        refine ⟨i + 1, updF sv2 x S, updF lv2 x T, by go_num, by omega, hid (by rw [HMM.out]; exact K10.out), hid ⟨?_, ?_⟩, hid (fun z hz => ?_), hid (fun z hz h1 h2 => ?_), hid (fun z hz h1 => ?_), hid (HCH.out.trans K11.out), hid (HB.out.ch K11.out (fun e => ?_))⟩
        · rw [updF_same, HCS.out, HS.out]
        · rw [updF_same, HLS.out, HT.out]
        · have hzx : z ≠ x := fun e => hxo (e ▸ hz)
          rw [updF_other hzx, updF_other hzx]
          exact K3.out z hz
        · rw [updF_other h2, updF_other h2]
          exact K4.out z hz h1 h2
        · have hzx : z ≠ x := fun e => h1 (e ▸ hxi1)
          rw [updF_other hzx, updF_other hzx]
          exact K5.out z hz h1
        · rcases e with e | e | e | e <;> omega
      case measure => simp [intOf]; omega
    · obtain rfl : i = nx0.length := by omega
      have hca : cntI N x nx0.length = cntN N x := by
        have := cntI_all HNN.out hxN
        rw [HGN.out] at this
        exact this
      have hla : lgsI N x nx0.length = lgsN N x := by
        have := lgsI_all HNN.out hxN
        rw [HGN.out] at this
        exact this
      have hoa : ordI N f o x nx0.length = dfs N (f + 1) o x := by rw [← hlx]; exact HALL.out
      have c2 := HI.out.bx.cell (i := 2) rfl
      have c3 := HI.out.bx.cell (i := 3) rfl
      obtain ⟨o0, of0⟩ := HI.out.atO hx
      obtain ⟨s0, -⟩ := HI.out.atS hx
      rw [HK0.out] at o0 of0 s0
      rw [HV1.out.1, hca] at s0
      have K8 := hid ((HI.out.setO hnd hx false).congr (op' := op) (sv' := sv1) (lv' := lv1) (fun z hz => ⟨by
        by_cases e : z = x
        · subst e
          rw [updF_same]
          exact (HNW.out z hz hxo).1
        · rw [updF_other e, updF_other e], rfl, rfl⟩))
      have K9 := hid (HCH.out.next (J := fun b => b = gO) (Ch.set wr gO (O.idxOf x) (.bool false)) (fun b _ e => .inr (.inl e)))
      rw [HK0.out, hoa] at K8
      rw [HK0.out] at K9
      have HV3' := HV3.out
      have HV4' := HV4.out
      rw [hoa] at HV3' HV4'
      have V3 := hid HV3'
      have V4 := hid HV4'
      have hwl : w.heap.size ≤ wr.heap.size := HCH.out.size
      obtain ⟨D, hD⟩ : ∃ D, cntN N x = D := ⟨_, rfl⟩
      rw [hD] at s0
      have HDD := hid hD
      have HCA := hid hca
      have HLA := hid hla
      have HOA := hid hoa
      have fin : ∃ sv' lv', InS (wr.setCell ⟨gO, o.length, none⟩ (.bool false)) xb gO gS gL cO cS cL (some ⟨bN, oN, none⟩) cD LD.length O (dfs N (f + 1) o x).length op sv' lv' ∧
          (∀ z ∈ o, sv' z = sv z ∧ lv' z = lv z) ∧ (∀ z ∈ dfs N (f + 1) o x, z ∉ o → sv' z = cntN N z ∧ lv' z = lgsN N z) ∧ (∀ z ∈ O, z ∉ dfs N (f + 1) o x → sv' z = 0 ∧ lv' z = 0) ∧ Ch (Ki xb gO gS gL) w (wr.setCell ⟨gO, o.length, none⟩ (.bool false)) :=
        ⟨sv1, lv1, K8.out, HV2.out, fun z hz h1 => by
          by_cases e : z = x
          · subst e
            rw [HV1.out.1, HV1.out.2, HCA.out, HLA.out]
            exact ⟨rfl, rfl⟩
          · exact V3.out z hz h1 e, V4.out, K9.out⟩
      have HFI := hid fin
      clear fin hca hla hoa hD HV3' HV4' HV3 HV4 HV1 HNW hLD
      by_cases hz : 0 < D
      · have hzi : (0 : Int) < (D : Int) := by omega
        go_wp2_with fail
        go_returns
        exact ⟨by rw [HDD.out, decide_eq_true hz]; rfl, HFI.out⟩
      · have hzi : ¬ (0 : Int) < (D : Int) := by omega
        by_cases h0 : o.length = 0
        · rw [h0] at o0 of0 s0 HFI
          go_wp2_with fail
          go_returns
          refine ⟨by first | rfl | (rw [HDD.out, decide_eq_true h0]; simp), ?_⟩
          exact HFI.out
        · have hoi : ¬ (o.length : Int) = 0 := by omega
          go_wp2_with fail
          go_returns
          exact ⟨by first | (rw [HDD.out, decide_eq_false hz, decide_eq_false h0]; rfl) | (rw [HDD.out, decide_eq_false hz]; rfl) | (simp [HDD.out, hz, h0]), HFI.out⟩
set_option maxRecDepth 100000 in
set_option maxHeartbeats 8000000 in
theorem ivisit_non (xb gO gS gL cO cS cL : Nat) (aD : Option Addr) (cD : Nat) (LD : List NdP) (N : List Nd) (O : List Nat) (f : Nat) (ih : InsC xb gO gS gL cO cS cL aD cD LD N O f) (hN : Dn N) (hNe : NeOk N) (hnd : O.Nodup) (hO : ∀ z ∈ O, z < N.length) (hc : ∀ z ∈ O, ∀ j ∈ nxs N z, j ∈ O) (hM : ndsOf LD = numM N O) (hl : N.length ≤ 200000) (hnl : ∀ z, z < N.length → (ndG N z).nx.length ≤ 100000)
    (x : Nat) (o : List Nat) (op : Nat → Bool) (sv lv : Nat → Nat) (w : World) (hxf : x ≤ f) (hx : x ∈ O) (hxo : x ∉ o) (ho : o.Nodup) (ho2 : ∀ z ∈ o, z < N.length) (hp : dfs N (f + 1) o x <+: O) (hI : InS w xb gO gS gL cO cS cL aD cD LD.length O o.length op sv lv) (hop : ∀ z, op z = true → x < z)
    (hdone : ∀ z ∈ o, op z = false → sv z = cntN N z ∧ lv z = lgsN N z) (hnew : ∀ z ∈ O, z ∉ o → op z = false ∧ sv z = 0 ∧ lv z = 0) (hR : ∀ w', Ch (Ki xb gO gS gL) w w' → DgRd w' aD LD) (lt : ByteArray) (nx0 : List Int) (hgN : ndG N x = ⟨false, lt, nx0⟩) :
    Calls Tryz.prog 53 #[.pointer (some ⟨xb, 0, none⟩), .int .i64 (O.idxOf x : Nat)] w fun e w' => e = .returned (.bool (decide (0 < cntN N x) || decide (O.idxOf x = 0))) ∧ ∃ sv' lv', InS w' xb gO gS gL cO cS cL aD cD LD.length O (dfs N (f + 1) o x).length op sv' lv' ∧
      (∀ z ∈ o, sv' z = sv z ∧ lv' z = lv z) ∧ (∀ z ∈ dfs N (f + 1) o x, z ∉ o → sv' z = cntN N z ∧ lv' z = lgsN N z) ∧ (∀ z ∈ O, z ∉ dfs N (f + 1) o x → sv' z = 0 ∧ lv' z = 0) ∧ Ch (Ki xb gO gS gL) w w' := by
  have hxN := hO x hx
  have HORD := hid (fun i => ordI_ok hN hxN hxf hxo ho ho2 i)
  have hall := ordI_all (N := N) (f := f) hxo
  have hlx : (nxs N x).length = nx0.length := by unfold nxs; rw [hgN, List.length_map]
  have hpre : ∀ i, ordI N f o x i <+: O := fun i => by
    refine List.IsPrefix.trans ?_ hp
    rw [← hall]
    unfold ordI
    rw [List.take_length]
    conv => rhs; rw [← List.take_append_drop i (nxs N x), List.foldl_append]
    exact fold_pre N f _ _
  have hk0 : O.idxOf x = o.length := by rw [idxOf_pre ((HORD.out 0).2.2.2.2.trans (hpre 0)) (by simp), idxOf_new hxo]
  have hol : o.length < O.length := by rw [← hk0]; exact List.idxOf_lt_length_of_mem hx
  have hOl : O.length ≤ N.length := nodup_len hnd hO
  have hLD : LD.length = O.length := by rw [← ndsOf_length LD, hM, numM_len]
  obtain ⟨p0, hp0⟩ : ∃ p, ndAt LD o.length = p := ⟨_, rfl⟩
  obtain ⟨nd0, pa, pc⟩ := p0
  have hnd0 : nd0 = ⟨false, lt, nx0.map fun j => (O.idxOf j.toNat : Int)⟩ := by
    have h1 := ndG_nd LD o.length
    rw [hp0, hM, ← hk0, numM_at hx] at h1
    unfold numN at h1
    rw [hgN] at h1
    exact h1.symm
  subst hnd0
  have HPM : Hid (⟨⟨false, lt, nx0.map fun j => (O.idxOf j.toNat : Int)⟩, pa, pc⟩ ∈ LD) := hid (by rw [← hp0]; exact ndAt_mem LD _ (by omega))
  obtain ⟨bN, oN, rfl, -⟩ := (hR w (Ch.refl _ _)).1.nds (by omega)
  obtain ⟨q, hq⟩ : ∃ q, oN + o.length * 3 = q := ⟨_, rfl⟩
  have HND : Hid (∀ w', Ch (Ki xb gO gS gL) w w' → w'.cell? ⟨bN, q, none⟩ = some (.bool false) ∧ w'.cell? ⟨bN, q + 1, none⟩ = some (.string lt) ∧ w'.cell? ⟨bN, q + 2, none⟩ = some (.slice pa nx0.length pc)) := hid (by
    intro w' hb
    obtain ⟨b9, o9, e9, hcl⟩ := (hR w' hb).1.nds (by omega)
    simp only [Option.some.injEq, Addr.mk.injEq, and_true] at e9
    obtain ⟨rfl, rfl⟩ := e9
    obtain ⟨x0, x1, x2⟩ := hcl o.length (by omega)
    rw [hp0, hq] at x0 x1 x2
    simp only [List.length_map] at x2
    exact ⟨x0, x1, x2⟩)
  have hnxl : nx0.length ≤ 100000 := by have := hnl x hxN; rw [hgN] at this; exact this
  have HI1 := hid (hI.setM (o.length + 1))
  have HI2 := hid ((hI.setM (o.length + 1)).setO hnd hx true)
  have HC2 : Hid (Ch (Ki xb gO gS gL) w ((w.setCell ⟨xb, 1, none⟩ (.int .i64 ((o.length + 1 : Nat) : Int))).setCell ⟨gO, O.idxOf x, none⟩ (.bool true))) := hid (((Ch.set w xb 1 _).mono (fun b _ e => .inl e)).next (Ch.set _ gO _ _) (fun b _ e => .inr (.inl e)))
  have c0 := hI.bx.cell (i := 0) rfl
  have c1 := hI.bx.cell (i := 1) rfl
  have c2 := hI.bx.cell (i := 2) rfl
  have c3 := hI.bx.cell (i := 3) rfl
  have c4 := hI.bx.cell (i := 4) rfl
  have cf := hI.bx.free 1
  obtain ⟨o0, of0⟩ := hI.atO hx
  obtain ⟨s0, sf0⟩ := hI.atS hx
  obtain ⟨l0, lf0⟩ := hI.atL hx
  obtain ⟨n1, n2, n3, n4, n5, n6⟩ := hI.ne
  obtain ⟨y0, y1, y2⟩ := HND.out _ HC2.out
  have h3 := hI.po.1
  have hxl := hI.bx.lt
  have hsl := hI.ps.1
  have hll := hI.pl.1
  rw [hk0] at o0 of0 s0 sf0 l0 lf0 y0 y1 y2 HC2 HI2
  rw [show ((o.length + 1 : Nat) : Int) = (o.length : Int) + 1 from rfl] at y0 y1 y2 HC2 HI2
  have hol2 : (o.length : Int) < (O.length : Int) := by omega
  rw [hk0]
  clear hI
  obtain ⟨W4, hW4⟩ : ∃ W, (((w.setCell ⟨xb, 1, none⟩ (.int .i64 ((o.length : Int) + 1))).setCell ⟨gO, o.length, none⟩ (.bool true)).alloc (.cells #[.bool false, .string lt, .slice pa nx0.length pc] 92)) = W := ⟨_, rfl⟩
  have HI4 : Hid (InS W4 xb gO gS gL cO cS cL (some ⟨bN, oN, none⟩) cD LD.length O (ordI N f o x 0).length (updF op x true) (updF sv x (cntI N x 0)) lv) := hid (by
    rw [← hW4, ordI_zero, List.length_append, List.length_singleton, cntI_zero, hgN]
    refine (HI2.out.ext ((Ext.refl _).alloc _)).congr (fun z hz => ⟨rfl, ?_, rfl⟩)
    by_cases e : z = x
    · subst e; rw [updF_same, (hnew z hz hxo).2.1]; rfl
    · exact updF_other e)
  have HC4 : Hid (Ch (Ki xb gO gS gL) w W4) := hid (by
    rw [← hW4]
    exact HC2.out.thenExt ((Ext.refl _).alloc _))
  have HB4 : Hid (Bx W4 w.heap.size 92 [.bool false, .string lt, .slice pa nx0.length pc]) := hid (by
    rw [← hW4]
    have h := Bx.new (((w.setCell ⟨xb, 1, none⟩ (.int .i64 ((o.length : Int) + 1))).setCell ⟨gO, o.length, none⟩ (.bool true))) 92 [.bool false, .string lt, .slice pa nx0.length pc]
    simpa using h)
  have hv1 : (updF sv x (cntI N x 0)) x = cntI N x 0 ∧ lv x = lgsI N x 0 := ⟨updF_same _ _ _, by rw [(hnew x hx hxo).2.2, lgsI_zero]⟩
  have hv2 : ∀ z ∈ o, (updF sv x (cntI N x 0)) z = sv z := fun z hz => updF_other (fun e => hxo (e ▸ hz))
  have hv3 : ∀ z ∈ ordI N f o x 0, z ∉ o → z ≠ x → (updF sv x (cntI N x 0)) z = cntN N z ∧ lv z = lgsN N z := fun z hz h1 h2 => by
    rw [ordI_zero] at hz
    rcases List.mem_append.1 hz with h | h
    · exact absurd h h1
    · simp at h
      exact absurd h h2
  have hv4 : ∀ z ∈ O, z ∉ ordI N f o x 0 → (updF sv x (cntI N x 0)) z = 0 ∧ lv z = 0 := fun z hz h => by
    rw [ordI_zero] at h
    have h1 : z ∉ o := fun q => h (List.mem_append.2 (.inl q))
    have h2 : z ≠ x := fun q => h (by simp [q])
    rw [updF_other h2]
    exact (hnew z hz h1).2
  have HV1 := hid hv1
  have HV2 := hid hv2
  have HV3 := hid hv3
  have HV4 := hid hv4
  have HW4 := hid hW4
  have HIH := hid ih
  have HOP := hid hop
  have HDO := hid hdone
  have HNW := hid hnew
  have HR := hid hR
  have HNN := hid hN
  have HNE := hid hNe
  have HGN := hid hgN
  have HPRE := hid hpre
  have HALL := hid hall
  have HK0 := hid hk0
  have HCL := hid hc
  have hed : (edg N x).length = nx0.length := by rw [edg_len hN hxN, hgN]
  have HED := hid hed
  have HLE := hid (fun i h => lgsI_le N (k := x) (i := i) hN hxN h)
  clear hW4 ih hop hdone hnew hR hv1 hv2 hv3 hv4 hgN hpre hall hk0 hp0 hM hc hed hp HI1 HI2 HC2
  go_enter Tryz.func53, Tryz.ntmps53
  go_wp2_with fail
  rw [HW4.out]
  clear HW4 y0 y1 y2 c0 c1 c2 c3 c4 cf o0 of0 s0 sf0 l0 lf0
  go_loopw [60] (fun v60 wr => ∃ (i : Nat) (sv1 lv1 : Nat → Nat), v60 = .int .i64 (i : Int) ∧ i ≤ nx0.length ∧ Hid (InS wr xb gO gS gL cO cS cL (some ⟨bN, oN, none⟩) cD LD.length O (ordI N f o x i).length (updF op x true) sv1 lv1) ∧ Hid (sv1 x = cntI N x i ∧ lv1 x = lgsI N x i) ∧ Hid (∀ z ∈ o, sv1 z = sv z ∧ lv1 z = lv z) ∧
    Hid (∀ z ∈ ordI N f o x i, z ∉ o → z ≠ x → sv1 z = cntN N z ∧ lv1 z = lgsN N z) ∧ Hid (∀ z ∈ O, z ∉ ordI N f o x i → sv1 z = 0 ∧ lv1 z = 0) ∧ Hid (Ch (Ki xb gO gS gL) w wr) ∧ Hid (Bx wr w.heap.size 92 [.bool false, .string lt, .slice pa nx0.length pc])) (fun v60 _ => nx0.length - (intOf v60).toNat)
  case atStart => exact ⟨0, _, _, rfl, by omega, HI4, HV1, hid (fun z hz => ⟨HV2.out z hz, rfl⟩), HV3, HV4, HC4, HB4⟩
  case round =>
    clear HI4 HV1 HV2 HV3 HV4 HC4 HB4
    obtain ⟨i, sv1, lv1, rfl, hi, HI, HV1, HV2, HV3, HV4, HCH, HB⟩ := hrel
    by_cases hil : i < nx0.length
    · obtain ⟨bx, ox, rfl, hcx⟩ := ((HR.out wr HCH.out).2 _ HPM.out).int (show 0 < (nx0.map fun j => (O.idxOf j.toNat : Int)).length by rw [List.length_map]; omega)
      have hcj := hcx i (by rw [List.length_map]; exact hil)
      rw [List.getElem_map] at hcj
      clear hcx
      obtain ⟨y, hy⟩ : ∃ y, (nx0[i]).toNat = y := ⟨_, rfl⟩
      rw [hy] at hcj
      have hyn : y ∈ nxs N x := by unfold nxs; rw [HGN.out, ← hy]; exact List.mem_map_of_mem (List.getElem_mem hil)
      have hyx : y < x := HNN.out.nxs hxN y hyn
      have hyO := HCL.out x hx y hyn
      have hyne := HNE.out x hxN y hyn
      have he2 : ((edg N x)[i]'(by rw [HED.out]; exact hil)).2 = y := by
        have := edg_at HNN.out hxN (i := i) (by rw [HGN.out]; exact hil)
        rw [this]
        simp only [HGN.out]
        exact hy
      have hcs := cntI_succ (N := N) (k := x) (i := i) (by rw [HED.out]; exact hil)
      have hls := lgsI_succ (N := N) (k := x) (i := i) (by rw [HED.out]; exact hil) (by rw [he2]; exact hyne)
      rw [he2] at hcs hls
      have hos : ordI N f o x (i + 1) = dfs N f (ordI N f o x i) y := by
        have h2 : i < (nxs N x).length := by omega
        rw [ordI_succ h2]
        congr 1
        unfold nxs
        simp only [HGN.out, List.getElem_map]
        exact hy
      obtain ⟨q1, q2, q3, q4, q5⟩ := HORD.out i
      have hxi : x ∈ ordI N f o x i := mem_pre q5 (by simp)
      have hoi : ∀ z ∈ o, z ∈ ordI N f o x i := fun z hz => mem_pre q5 (by simp [hz])
      have hyp : updF op x true y = false := by
        rw [updF_other (by omega)]
        cases hq2 : op y
        · rfl
        · have := HOP.out y hq2
          omega
      have hyo : ∀ (h : y ∈ o), sv y = cntN N y ∧ lv y = lgsN N y := fun h => HDO.out y h (by rw [← updF_other (f := op) (v := true) (show y ≠ x by omega)]; exact hyp)
      have HCALL : Hid (Calls Tryz.prog 53 #[.pointer (some ⟨xb, 0, none⟩), .int .i64 (O.idxOf y : Nat)] wr fun e w5 => e = .returned (.bool true) ∧ ∃ sv2 lv2, InS w5 xb gO gS gL cO cS cL (some ⟨bN, oN, none⟩) cD LD.length O (ordI N f o x (i + 1)).length (updF op x true) sv2 lv2 ∧ (sv2 x = cntI N x i ∧ lv2 x = lgsI N x i) ∧ (∀ z ∈ o, sv2 z = sv z ∧ lv2 z = lv z) ∧
          (∀ z ∈ ordI N f o x (i + 1), z ∉ o → z ≠ x → sv2 z = cntN N z ∧ lv2 z = lgsN N z) ∧ (∀ z ∈ O, z ∉ ordI N f o x (i + 1) → sv2 z = 0 ∧ lv2 z = 0) ∧ (sv2 y = cntN N y ∧ lv2 y = lgsN N y) ∧ Ch (Ki xb gO gS gL) wr w5) := hid (by
        by_cases hyi : y ∈ ordI N f o x i
        · have hde : ordI N f o x (i + 1) = ordI N f o x i := by
            rw [hos]
            cases f with
            | zero => omega
            | succ f => rw [dfs, if_pos hyi]
          have hym : O.idxOf y < (ordI N f o x i).length := by
            rw [idxOf_pre (HPRE.out i) hyi]
            exact List.idxOf_lt_length_of_mem hyi
          rw [hde]
          refine (ivisit_old xb gO gS gL cO cS cL _ cD LD.length O _ _ sv1 lv1 y wr HI.out hyO hym hyp (by omega)).mono ?_
          rintro e w5 ⟨rfl, hx5⟩
          refine ⟨rfl, sv1, lv1, HI.out.ext hx5, HV1.out, HV2.out, HV3.out, HV4.out, ?_, Ch.of_ext _ hx5⟩
          by_cases hyo2 : y ∈ o
          · rw [(HV2.out y hyo2).1, (HV2.out y hyo2).2]
            exact hyo hyo2
          · exact HV3.out y hyi hyo2 (by omega)
        · have h := HIH.out y (ordI N f o x i) (updF op x true) sv1 lv1 wr (by omega) hyO hyi q1 q2 (by rw [← hos]; exact HPRE.out (i + 1)) HI.out
            (fun z hz => by
              by_cases e : z = x
              · omega
              · rw [updF_other e] at hz
                have := HOP.out z hz
                omega)
            (fun z hz hzo => by
              have hzx : z ≠ x := fun e => by rw [e, updF_same] at hzo; cases hzo
              rw [updF_other hzx] at hzo
              by_cases hz2 : z ∈ o
              · rw [(HV2.out z hz2).1, (HV2.out z hz2).2]
                exact HDO.out z hz2 hzo
              · exact HV3.out z hz hz2 hzx)
            (fun z hz hzi => by
              have hzx : z ≠ x := fun e => hzi (e ▸ hxi)
              rw [updF_other hzx]
              exact ⟨(HNW.out z hz (fun q => hzi (hoi z q))).1, HV4.out z hz hzi⟩)
            (fun w' k => HR.out w' (HCH.out.trans k))
          rw [← hos] at h
          refine h.mono ?_
          rintro e w5 ⟨rfl, sv2, lv2, k1, k2, k3, k4, k5⟩
          have hyi1 : y ∈ ordI N f o x (i + 1) := by
            rw [hos]
            cases f with
            | zero => omega
            | succ f => exact dfs_mem _ _ _ _
          refine ⟨by rw [decide_eq_true (cntN_pos hyne)]; rfl, sv2, lv2, k1, ?_, fun z hz => ?_, fun z hz h1 h2 => ?_, k4, k3 y hyi1 hyi, k5⟩
          · rw [(k2 x hxi).1, (k2 x hxi).2]
            exact HV1.out
          · rw [(k2 z (hoi z hz)).1, (k2 z (hoi z hz)).2]
            exact HV2.out z hz
          · by_cases hz2 : z ∈ ordI N f o x i
            · rw [(k2 z hz2).1, (k2 z hz2).2]
              exact HV3.out z hz2 h1 h2
            · exact k3 z hz hz2)
      have hxi1 : x ∈ ordI N f o x (i + 1) := mem_pre (HORD.out (i + 1)).2.2.2.2 (by simp)
      have hc1 := cntI_le N x i
      have hc2 := cntN_le N y
      have hl1 := HLE.out i (by rw [HED.out]; omega)
      have hl2 := lgsN_le N y
      have hjl := List.idxOf_lt_length_of_mem hyO
      have hjk : O.idxOf y ≠ o.length := fun e => by
        have a1 := List.getElem_idxOf (List.idxOf_lt_length_of_mem hyO)
        have a2 := List.getElem_idxOf (List.idxOf_lt_length_of_mem hx)
        have a3 : O.idxOf y = O.idxOf x := by rw [e, HK0.out]
        have : y = x := by rw [← a1, ← a2]; simp only [a3]
        omega
      obtain ⟨j, hj⟩ : ∃ j, O.idxOf y = j := ⟨_, rfl⟩
      have HJ := hid hj
      rw [hj] at hcj HCALL hjl hjk
      obtain ⟨p1, hp1⟩ : ∃ p, ox + i = p := ⟨_, rfl⟩
      rw [hp1] at hcj
      obtain ⟨A, hA⟩ : ∃ A, cntI N x i = A := ⟨_, rfl⟩
      obtain ⟨D, hD⟩ : ∃ D, cntN N y = D := ⟨_, rfl⟩
      obtain ⟨E, hE⟩ : ∃ E, lgsI N x i = E := ⟨_, rfl⟩
      obtain ⟨G, hG⟩ : ∃ G, lgsN N y = G := ⟨_, rfl⟩
      rw [hA, hD] at hcs
      rw [hE, hG] at hls
      rw [hA] at hc1
      rw [hD] at hc2
      rw [hE] at hl1
      rw [hG] at hl2
      rw [hA, hD, hE, hG] at HCALL
      have HCS := hid hcs
      have HLS := hid hls
      have d0 := HB.out.cell (i := 0) rfl
      have d2 := HB.out.cell (i := 2) rfl
      have hszw := HCH.out.size
      clear hy he2 hcs hls hos q1 q2 q3 q4 q5 hoi hyp hyo hj hA hD hE hG hyne hyn hxi HIH HDO
      go_wp2_with fail
      with_reducible refine HCALL.out.mono ?_
      rintro e w5 ⟨rfl, sv2, lv2, k1, k2, k3, k4, k5, k6, k7⟩
      obtain ⟨mm, hmm⟩ : ∃ m, (ordI N f o x (i + 1)).length = m := ⟨_, rfl⟩
      have HMM := hid hmm
      rw [hmm] at k1
      have K1 := hid k1
      have K2 := hid k2
      have K3 := hid k3
      have K4 := hid k4
      have K5 := hid k5
      have K6 := hid k6
      have K7 := hid k7
      have c0 := k1.bx.cell (i := 0) rfl
      have c1 := k1.bx.cell (i := 1) rfl
      have c2 := k1.bx.cell (i := 2) rfl
      have c3 := k1.bx.cell (i := 3) rfl
      have c4 := k1.bx.cell (i := 4) rfl
      obtain ⟨s0, sf0⟩ := k1.atS hx
      obtain ⟨s1, -⟩ := k1.atS hyO
      rw [HK0.out, k2.1] at s0
      rw [HK0.out] at sf0
      rw [HJ.out, k6.1] at s1
      have hz5 := k7.size
      have u1 : IntKind.i64.wrap ((A : Int) + (D : Int)) = (A : Int) + (D : Int) := IntWalk.i64_in _ (by omega)
      obtain ⟨S, hS⟩ : ∃ S, min (A + D) 3001 = S := ⟨_, rfl⟩
      have hSi : (if 3001 < (A : Int) + (D : Int) then 3001 else (A : Int) + (D : Int)) = (S : Int) := by split <;> omega
      have HSI := hid hSi
      have HS := hid hS
      clear hmm k1 k2 k3 k4 k5 k6 k7 hcj HCALL d0 d2 hS hSi
      go_wp2_with fail
      refine wp_region_flow_at (C := Ext) 22 [fun v _ => v = .pointer (some ⟨xb, 0, none⟩), fun v _ => v = .pointer (some ⟨xb, 0, none⟩), fun v _ => v = .pointer (some ⟨xb, 3, none⟩), fun v _ => v = .slice (some ⟨gS, 0, none⟩) O.length cS, fun v _ => v = .int .i64 (o.length : Int), fun v _ => v = .pointer (some ⟨xb, 0, none⟩), fun v _ => v = .pointer (some ⟨xb, 0, none⟩), fun v _ => v = .pointer (some ⟨xb, 3, none⟩), fun v _ => v = .slice (some ⟨gS, 0, none⟩) O.length cS, fun v _ => v = .int .i64 (o.length : Int), fun v _ => v = .pointer (some ⟨gS, o.length, none⟩), fun v _ => v = .int .i64 (A : Int), fun v _ => v = .pointer (some ⟨xb, 0, none⟩), fun v _ => v = .pointer (some ⟨xb, 0, none⟩), fun v _ => v = .pointer (some ⟨xb, 3, none⟩), fun v _ => v = .slice (some ⟨gS, 0, none⟩) O.length cS, fun v _ => v = .int .i64 (j : Int), fun v _ => v = .pointer (some ⟨gS, j, none⟩), fun v _ => v = .int .i64 (D : Int), fun v _ => v = .int .i64 ((A : Int) + (D : Int)), fun v _ => v = .int .i64 (S : Int), fun v _ => v = .pointer (some ⟨gS, o.length, none⟩)]
        [[(0, none)], [(68, some 0)], [(69, some 1)], [(70, some 2)], [(1, none)], [(0, none)], [(73, some 5)], [(74, some 6)], [(75, some 7)], [(1, none)], [(76, some 8), (77, some 9)], [(78, some 10)], [(0, none)], [(80, some 12)], [(81, some 13)], [(82, some 14)], [(7, none)], [(83, some 15), (84, some 16)], [(85, some 17)], [(79, some 11), (86, some 18)], [(87, some 19)], [(71, some 3), (72, some 4)]] (by kernel_rfl) (by kernel_rfl) Ext.refl (fun _ _ _ => Ext.trans) ?_ ?_ ?_
      · intro F hF
        simp only [List.mem_cons, List.not_mem_nil, or_false] at hF
        rcases hF with rfl | rfl | rfl | rfl | rfl | rfl | rfl | rfl | rfl | rfl | rfl | rfl | rfl | rfl | rfl | rfl | rfl | rfl | rfl | rfl | rfl | rfl <;> exact fun _ _ _ h _ => h
      · refine ⟨?_, ?_, ?_, ?_, ?_, ?_, ?_, ?_, ?_, ?_, ?_, ?_, ?_, ?_, ?_, ?_, ?_, ?_, ?_, ?_, ?_, ?_, trivial⟩
        · rintro ρ w1 hw hcst hfn hk
          clear hw
          simp only [known, List.getD_cons_zero, List.getD_cons_succ, Nat.reduceAdd] at hk
          simp only [List.getD_cons_zero, List.getD_cons_succ, Nat.reduceAdd, flowAt]
          go_simp
          exact ⟨Ext.refl _, by first | rfl | trivial⟩
        · rintro ρ w1 hw hcst hfn hk
          clear hw
          simp only [known, List.getD_cons_zero, List.getD_cons_succ, Nat.reduceAdd] at hk
          simp only [List.getD_cons_zero, List.getD_cons_succ, Nat.reduceAdd, flowAt]
          go_simp
          exact ⟨Ext.refl _, by first | rfl | trivial⟩
        · rintro ρ w1 hw hcst hfn hk
          clear hw
          simp only [known, List.getD_cons_zero, List.getD_cons_succ, Nat.reduceAdd] at hk
          simp only [List.getD_cons_zero, List.getD_cons_succ, Nat.reduceAdd, flowAt]
          go_simp
          exact ⟨Ext.refl _, by first | rfl | trivial⟩
        · rintro ρ w1 hw hcst hfn hk
          have c0 := hw.cell (b := xb) (o := 3) (v := .slice (some ⟨gS, 0, none⟩) O.length cS) (by first | (simp [*]; done) | (simp [*, go_sem]; done) | go_cell)
          clear hw
          simp only [known, List.getD_cons_zero, List.getD_cons_succ, Nat.reduceAdd] at hk
          simp only [List.getD_cons_zero, List.getD_cons_succ, Nat.reduceAdd, flowAt]
          go_simp
          exact ⟨Ext.refl _, by first | rfl | trivial⟩
        · rintro ρ w1 hw hcst hfn hk
          clear hw
          simp only [known, List.getD_cons_zero, List.getD_cons_succ, Nat.reduceAdd] at hk
          simp only [List.getD_cons_zero, List.getD_cons_succ, Nat.reduceAdd, flowAt]
          go_simp
          exact ⟨Ext.refl _, by first | rfl | trivial⟩
        · rintro ρ w1 hw hcst hfn hk
          clear hw
          simp only [known, List.getD_cons_zero, List.getD_cons_succ, Nat.reduceAdd] at hk
          simp only [List.getD_cons_zero, List.getD_cons_succ, Nat.reduceAdd, flowAt]
          go_simp
          exact ⟨Ext.refl _, by first | rfl | trivial⟩
        · rintro ρ w1 hw hcst hfn hk
          clear hw
          simp only [known, List.getD_cons_zero, List.getD_cons_succ, Nat.reduceAdd] at hk
          simp only [List.getD_cons_zero, List.getD_cons_succ, Nat.reduceAdd, flowAt]
          go_simp
          exact ⟨Ext.refl _, by first | rfl | trivial⟩
        · rintro ρ w1 hw hcst hfn hk
          clear hw
          simp only [known, List.getD_cons_zero, List.getD_cons_succ, Nat.reduceAdd] at hk
          simp only [List.getD_cons_zero, List.getD_cons_succ, Nat.reduceAdd, flowAt]
          go_simp
          exact ⟨Ext.refl _, by first | rfl | trivial⟩
        · rintro ρ w1 hw hcst hfn hk
          have c0 := hw.cell (b := xb) (o := 3) (v := .slice (some ⟨gS, 0, none⟩) O.length cS) (by first | (simp [*]; done) | (simp [*, go_sem]; done) | go_cell)
          clear hw
          simp only [known, List.getD_cons_zero, List.getD_cons_succ, Nat.reduceAdd] at hk
          simp only [List.getD_cons_zero, List.getD_cons_succ, Nat.reduceAdd, flowAt]
          go_simp
          exact ⟨Ext.refl _, by first | rfl | trivial⟩
        · rintro ρ w1 hw hcst hfn hk
          clear hw
          simp only [known, List.getD_cons_zero, List.getD_cons_succ, Nat.reduceAdd] at hk
          simp only [List.getD_cons_zero, List.getD_cons_succ, Nat.reduceAdd, flowAt]
          go_simp
          exact ⟨Ext.refl _, by first | rfl | trivial⟩
        · rintro ρ w1 hw hcst hfn hk
          simp only [known, List.getD_cons_zero, List.getD_cons_succ, Nat.reduceAdd] at hk
          simp only [List.getD_cons_zero, List.getD_cons_succ, Nat.reduceAdd, flowAt]
          go_simp
          first | exact ⟨Ext.refl _, rfl⟩ | (rw [if_pos (by omega)]; exact ⟨Ext.refl _, by first | rfl | rw [Nat.zero_add]⟩)
        · rintro ρ w1 hw hcst hfn hk
          have c0 := hw.cell (b := gS) (o := o.length) (v := .int .i64 (A : Int)) (by first | (simp [*]; done) | (simp [*, go_sem]; done) | go_cell)
          clear hw
          simp only [known, List.getD_cons_zero, List.getD_cons_succ, Nat.reduceAdd] at hk
          simp only [List.getD_cons_zero, List.getD_cons_succ, Nat.reduceAdd, flowAt]
          go_simp
          exact ⟨Ext.refl _, by first | rfl | trivial⟩
        · rintro ρ w1 hw hcst hfn hk
          clear hw
          simp only [known, List.getD_cons_zero, List.getD_cons_succ, Nat.reduceAdd] at hk
          simp only [List.getD_cons_zero, List.getD_cons_succ, Nat.reduceAdd, flowAt]
          go_simp
          exact ⟨Ext.refl _, by first | rfl | trivial⟩
        · rintro ρ w1 hw hcst hfn hk
          clear hw
          simp only [known, List.getD_cons_zero, List.getD_cons_succ, Nat.reduceAdd] at hk
          simp only [List.getD_cons_zero, List.getD_cons_succ, Nat.reduceAdd, flowAt]
          go_simp
          exact ⟨Ext.refl _, by first | rfl | trivial⟩
        · rintro ρ w1 hw hcst hfn hk
          clear hw
          simp only [known, List.getD_cons_zero, List.getD_cons_succ, Nat.reduceAdd] at hk
          simp only [List.getD_cons_zero, List.getD_cons_succ, Nat.reduceAdd, flowAt]
          go_simp
          exact ⟨Ext.refl _, by first | rfl | trivial⟩
        · rintro ρ w1 hw hcst hfn hk
          have c0 := hw.cell (b := xb) (o := 3) (v := .slice (some ⟨gS, 0, none⟩) O.length cS) (by first | (simp [*]; done) | (simp [*, go_sem]; done) | go_cell)
          clear hw
          simp only [known, List.getD_cons_zero, List.getD_cons_succ, Nat.reduceAdd] at hk
          simp only [List.getD_cons_zero, List.getD_cons_succ, Nat.reduceAdd, flowAt]
          go_simp
          exact ⟨Ext.refl _, by first | rfl | trivial⟩
        · rintro ρ w1 hw hcst hfn hk
          clear hw
          simp only [known, List.getD_cons_zero, List.getD_cons_succ, Nat.reduceAdd] at hk
          simp only [List.getD_cons_zero, List.getD_cons_succ, Nat.reduceAdd, flowAt]
          go_simp
          exact ⟨Ext.refl _, by first | rfl | trivial⟩
        · rintro ρ w1 hw hcst hfn hk
          simp only [known, List.getD_cons_zero, List.getD_cons_succ, Nat.reduceAdd] at hk
          simp only [List.getD_cons_zero, List.getD_cons_succ, Nat.reduceAdd, flowAt]
          go_simp
          first | exact ⟨Ext.refl _, rfl⟩ | (rw [if_pos (by omega)]; exact ⟨Ext.refl _, by first | rfl | rw [Nat.zero_add]⟩)
        · rintro ρ w1 hw hcst hfn hk
          have c0 := hw.cell (b := gS) (o := j) (v := .int .i64 (D : Int)) (by first | (simp [*]; done) | (simp [*, go_sem]; done) | go_cell)
          clear hw
          simp only [known, List.getD_cons_zero, List.getD_cons_succ, Nat.reduceAdd] at hk
          simp only [List.getD_cons_zero, List.getD_cons_succ, Nat.reduceAdd, flowAt]
          go_simp
          exact ⟨Ext.refl _, by first | rfl | trivial⟩
        · rintro ρ w1 hw hcst hfn hk
          simp only [known, List.getD_cons_zero, List.getD_cons_succ, Nat.reduceAdd] at hk
          simp only [List.getD_cons_zero, List.getD_cons_succ, Nat.reduceAdd, flowAt]
          go_simp
          exact ⟨Ext.refl _, by first | rfl | rw [u1]⟩
        · rintro ρ w1 hw hcst hfn hk
          simp only [known, List.getD_cons_zero, List.getD_cons_succ, Nat.reduceAdd] at hk
          simp only [List.getD_cons_zero, List.getD_cons_succ, Nat.reduceAdd, flowAt]
          go_simp
          exact ⟨Ext.refl _, by show Value.int .i64 _ = Value.int .i64 _; rw [HSI.out]⟩
        · rintro ρ w1 hw hcst hfn hk
          simp only [known, List.getD_cons_zero, List.getD_cons_succ, Nat.reduceAdd] at hk
          simp only [List.getD_cons_zero, List.getD_cons_succ, Nat.reduceAdd, flowAt]
          go_simp
          first | exact ⟨Ext.refl _, rfl⟩ | (rw [if_pos (by omega)]; exact ⟨Ext.refl _, by first | rfl | rw [Nat.zero_add]⟩)
      intro vs w1 hw hf
      simp only [flowFacts, Nat.reduceAdd] at hf
      obtain ⟨e0, e1, e2, e3, e4, e5, e6, e7, e8, e9, e10, e11, e12, e13, e14, e15, e16, e17, e18, e19, e20, e21, -⟩ := hf
      simp only [List.take_succ_cons, List.take_zero, List.drop_succ_cons, List.drop_zero, putAll, Act.put, Nat.reduceAdd, List.setIfInBounds_toArray, List.set_cons_zero, List.set_cons_succ, e0, e1, e2, e3, e4, e5, e6, e7, e8, e9, e10, e11, e12, e13, e14, e15, e16, e17, e18, e19, e20, e21]
      clear e0 e1 e2 e3 e4 e5 e6 e7 e8 e9 e10 e11 e12 e13 e14 e15 e16 e17 e18 e19 e20 e21
      have hx6 := (Ext.refl _).drew.trans hw
      have K8 := hid (((K1.out.ext hx6).setS hnd hx S))
      have K9 := hid (((K7.out.thenExt hx6).next (J := fun b => b = gS) (Ch.set w1 gS (O.idxOf x) (.int .i64 (S : Int))) (fun b _ e => .inr (.inr (.inl e)))))
      rw [HK0.out] at K8 K9
      replace s0 := hx6.cell s0
      have sf1 : w1.frozen? ⟨gS, o.length, none⟩ = false := by rw [hx6.cells.2 _ _ (by omega)]; exact sf0
      have hz6 := hx6.size
      clear hw hx6 c0 c1 c2 c3 c4 s1 sf0
      go_wp2_with fail
      obtain ⟨W6, hW6⟩ : ∃ W, w1.setCell ⟨gS, o.length, none⟩ (.int .i64 (S : Int)) = W := ⟨_, rfl⟩
      rw [hW6] at K8 K9
      rw [hW6]
      have hz7 : W6.heap.size = w1.heap.size := by rw [← hW6]; simp
      clear hW6 s0 sf1
      have c0 := K8.out.bx.cell (i := 0) rfl
      have c1 := K8.out.bx.cell (i := 1) rfl
      have c2 := K8.out.bx.cell (i := 2) rfl
      have c3 := K8.out.bx.cell (i := 3) rfl
      have c4 := K8.out.bx.cell (i := 4) rfl
      obtain ⟨l0, lf0⟩ := K8.out.atL hx
      obtain ⟨l1, -⟩ := K8.out.atL hyO
      rw [HK0.out, K2.out.2] at l0
      rw [HK0.out] at lf0
      rw [HJ.out, K6.out.2] at l1
      have u2 : IntKind.i64.wrap ((G : Int) + 1) = (G : Int) + 1 := IntWalk.i64_in _ (by omega)
      obtain ⟨T, hT⟩ : ∃ T, max E (G + 1) = T := ⟨_, rfl⟩
      have hTi : (if (E : Int) < (G : Int) + 1 then (G : Int) + 1 else (E : Int)) = (T : Int) := by split <;> omega
      have HTI := hid hTi
      have HT := hid hT
      clear hT hTi
      go_wp2_with fail
      refine wp_region_flow_at (C := Ext) 22 [fun v _ => v = .pointer (some ⟨xb, 0, none⟩), fun v _ => v = .pointer (some ⟨xb, 0, none⟩), fun v _ => v = .pointer (some ⟨xb, 4, none⟩), fun v _ => v = .slice (some ⟨gL, 0, none⟩) O.length cL, fun v _ => v = .int .i64 (o.length : Int), fun v _ => v = .pointer (some ⟨xb, 0, none⟩), fun v _ => v = .pointer (some ⟨xb, 0, none⟩), fun v _ => v = .pointer (some ⟨xb, 4, none⟩), fun v _ => v = .slice (some ⟨gL, 0, none⟩) O.length cL, fun v _ => v = .int .i64 (o.length : Int), fun v _ => v = .pointer (some ⟨gL, o.length, none⟩), fun v _ => v = .int .i64 (E : Int), fun v _ => v = .pointer (some ⟨xb, 0, none⟩), fun v _ => v = .pointer (some ⟨xb, 0, none⟩), fun v _ => v = .pointer (some ⟨xb, 4, none⟩), fun v _ => v = .slice (some ⟨gL, 0, none⟩) O.length cL, fun v _ => v = .int .i64 (j : Int), fun v _ => v = .pointer (some ⟨gL, j, none⟩), fun v _ => v = .int .i64 (G : Int), fun v _ => v = .int .i64 ((G : Int) + 1), fun v _ => v = .int .i64 (T : Int), fun v _ => v = .pointer (some ⟨gL, o.length, none⟩)]
        [[(0, none)], [(90, some 0)], [(91, some 1)], [(92, some 2)], [(1, none)], [(0, none)], [(95, some 5)], [(96, some 6)], [(97, some 7)], [(1, none)], [(98, some 8), (99, some 9)], [(100, some 10)], [(0, none)], [(102, some 12)], [(103, some 13)], [(104, some 14)], [(7, none)], [(105, some 15), (106, some 16)], [(107, some 17)], [(108, some 18)], [(101, some 11), (109, some 19)], [(93, some 3), (94, some 4)]] (by kernel_rfl) (by kernel_rfl) Ext.refl (fun _ _ _ => Ext.trans) ?_ ?_ ?_
      · intro F hF
        simp only [List.mem_cons, List.not_mem_nil, or_false] at hF
        rcases hF with rfl | rfl | rfl | rfl | rfl | rfl | rfl | rfl | rfl | rfl | rfl | rfl | rfl | rfl | rfl | rfl | rfl | rfl | rfl | rfl | rfl | rfl <;> exact fun _ _ _ h _ => h
      · refine ⟨?_, ?_, ?_, ?_, ?_, ?_, ?_, ?_, ?_, ?_, ?_, ?_, ?_, ?_, ?_, ?_, ?_, ?_, ?_, ?_, ?_, ?_, trivial⟩
        · rintro ρ w1 hw hcst hfn hk
          clear hw
          simp only [known, List.getD_cons_zero, List.getD_cons_succ, Nat.reduceAdd] at hk
          simp only [List.getD_cons_zero, List.getD_cons_succ, Nat.reduceAdd, flowAt]
          go_simp
          exact ⟨Ext.refl _, by first | rfl | trivial⟩
        · rintro ρ w1 hw hcst hfn hk
          clear hw
          simp only [known, List.getD_cons_zero, List.getD_cons_succ, Nat.reduceAdd] at hk
          simp only [List.getD_cons_zero, List.getD_cons_succ, Nat.reduceAdd, flowAt]
          go_simp
          exact ⟨Ext.refl _, by first | rfl | trivial⟩
        · rintro ρ w1 hw hcst hfn hk
          clear hw
          simp only [known, List.getD_cons_zero, List.getD_cons_succ, Nat.reduceAdd] at hk
          simp only [List.getD_cons_zero, List.getD_cons_succ, Nat.reduceAdd, flowAt]
          go_simp
          exact ⟨Ext.refl _, by first | rfl | trivial⟩
        · rintro ρ w1 hw hcst hfn hk
          have c0 := hw.cell (b := xb) (o := 4) (v := .slice (some ⟨gL, 0, none⟩) O.length cL) (by first | (simp [*]; done) | (simp [*, go_sem]; done) | go_cell)
          clear hw
          simp only [known, List.getD_cons_zero, List.getD_cons_succ, Nat.reduceAdd] at hk
          simp only [List.getD_cons_zero, List.getD_cons_succ, Nat.reduceAdd, flowAt]
          go_simp
          exact ⟨Ext.refl _, by first | rfl | trivial⟩
        · rintro ρ w1 hw hcst hfn hk
          clear hw
          simp only [known, List.getD_cons_zero, List.getD_cons_succ, Nat.reduceAdd] at hk
          simp only [List.getD_cons_zero, List.getD_cons_succ, Nat.reduceAdd, flowAt]
          go_simp
          exact ⟨Ext.refl _, by first | rfl | trivial⟩
        · rintro ρ w1 hw hcst hfn hk
          clear hw
          simp only [known, List.getD_cons_zero, List.getD_cons_succ, Nat.reduceAdd] at hk
          simp only [List.getD_cons_zero, List.getD_cons_succ, Nat.reduceAdd, flowAt]
          go_simp
          exact ⟨Ext.refl _, by first | rfl | trivial⟩
        · rintro ρ w1 hw hcst hfn hk
          clear hw
          simp only [known, List.getD_cons_zero, List.getD_cons_succ, Nat.reduceAdd] at hk
          simp only [List.getD_cons_zero, List.getD_cons_succ, Nat.reduceAdd, flowAt]
          go_simp
          exact ⟨Ext.refl _, by first | rfl | trivial⟩
        · rintro ρ w1 hw hcst hfn hk
          clear hw
          simp only [known, List.getD_cons_zero, List.getD_cons_succ, Nat.reduceAdd] at hk
          simp only [List.getD_cons_zero, List.getD_cons_succ, Nat.reduceAdd, flowAt]
          go_simp
          exact ⟨Ext.refl _, by first | rfl | trivial⟩
        · rintro ρ w1 hw hcst hfn hk
          have c0 := hw.cell (b := xb) (o := 4) (v := .slice (some ⟨gL, 0, none⟩) O.length cL) (by first | (simp [*]; done) | (simp [*, go_sem]; done) | go_cell)
          clear hw
          simp only [known, List.getD_cons_zero, List.getD_cons_succ, Nat.reduceAdd] at hk
          simp only [List.getD_cons_zero, List.getD_cons_succ, Nat.reduceAdd, flowAt]
          go_simp
          exact ⟨Ext.refl _, by first | rfl | trivial⟩
        · rintro ρ w1 hw hcst hfn hk
          clear hw
          simp only [known, List.getD_cons_zero, List.getD_cons_succ, Nat.reduceAdd] at hk
          simp only [List.getD_cons_zero, List.getD_cons_succ, Nat.reduceAdd, flowAt]
          go_simp
          exact ⟨Ext.refl _, by first | rfl | trivial⟩
        · rintro ρ w1 hw hcst hfn hk
          simp only [known, List.getD_cons_zero, List.getD_cons_succ, Nat.reduceAdd] at hk
          simp only [List.getD_cons_zero, List.getD_cons_succ, Nat.reduceAdd, flowAt]
          go_simp
          first | exact ⟨Ext.refl _, rfl⟩ | (rw [if_pos (by omega)]; exact ⟨Ext.refl _, by first | rfl | rw [Nat.zero_add]⟩)
        · rintro ρ w1 hw hcst hfn hk
          have c0 := hw.cell (b := gL) (o := o.length) (v := .int .i64 (E : Int)) (by first | (simp [*]; done) | (simp [*, go_sem]; done) | go_cell)
          clear hw
          simp only [known, List.getD_cons_zero, List.getD_cons_succ, Nat.reduceAdd] at hk
          simp only [List.getD_cons_zero, List.getD_cons_succ, Nat.reduceAdd, flowAt]
          go_simp
          exact ⟨Ext.refl _, by first | rfl | trivial⟩
        · rintro ρ w1 hw hcst hfn hk
          clear hw
          simp only [known, List.getD_cons_zero, List.getD_cons_succ, Nat.reduceAdd] at hk
          simp only [List.getD_cons_zero, List.getD_cons_succ, Nat.reduceAdd, flowAt]
          go_simp
          exact ⟨Ext.refl _, by first | rfl | trivial⟩
        · rintro ρ w1 hw hcst hfn hk
          clear hw
          simp only [known, List.getD_cons_zero, List.getD_cons_succ, Nat.reduceAdd] at hk
          simp only [List.getD_cons_zero, List.getD_cons_succ, Nat.reduceAdd, flowAt]
          go_simp
          exact ⟨Ext.refl _, by first | rfl | trivial⟩
        · rintro ρ w1 hw hcst hfn hk
          clear hw
          simp only [known, List.getD_cons_zero, List.getD_cons_succ, Nat.reduceAdd] at hk
          simp only [List.getD_cons_zero, List.getD_cons_succ, Nat.reduceAdd, flowAt]
          go_simp
          exact ⟨Ext.refl _, by first | rfl | trivial⟩
        · rintro ρ w1 hw hcst hfn hk
          have c0 := hw.cell (b := xb) (o := 4) (v := .slice (some ⟨gL, 0, none⟩) O.length cL) (by first | (simp [*]; done) | (simp [*, go_sem]; done) | go_cell)
          clear hw
          simp only [known, List.getD_cons_zero, List.getD_cons_succ, Nat.reduceAdd] at hk
          simp only [List.getD_cons_zero, List.getD_cons_succ, Nat.reduceAdd, flowAt]
          go_simp
          exact ⟨Ext.refl _, by first | rfl | trivial⟩
        · rintro ρ w1 hw hcst hfn hk
          clear hw
          simp only [known, List.getD_cons_zero, List.getD_cons_succ, Nat.reduceAdd] at hk
          simp only [List.getD_cons_zero, List.getD_cons_succ, Nat.reduceAdd, flowAt]
          go_simp
          exact ⟨Ext.refl _, by first | rfl | trivial⟩
        · rintro ρ w1 hw hcst hfn hk
          simp only [known, List.getD_cons_zero, List.getD_cons_succ, Nat.reduceAdd] at hk
          simp only [List.getD_cons_zero, List.getD_cons_succ, Nat.reduceAdd, flowAt]
          go_simp
          first | exact ⟨Ext.refl _, rfl⟩ | (rw [if_pos (by omega)]; exact ⟨Ext.refl _, by first | rfl | rw [Nat.zero_add]⟩)
        · rintro ρ w1 hw hcst hfn hk
          have c0 := hw.cell (b := gL) (o := j) (v := .int .i64 (G : Int)) (by first | (simp [*]; done) | (simp [*, go_sem]; done) | go_cell)
          clear hw
          simp only [known, List.getD_cons_zero, List.getD_cons_succ, Nat.reduceAdd] at hk
          simp only [List.getD_cons_zero, List.getD_cons_succ, Nat.reduceAdd, flowAt]
          go_simp
          exact ⟨Ext.refl _, by first | rfl | trivial⟩
        · rintro ρ w1 hw hcst hfn hk
          simp only [known, List.getD_cons_zero, List.getD_cons_succ, Nat.reduceAdd] at hk
          simp only [List.getD_cons_zero, List.getD_cons_succ, Nat.reduceAdd, flowAt]
          go_simp
          exact ⟨Ext.refl _, by first | rfl | rw [u2]⟩
        · rintro ρ w1 hw hcst hfn hk
          simp only [known, List.getD_cons_zero, List.getD_cons_succ, Nat.reduceAdd] at hk
          simp only [List.getD_cons_zero, List.getD_cons_succ, Nat.reduceAdd, flowAt]
          go_simp
          exact ⟨Ext.refl _, by show Value.int .i64 _ = Value.int .i64 _; rw [HTI.out]⟩
        · rintro ρ w1 hw hcst hfn hk
          simp only [known, List.getD_cons_zero, List.getD_cons_succ, Nat.reduceAdd] at hk
          simp only [List.getD_cons_zero, List.getD_cons_succ, Nat.reduceAdd, flowAt]
          go_simp
          first | exact ⟨Ext.refl _, rfl⟩ | (rw [if_pos (by omega)]; exact ⟨Ext.refl _, by first | rfl | rw [Nat.zero_add]⟩)
      intro vs w1 hw hf
      simp only [flowFacts, Nat.reduceAdd] at hf
      obtain ⟨e0, e1, e2, e3, e4, e5, e6, e7, e8, e9, e10, e11, e12, e13, e14, e15, e16, e17, e18, e19, e20, e21, -⟩ := hf
      simp only [List.take_succ_cons, List.take_zero, List.drop_succ_cons, List.drop_zero, putAll, Act.put, Nat.reduceAdd, List.setIfInBounds_toArray, List.set_cons_zero, List.set_cons_succ, e0, e1, e2, e3, e4, e5, e6, e7, e8, e9, e10, e11, e12, e13, e14, e15, e16, e17, e18, e19, e20, e21]
      clear e0 e1 e2 e3 e4 e5 e6 e7 e8 e9 e10 e11 e12 e13 e14 e15 e16 e17 e18 e19 e20 e21
      have hx8 := (Ext.refl _).drew.trans hw
      have K10 := hid (((K8.out.ext hx8).setL hnd hx T))
      have K11 := hid (((K9.out.thenExt hx8).next (J := fun b => b = gL) (Ch.set w1 gL (O.idxOf x) (.int .i64 (T : Int))) (fun b _ e => .inr (.inr (.inr e)))))
      rw [HK0.out] at K10 K11
      replace l0 := hx8.cell l0
      have lf1 : w1.frozen? ⟨gL, o.length, none⟩ = false := by rw [hx8.cells.2 _ _ (by omega)]; exact lf0
      clear hw hx8 c0 c1 c2 c3 c4 l1 lf0
      go_wp2_with fail
      obtain ⟨W8, hW8⟩ : ∃ W, w1.setCell ⟨gL, o.length, none⟩ (.int .i64 (T : Int)) = W := ⟨_, rfl⟩
      rw [hW8] at K10 K11
      try rw [hW8]
      clear hW8 l0 lf1
      go_roundw
      case rel =>
        refine ⟨i + 1, updF sv2 x S, updF lv2 x T, by go_num, by omega, hid (by rw [HMM.out]; exact K10.out), hid ⟨?_, ?_⟩, hid (fun z hz => ?_), hid (fun z hz h1 h2 => ?_), hid (fun z hz h1 => ?_), hid (HCH.out.trans K11.out), hid (HB.out.ch K11.out (fun e => ?_))⟩
        · rw [updF_same, HCS.out, HS.out]
        · rw [updF_same, HLS.out, HT.out]
        · have hzx : z ≠ x := fun e => hxo (e ▸ hz)
          rw [updF_other hzx, updF_other hzx]
          exact K3.out z hz
        · rw [updF_other h2, updF_other h2]
          exact K4.out z hz h1 h2
        · have hzx : z ≠ x := fun e => h1 (e ▸ hxi1)
          rw [updF_other hzx, updF_other hzx]
          exact K5.out z hz h1
        · rcases e with e | e | e | e <;> omega
      case measure => simp [intOf]; omega
    · obtain rfl : i = nx0.length := by omega
      have hca : cntI N x nx0.length = cntN N x := by
        have := cntI_all HNN.out hxN
        rw [HGN.out] at this
        exact this
      have hla : lgsI N x nx0.length = lgsN N x := by
        have := lgsI_all HNN.out hxN
        rw [HGN.out] at this
        exact this
      have hoa : ordI N f o x nx0.length = dfs N (f + 1) o x := by rw [← hlx]; exact HALL.out
      have c2 := HI.out.bx.cell (i := 2) rfl
      have c3 := HI.out.bx.cell (i := 3) rfl
      obtain ⟨o0, of0⟩ := HI.out.atO hx
      obtain ⟨s0, -⟩ := HI.out.atS hx
      rw [HK0.out] at o0 of0 s0
      rw [HV1.out.1, hca] at s0
      have K8 := hid ((HI.out.setO hnd hx false).congr (op' := op) (sv' := sv1) (lv' := lv1) (fun z hz => ⟨by
        by_cases e : z = x
        · subst e
          rw [updF_same]
          exact (HNW.out z hz hxo).1
        · rw [updF_other e, updF_other e], rfl, rfl⟩))
      have K9 := hid (HCH.out.next (J := fun b => b = gO) (Ch.set wr gO (O.idxOf x) (.bool false)) (fun b _ e => .inr (.inl e)))
      rw [HK0.out, hoa] at K8
      rw [HK0.out] at K9
      have HV3' := HV3.out
      have HV4' := HV4.out
      rw [hoa] at HV3' HV4'
      have V3 := hid HV3'
      have V4 := hid HV4'
      have hwl : w.heap.size ≤ wr.heap.size := HCH.out.size
      obtain ⟨D, hD⟩ : ∃ D, cntN N x = D := ⟨_, rfl⟩
      rw [hD] at s0
      have HDD := hid hD
      have HCA := hid hca
      have HLA := hid hla
      have HOA := hid hoa
      have fin : ∃ sv' lv', InS (wr.setCell ⟨gO, o.length, none⟩ (.bool false)) xb gO gS gL cO cS cL (some ⟨bN, oN, none⟩) cD LD.length O (dfs N (f + 1) o x).length op sv' lv' ∧
          (∀ z ∈ o, sv' z = sv z ∧ lv' z = lv z) ∧ (∀ z ∈ dfs N (f + 1) o x, z ∉ o → sv' z = cntN N z ∧ lv' z = lgsN N z) ∧ (∀ z ∈ O, z ∉ dfs N (f + 1) o x → sv' z = 0 ∧ lv' z = 0) ∧ Ch (Ki xb gO gS gL) w (wr.setCell ⟨gO, o.length, none⟩ (.bool false)) :=
        ⟨sv1, lv1, K8.out, HV2.out, fun z hz h1 => by
          by_cases e : z = x
          · subst e
            rw [HV1.out.1, HV1.out.2, HCA.out, HLA.out]
            exact ⟨rfl, rfl⟩
          · exact V3.out z hz h1 e, V4.out, K9.out⟩
      have HFI := hid fin
      clear fin hca hla hoa hD HV3' HV4' HV3 HV4 HV1 HNW hLD
      by_cases hz : 0 < D
      · have hzi : (0 : Int) < (D : Int) := by omega
        go_wp2_with fail
        go_returns
        exact ⟨by rw [HDD.out, decide_eq_true hz]; rfl, HFI.out⟩
      · have hzi : ¬ (0 : Int) < (D : Int) := by omega
        by_cases h0 : o.length = 0
        · rw [h0] at o0 of0 s0 HFI
          go_wp2_with fail
          go_returns
          refine ⟨by first | rfl | (rw [HDD.out, decide_eq_true h0]; simp), ?_⟩
          exact HFI.out
        · have hoi : ¬ (o.length : Int) = 0 := by omega
          go_wp2_with fail
          go_returns
          exact ⟨by first | (rw [HDD.out, decide_eq_false hz, decide_eq_false h0]; rfl) | (rw [HDD.out, decide_eq_false hz]; rfl) | (simp [HDD.out, hz, h0]), HFI.out⟩
theorem ivisit_any (xb gO gS gL cO cS cL : Nat) (aD : Option Addr) (cD : Nat) (LD : List NdP) (N : List Nd) (O : List Nat) (hN : Dn N) (hNe : NeOk N) (hnd : O.Nodup) (hO : ∀ z ∈ O, z < N.length) (hc : ∀ z ∈ O, ∀ j ∈ nxs N z, j ∈ O) (hM : ndsOf LD = numM N O) (hl : N.length ≤ 200000) (hnl : ∀ z, z < N.length → (ndG N z).nx.length ≤ 100000) (f : Nat) :
    InsC xb gO gS gL cO cS cL aD cD LD N O f := by
  induction f with
  | zero => intro x o op sv lv w h; omega
  | succ f ih =>
    intro x o op sv lv w h1 h2 h3 h4 h5 h6 h7 h8 h9 h10 h11
    rcases hg : ndG N x with ⟨fin, lt, nx0⟩
    cases fin
    · exact ivisit_non xb gO gS gL cO cS cL aD cD LD N O f ih hN hNe hnd hO hc hM hl hnl x o op sv lv w (by omega) h2 h3 h4 h5 h6 h7 h8 h9 h10 h11 lt nx0 hg
    · exact ivisit_fin xb gO gS gL cO cS cL aD cD LD N O f ih hN hNe hnd hO hc hM hl hnl x o op sv lv w (by omega) h2 h3 h4 h5 h6 h7 h8 h9 h10 h11 lt nx0 hg
end Go.Proofs.YtabljchbchjjcaaGreatDoor
