/- Building, by the program. Conditions: at most 3000 words of ASCII without '+', of fewer than 100 bytes more; at most 200000 nodes. -/
import Derived.Test.YtlnccdbmchjhlaaDoorCh06c
import Derived.Test.YtlnccdbmchjhlaaDoorDwB
import Derived.Test.YtlnccdbmchjhlaaDoorMg7
import Derived.Test.YtlnccdbmchjhlaaDoorCh05a
import Derived.Test.YtlnccdbmchjhlaaDoorMg5
namespace Go.Proofs.YtlnccdbmchjhlaaDoor
set_option linter.unusedVariables false
set_option linter.unusedSimpArgs false
open Go Go.RowKit
/-- Blocks of others, with a node's own block and its list. -/
def Aq (A : Nat → Prop) (G : Nat) (q : Option Addr) (b : Nat) : Prop := A b ∨ b = G ∨ blkA q = some b
def lenB : Value → Nat
  | .slice _ n _ => n
  | _ => 0
abbrev MkP (w : World) (B m mp : Nat) (A : Nat → Prop) (aq : Option Addr) (c : Nat) (L : List NdP) : Prop := Mk w B m mp 55 [.map (some mp)] A aq c L
/-- What building is to do. -/
def BuildC (B m mp f : Nat) : Prop := ∀ (d : Nat) (S : List ByteArray) (A : Nat → Prop) (aq : Option Addr) (c : Nat) (L : List NdP) (a : Option Addr) (cc : Nat) (w : World),
  MkP w B m mp A aq c L → MapOk mp w (ndsOf L) → Dn (ndsOf L) → WsOk d (f + 1) S → S.length ≤ 3000 → d + f ≤ 100 → L.length + totL (sufs d S) ≤ 199000 → S.length ≤ cc → (∀ b, A b → b < w.heap.size) → B ≤ w.heap.size →
  (∀ w', Below B w w' → Rd w' a (strsV S)) → (∀ w', Below B w w' → TabF w') →
  Calls Tryd.prog 36 #[.pointer (some ⟨m, 0, none⟩), .slice a S.length cc, .int .i64 (d : Int)] w (MkE w B m mp 55 [.map (some mp)] A (MapOk mp) aq (bld (f + 1) (ndsOf L) (sufs d S)))
theorem intsV_add (l r : List Int) : intsV (l ++ r) = intsV l ++ intsV r := by simp [intsV]
theorem Mst.weave {w wr w2 w1 w8 w9 : World} {m mp G : Nat} {aq aq1 aq' q : Option Addr} (h : Mst w wr m mp aq aq1) (k : Ch (fun b => b = G) wr w2) (hG : w.heap.size ≤ G) (s : Mst w2 w1 m mp aq1 aq') (l : Ch (fun b => blkA q = some b) w1 w8) (hq : ∀ p, q = some p → w.heap.size ≤ p.block) (z : Ch (fun b => b = G) w8 w9) : Mst w w9 m mp aq aq' := by
  refine ⟨?_, fun b hb => ?_⟩
  · have h2 := h.ch.next k (fun b hb e => absurd hb (by omega))
    have h3 : Ch (Kq m mp aq) w w1 := h2.next s.ch (fun b hb e => by
      rcases e with e | e | e
      · exact .inl e
      · exact .inr (.inl e)
      · rcases h.sep b e with r | r
        · exact .inr (.inr r)
        · omega)
    have h4 : Ch (Kq m mp aq) w w8 := h3.next l (fun b hb e => by
      cases q with
      | none => simp [blkA] at e
      | some p =>
        have := hq p rfl
        have e2 : p.block = b := by simpa [blkA] using e
        omega)
    exact h4.next z (fun b hb e => absurd hb (by omega))
  · rcases s.sep b hb with r | r
    · exact h.sep b r
    · have := h.ch.size
      have := k.size
      exact .inr (by omega)
theorem run_at {d : Nat} {S : List ByteArray} (hpos : 0 < S.length) (hS : ∀ s ∈ S, d < s.size) : ∃ (k : Nat) (x : UInt8), 0 < k ∧ k ≤ S.length ∧ x = ltr d (wAt S 0) ∧ (∀ i, i < k → ltr d (wAt S i) = x) ∧ (k < S.length → ltr d (wAt S k) ≠ x) ∧ (∀ i, i < S.length → d < (wAt S i).size) ∧
    (∀ i (hi : i < S.length), i < k → ltr d S[i] = x) ∧ (∀ (h : k < S.length), ltr d S[k] ≠ x) := by
  obtain ⟨x, hx⟩ : ∃ x, ltr d (wAt S 0) = x := ⟨_, rfl⟩
  have h1 := runN_in x d S
  have h2 := runN_out x d S
  have h3 := runN_le x d S
  have h4 : 0 < runN x d S := by
    cases S with
    | nil => simp at hpos
    | cons s r =>
      have : ltr d s = x := hx
      subst this
      exact runN_pos
  obtain ⟨k, hk⟩ : ∃ k, runN x d S = k := ⟨_, rfl⟩
  rw [hk] at h1 h3 h4
  have h5 : ∀ (h : k < S.length), ltr d S[k] ≠ x := by subst hk; exact h2
  exact ⟨k, x, h4, h3, hx.symm, fun i hi => by rw [← wAt_eq S i (by omega)]; exact h1 i (by omega) hi, fun h => by rw [← wAt_eq S k h]; exact h5 h, fun i hi => hS _ (wAt_mem S i hi), h1, h5⟩
theorem enc_asc {x : UInt8} (h : x.toNat < 128) : Utf8.encode (x.toNat : Int) = ⟨#[x]⟩ := by
  have e : Utf8.valid (x.toNat : Int) = true := by simp [Utf8.valid]; omega
  unfold Utf8.encode
  rw [e]
  simp only [if_true, Int.toNat_natCast]
  rw [if_pos (by omega)]
  simp
theorem wpList_asc {P : Program} {ops : Array Oper} {rest : List Oper} {o : Oper} {ac : Act} {Q : Exit → Act → World → Prop} (hgd : o.guard = none) (x : Operand) (src dst : TypeId) (ho : o.op = .convert src dst x) {w : World}
    (hs : (P.underlying src).isSome = true) (hd : P.underlying dst = some .string) {u : UInt8} (hu : u.toNat < 128) (hx : ac.eval x = .int .i32 (u.toNat : Int)) (h : wpList P ops Q rest (ac.put o.dst (.string ⟨#[u]⟩)) w) : wpList P ops Q (o :: rest) ac w := by
  refine wpList_plain hgd fun K hK => ?_
  have hr := run_convert_int_string (P := P) w src dst .i32 (u.toNat : Int) hs hd
  rw [enc_asc hu] at hr
  unfold Oper.wp execOp
  simp only [ho, hx, Sem.run_bind, Sem.run_pure, Result.andThen_ok, hr]
  exact hK _ _ h
theorem wrap32_asc {x : UInt8} (h : x.toNat < 128) : IntKind.i32.wrap (x.toNat : Int) = (x.toNat : Int) := by rw [IntKind.wrap_i32]; omega
theorem asc_str {x : UInt8} (h : x.toNat < 128) (l : List UInt8) : (⟨l.toArray⟩ : ByteArray) ++ (⟨#[x]⟩ : ByteArray) = ⟨(l ++ [x]).toArray⟩ := by
  apply ByteArray.ext
  simp [ByteArray.data_append]

set_option maxRecDepth 100000 in
set_option maxHeartbeats 8000000 in
theorem build_no (B m mp f : Nat) (hmp : mp ≠ m) (ih : ∀ f', f' < f → BuildC B m mp f') (d : Nat) (S : List ByteArray) (hpos : 0 < S.length) (hz : ¬ (wAt S 0).size = d) (A : Nat → Prop) (aq : Option Addr) (c : Nat) (L : List NdP) (a : Option Addr) (cc : Nat) (w : World)
    (hM : MkP w B m mp A aq c L) (hS : MapOk mp w (ndsOf L)) (hDn : Dn (ndsOf L)) (hW : WsOk d (f + 1) S) (hlen : (S).length ≤ 3000) (hdf : d + f ≤ 100) (htot : L.length + totL (sufs d S) ≤ 199000) (hcc : (S).length ≤ cc) (hA : ∀ b, A b → b < w.heap.size) (hB : B ≤ w.heap.size)
    (hR : ∀ w', Below B w w' → Rd w' a (strsV S)) (hT : ∀ w', Below B w w' → TabF w') :
    Calls Tryd.prog 36 #[.pointer (some ⟨m, 0, none⟩), .slice a (S).length cc, .int .i64 (d : Int)] w (MkE w B m mp 55 [.map (some mp)] A (MapOk mp) aq (bld (f + 1) (ndsOf L) (sufs d S))) := by
  have hfb : finB (sufs d S) = false := by cases S with | nil => simp at hpos | cons s r => exact (finB_cons (hW.lo s (by simp))).trans (decide_eq_false hz)
  have hgo : goOn d S = S := by unfold goOn; rw [hfb]; simp
  have hbw := bld_words f d (ndsOf L) S
  rw [hfb, hgo] at hbw
  obtain ⟨R, hRR⟩ : ∃ R, bld (f + 1) (ndsOf L) (sufs d S) = R := ⟨_, rfl⟩
  rw [hRR] at hbw ⊢
  obtain ⟨F, hF⟩ : ∃ F, foldW f d (ndsOf L, [], []) S = F := ⟨_, rfl⟩
  rw [hF] at hbw
  have HRR := hid hbw
  have hW1 := hW.sub (goOn_sub d S)
  have hlt1 := goOn_lt hW
  rw [hgo] at hW1 hlt1
  have HFT : Hid (∀ u : List UInt8, (⟨([] : List UInt8).toArray⟩ : ByteArray) = ⟨#[]⟩) := hid (fun _ => rfl)
  have HIH := hid ih
  have HAL := hid hA
  have HM0 := hid hM
  have HT := hid hT
  have HR := hid hR
  have hml := hM.bx.lt
  have hpl := hM.lt
  have htl : totL (sufs d S) = totL (sufs d S) := by rw [← hgo, ← restL_sufs, totL_rest]
  have hRD0 := hR w (Below.refl _ _)
  obtain ⟨b9, o9, ha9, hc9⟩ := hRD0.word hpos
  subst ha9
  have hd9 := hc9 0 hpos
  rw [Nat.add_zero] at hd9
  have hb9 := World.block_lt_of_cell? _ _ hd9
  obtain ⟨s0, hs0e⟩ : ∃ s, wAt S 0 = s := ⟨_, rfl⟩
  rw [hs0e] at hd9 hz
  have hp9 : (0 : Int) < (S.length : Int) := by omega
  clear hc9 hR hs0e
  have hk0 : ¬ ((s0.size : Int) = (d : Int)) := by omega
  clear ih hA hT hRR hbw
  go_enter Tryd.func36, Tryd.ntmps36
  go_wp2_with fail
  have hEn : Ext w (w.alloc (.cells #[.bool false, .string ⟨#[]⟩, .slice none 0 0] 65)) := ((Ext.refl w).alloc _)
  have hBx1 : Bx (w.alloc (.cells #[.bool false, .string ⟨#[]⟩, .slice none 0 0] 65)) w.heap.size 65 [.bool false, .string ⟨([] : List UInt8).toArray⟩, .slice none ([] : List Int).length 0] := Bx.new w _ _
  have hs1 := hEn.size
  have HB1 := hid hBx1
  have HM1 : Hid (MkP (w.alloc (.cells #[.bool false, .string ⟨#[]⟩, .slice none 0 0] 65)) B m mp (Aq A w.heap.size none) aq c L) := hid ((hM.also (fun b hb => by rcases hb with h | h | h; exact .inl h; exact .inr (Nat.le_of_eq h.symm); simp [blkA] at h)).ext hEn)
  have HP1 := hid (hS.ext hEn)
  have HST1 := hid (Mst.of_ext hEn m mp aq)
  have HBW1 : Hid (Below B w (w.alloc (.cells #[.bool false, .string ⟨#[]⟩, .slice none 0 0] 65))) := hid (Below.mono hEn.below hB)
  have HOK1 : Hid (BOk (ndsOf L, [], [])) := hid ⟨hDn, rfl, fun j hj => by simp at hj⟩
  have HF := hid hF
  have HW1 := hid hW1
  have HL1 := hid hlt1
  have hkl := hid hM.klo
  clear hM hS hDn hW hF hW1 hlt1 hBx1 hEn hfb hgo hRD0
  go_loopw [1, 8, 9] (fun v1 v8 v9 wr => ∃ (S1 : List ByteArray) (a1 : Option Addr) (c1 : Nat) (lt : List UInt8) (nx : List Int) (q : Option Addr) (cq : Nat) (L1 : List NdP) (aq1 : Option Addr) (cM : Nat),
      v1 = .slice a1 S1.length c1 ∧ S1.length ≤ c1 ∧ nx.length + S1.length ≤ 3000 ∧ Hid (∀ w', Below B w w' → Rd w' a1 (strsV S1)) ∧ Hid (WsOk d (f + 1) S1) ∧ Hid (∀ s ∈ S1, d < s.size) ∧
      Hid (Bx wr w.heap.size 65 [.bool false, .string ⟨lt.toArray⟩, .slice q nx.length cq]) ∧ Hid (Own wr (w.heap.size + 1) 2 1 q nx.length cq (intsV nx)) ∧ Hid (q = none ∧ nx.length = 0 ∧ cq = 0 ∧ intsV nx = [] ∨ ∃ g, q = some ⟨g, 0, none⟩) ∧ Hid (∀ p, q = some p → w.heap.size < p.block ∧ p.block < wr.heap.size) ∧
      Hid (MkP wr B m mp (Aq A w.heap.size q) aq1 cM L1) ∧ Hid (MapOk mp wr (ndsOf L1)) ∧ Hid (Mst w wr m mp aq aq1) ∧ Hid (Below B w wr) ∧ Hid (BOk (ndsOf L1, lt, nx)) ∧ Hid (∀ u ∈ lt, u ≠ 43) ∧ Hid (foldW f d (ndsOf L1, lt, nx) S1 = F) ∧ L1.length + totL (sufs d S1) ≤ 199000) (fun v1 _ _ _ => lenB v1)
  case atStart => exact ⟨S, _, _, [], [], none, 0, L, aq, c, rfl, hcc, by simp; omega, hid (HR.out), HW1, HL1, HB1, hid (Own.empty _ _ _ _ _), hid (.inl ⟨rfl, rfl, rfl, rfl⟩), hid (fun p hp => by cases hp), HM1, HP1, HST1, HBW1, HOK1, hid (by simp), HF, by omega⟩
  case round =>
    clear HB1 HM1 HP1 HST1 HBW1 HOK1 HF HW1 HL1 hs1
    obtain ⟨S1, a1, c1, lt, nx, q, cq, L1, aq1, cM, rfl, hc1, hnx, HR1, HW, HLT, HBX, HQO, HQS, HQB, HM, HMP, HST, HBW, HOK, HU, HF, htt⟩ := hrel
    have hsz := HST.out.ch.size
    by_cases hpos : 0 < S1.length
    · obtain ⟨k, x, hk0, hk1, hkx, hkin, hkout, hksz, hin2, hout2⟩ := run_at hpos HLT.out
      have hRW := HR1.out wr HBW.out
      obtain ⟨b1, o1, rfl, hcW⟩ := hRW.word hpos
      have HCW := hid hcW
      have HIN := hid hkin
      have HOUT := hid hkout
      have HSZ := hid hksz
      obtain ⟨hstW, hstT⟩ := HW.out.step HLT.out hk0 hk1 hin2 hout2
      obtain ⟨hx43, hx128⟩ : x ≠ 43 ∧ x.toNat < 128 := by
        rw [hkx]
        exact ltr_asc HW.out (wAt_mem S1 0 hpos) (hksz 0 hpos)
      have hfp : 0 < f := by
        have h1 := HW.out.hi _ (wAt_mem S1 0 hpos)
        have h2 := hksz 0 hpos
        omega
      have HFS := hid (foldW_step (f := f) (st := (ndsOf L1, lt, nx)) HLT.out hk0 hk1 hin2 hout2)
      obtain ⟨N2, hN2⟩ : ∃ N2, (bld f (ndsOf L1) (sufs (d + 1) (S1.take k))).1 = N2 := ⟨_, rfl⟩
      obtain ⟨I, hI2⟩ : ∃ I, (bld f (ndsOf L1) (sufs (d + 1) (S1.take k))).2 = I := ⟨_, rfl⟩
      have HOK2 : Hid (BOk (N2, lt ++ [x], nx ++ [(I : Int)])) := hid (by
        obtain ⟨g1, g2, g3⟩ := bld_ok f (ndsOf L1) (sufs (d + 1) (S1.take k)) hstW.rise (fun y hy => by
          obtain ⟨s, hs, rfl⟩ := List.mem_map.1 hy
          have h1 := hstW.hi s hs
          have h2 := hstW.lo s hs
          rw [List.length_drop, toL_len]
          omega) hfp HOK.out.1
        have := bldG_ok (bl := bld f) (g := (x, sufs (d + 1) (S1.take k))) HOK.out g2 g1 g3
        unfold bldG at this
        rwa [hN2, hI2] at this)
      have HF2 : Hid (foldW f d (N2, lt ++ [x], nx ++ [(I : Int)]) (S1.drop k) = F) := hid (by
        have := HFS.out
        unfold bldG at this
        rw [hN2, hI2] at this
        rw [← this]
        exact HF.out)
      have htt2 : N2.length + totL (sufs d (S1.drop k)) ≤ 199000 := by
        have := bld_len f (ndsOf L1) (sufs (d + 1) (S1.take k)) hstW.rise
        rw [hN2, ndsOf_length] at this
        omega
      have HN2 := hid hN2
      have HI2 := hid hI2
      have hHG := HBX.out.lt
      have hlsz : lt.length = nx.length := HOK.out.2.1
      obtain ⟨T2, hT2⟩ : ∃ T : ByteArray, ⟨(lt ++ [x]).toArray⟩ = T := ⟨_, rfl⟩
      have hcat := asc_str hx128 lt
      rw [hT2] at hcat
      have HX128 := hid hx128
      obtain ⟨T1, hT1⟩ : ∃ T : ByteArray, ⟨lt.toArray⟩ = T := ⟨_, rfl⟩
      have hts : T1.size ≤ 3000 := by
        rw [← hT1]
        show lt.toArray.size ≤ 3000
        rw [List.size_toArray]
        omega
      have n1 : ¬ 9223372036854775807 < T1.size + 1 := by omega
      have w32 : IntKind.i32.wrap (x.toNat : Int) = (x.toNat : Int) := wrap32_asc hx128
      have HX43 := hid hx43
      clear hx43 hx128
      rw [hT1] at hcat HBX
      have HT2 := hid hT2
      clear hT2 hT1
      have hgk : ¬ Kq m mp aq1 w.heap.size := fun h => (HM.out.klt _ h).2 (.inr (.inl rfl))
      have HGK := hid hgk
      have hGq : ∀ p, q = some p → p.block ≠ w.heap.size := fun p e => by have := (HQB.out p e).1; omega
      have HX2 := hid (Ch.set wr w.heap.size 1 (.string T2))
      have HB2 := hid (HBX.out.set 1 (.string T2))
      have HM2 := hid (HM.out.ch (HX2.out.mono (fun b _ e => .inr (.inl e))))
      have HQ2 := hid (HX2.out.own HQO.out hGq)
      have HP2 := hid (HMP.out.ch HX2.out (by omega))
      have HBW2 := hid (HBW.out.trans (HX2.out.below (by omega) (fun b e => by omega)))
      have hwz : (wr.setCell ⟨w.heap.size, 1, none⟩ (.string T2)).heap.size = wr.heap.size := by simp
      have HC : Hid (∀ w', Ext (wr.setCell ⟨w.heap.size, 1, none⟩ (.string T2)).drew w' → Calls Tryd.prog 36 #[.pointer (some ⟨m, 0, none⟩), .slice (some ⟨b1, o1, none⟩) k c1, .int .i64 ((d : Int) + 1)] w' (MkE w' B m mp 55 [.map (some mp)] (Aq A w.heap.size q) (MapOk mp) aq1 (bld f (ndsOf L1) (sufs (d + 1) (S1.take k))))) := hid (by
        intro w' hw'
        obtain ⟨f', rfl⟩ : ∃ f', f = f' + 1 := ⟨f - 1, by omega⟩
        have hw2 : Ext (wr.setCell ⟨w.heap.size, 1, none⟩ (.string T2)) w' := (Ext.refl _).drew.trans hw'
        have hsw := hw2.size
        have hbw2 : Below B w w' := HBW2.out.trans (Below.mono hw2.below (by omega))
        have := HIH.out f' (by omega) (d + 1) (S1.take k) (Aq A w.heap.size q) aq1 cM L1 (some ⟨b1, o1, none⟩) c1 w' (HM2.out.ext hw2) (HP2.out.ext hw2) HOK.out.1 hstW (by rw [List.length_take]; omega) (by omega) (by omega) (by rw [List.length_take]; omega)
          (fun b hb => by
            rcases hb with h | h | h
            · have := HAL.out b h; omega
            · omega
            · cases q with
              | none => simp [blkA] at h
              | some p =>
                have e : p.block = b := by simpa [blkA] using h
                have := (HQB.out p rfl).2
                omega) (by omega) (fun w'' h => (HR1.out w'' (hbw2.trans h)).take k) (fun w'' h => HT.out w'' (hbw2.trans h))
        rw [List.length_take, Nat.min_eq_left hk1] at this
        exact this)
      have hd1 := hcW 0 hpos
      rw [Nat.add_zero] at hd1
      obtain ⟨s1, hs1⟩ : ∃ s, wAt S1 0 = s := ⟨_, rfl⟩
      have hz1 := hksz 0 hpos
      rw [hs1] at hd1 hz1 hkx
      have hx1 : s1[d] = x := by rw [hkx]; exact bAt_eq s1 d hz1
      have hp1 : (0 : Int) < (S1.length : Int) := by omega
      have c0 := HBX.out.cell (i := 0) rfl
      have c1' := HBX.out.cell (i := 1) rfl
      have c2 := HBX.out.cell (i := 2) rfl
      have cf := HBX.out.free 1
      have q1 : IntKind.i64.wrap ((d : Int) + 1) = (d : Int) + 1 := IntWalk.i64_in _ (by omega)
      clear hin2 hout2 hkin hkout hksz hcW hRW hstW hN2 hI2 hgk hkx hs1
      go_wp2_with fail
      go_loopw [9] (fun v wq => ∃ j : Nat, v = .int .i64 (j : Int) ∧ j ≤ k ∧ 0 < j ∧ wq = wr) (fun v _ => k - (intOf v).toNat)
      case atStart => exact ⟨1, rfl, hk0, by omega, by first | rfl | exact trivial⟩
      case round =>
        obtain ⟨j, rfl, hjk, hj0, rfl⟩ := hrel
        by_cases hjl : j < k
        · have hd2 := HCW.out j (by omega)
          have hz2 := HSZ.out j (by omega)
          have hl2 := HIN.out j hjl
          obtain ⟨s2, hs2⟩ : ∃ s, wAt S1 j = s := ⟨_, rfl⟩
          rw [hs2] at hd2 hz2 hl2
          have hx2 : s2[d] = x := by rw [← hl2]; exact bAt_eq s2 d hz2
          obtain ⟨o2, ho2⟩ : ∃ o2, o1 + j = o2 := ⟨_, rfl⟩
          rw [ho2] at hd2
          clear hs2 hl2
          go_wp2_with fail
          go_roundw
          case rel => exact ⟨j + 1, by go_num, by omega, by omega, by first | rfl | exact trivial⟩
          case measure => simp [intOf]; omega
        · obtain rfl : j = k := by omega
          by_cases hkl2 : j < S1.length
          · have hd2 := HCW.out j hkl2
            have hz2 := HSZ.out j hkl2
            have hl2 := HOUT.out hkl2
            obtain ⟨s2, hs2⟩ : ∃ s, wAt S1 j = s := ⟨_, rfl⟩
            rw [hs2] at hd2 hz2 hl2
            obtain ⟨y, hy⟩ : ∃ y, s2[d] = y := ⟨_, rfl⟩
            have hyx : ¬ ((y.toNat : Int) = (x.toNat : Int)) := fun e => by
              have e2 : y = x := UInt8.toNat_inj.1 (by omega)
              have e3 : ltr d s2 = y := by rw [← hy]; exact (bAt_eq s2 d hz2).symm
              exact hl2 (by rw [e3, e2])
            obtain ⟨o2, ho2⟩ : ∃ o2, o1 + j = o2 := ⟨_, rfl⟩
            rw [ho2] at hd2
            clear hs2 hl2
            go_wp2_with (refine wpList_asc rfl _ 21 9 rfl (by rw [Tryd.underlying21]; rfl) Tryd.underlying9 HX128.out rfl ?_)
            trace_state
            refine wp_region_flagM_at 10 8 (Ch (Kq m mp aq1)) (Ch (Kq m mp aq1)) (fun fl => [fun v _ => v = .pointer (some ⟨w.heap.size, 2, none⟩), fun v _ => v = .slice q nx.length cq, fun v _ => v = .pointer (some ⟨m, 0, none⟩), fun v _ => v = .slice (some ⟨b1, o1, none⟩) S1.length c1, fun v _ => v = .int .i64 (j : Int), fun v _ => v = .slice (some ⟨b1, o1, none⟩) j c1, fun v _ => v = .int .i64 (d : Int), fun v _ => v = .int .i64 ((d : Int) + 1), fun v w' => fl = true ∧ v = .int .i64 (I : Int) ∧ ∃ aq' c' L', ndsOf L' = N2 ∧ MkP w' B m mp (Aq A w.heap.size q) aq' c' L' ∧ MapOk mp w' (ndsOf L') ∧ Mst (wr.setCell ⟨w.heap.size, 1, none⟩ (.string T2)).drew w' m mp aq1 aq', fun v w' => fl = true ∧ ∃ g, v = .slice (some ⟨g, 0, none⟩) 1 1 ∧ Rd w' (some ⟨g, 0, none⟩) [.int .i64 (I : Int)]])
              [[(7, none)], [(56, some 0)], [(0, none)], [(1, none)], [(9, none)], [(59, some 3), (60, some 4)], [(2, none)], [(62, some 6)], [(58, some 2), (61, some 5), (63, some 7)], [(64, some 8)]] (by kernel_rfl) (by kernel_rfl) rfl (by omega) (fun x h => Ch.of_ext _ h) (fun x y h k => h.thenExt k) (fun x y h k => (Ch.of_ext _ h).trans k) ?_ ?_ ?_ ?_
            · intro fl i hi
              obtain rfl | rfl | rfl | rfl | rfl | rfl | rfl | rfl | rfl | rfl : i = 0 ∨ i = 1 ∨ i = 2 ∨ i = 3 ∨ i = 4 ∨ i = 5 ∨ i = 6 ∨ i = 7 ∨ i = 8 ∨ i = 9 := by omega
              · exact fun _ _ _ h _ => h
              · exact fun _ _ _ h _ => h
              · exact fun _ _ _ h _ => h
              · exact fun _ _ _ h _ => h
              · exact fun _ _ _ h _ => h
              · exact fun _ _ _ h _ => h
              · exact fun _ _ _ h _ => h
              · exact fun _ _ _ h _ => h
              · exact fun v x y h k => by obtain ⟨hf, e1, aq', c', L', e2, e3, e4, e5⟩ := h; exact ⟨hf, e1, aq', c', L', e2, e3.ext k, e4.ext k, e5.trans (Mst.of_ext k m mp aq')⟩
              · exact fun v x y h k => by obtain ⟨hf, g, e1, e2⟩ := h; exact ⟨hf, g, e1, e2.ext k⟩
            · intro i hi hiM
              obtain rfl | rfl | rfl | rfl | rfl | rfl | rfl | rfl | rfl | rfl : i = 0 ∨ i = 1 ∨ i = 2 ∨ i = 3 ∨ i = 4 ∨ i = 5 ∨ i = 6 ∨ i = 7 ∨ i = 8 ∨ i = 9 := by omega
              · exact fun _ _ _ _ h _ => h
              · exact fun _ _ _ _ h _ => h
              · exact fun _ _ _ _ h _ => h
              · exact fun _ _ _ _ h _ => h
              · exact fun _ _ _ _ h _ => h
              · exact fun _ _ _ _ h _ => h
              · exact fun _ _ _ _ h _ => h
              · exact fun _ _ _ _ h _ => h
              · exact absurd rfl hiM
              · exact fun v x y _ h _ => by cases h.1
            · refine ⟨?_, ?_, ?_, ?_, ?_, ?_, ?_, ?_, ?_, ?_, trivial⟩
              · rw [if_neg (by decide)]
                rintro fl ρ w1 hw hcst hfn hk
                clear hw
                simp only [known, List.getD_cons_zero, List.getD_cons_succ, Nat.reduceAdd] at hk
                simp only [List.getD_cons_zero, List.getD_cons_succ, Nat.reduceAdd, flowAt]
                go_simp
                exact ⟨Ext.refl _, by first | rfl | trivial⟩
              · rw [if_neg (by decide)]
                rintro fl ρ w1 hw hcst hfn hk
                have c0 := hw.cell (b := w.heap.size) (o := 2) (v := .slice q nx.length cq) (by first | (simp [*]; done) | (simp [*, go_sem]; done) | go_cell) (by exact HGK.out)
                clear hw
                simp only [known, List.getD_cons_zero, List.getD_cons_succ, Nat.reduceAdd] at hk
                simp only [List.getD_cons_zero, List.getD_cons_succ, Nat.reduceAdd, flowAt]
                go_simp
                exact ⟨Ext.refl _, by first | rfl | trivial⟩
              · rw [if_neg (by decide)]
                rintro fl ρ w1 hw hcst hfn hk
                clear hw
                simp only [known, List.getD_cons_zero, List.getD_cons_succ, Nat.reduceAdd] at hk
                simp only [List.getD_cons_zero, List.getD_cons_succ, Nat.reduceAdd, flowAt]
                go_simp
                exact ⟨Ext.refl _, by first | rfl | trivial⟩
              · rw [if_neg (by decide)]
                rintro fl ρ w1 hw hcst hfn hk
                clear hw
                simp only [known, List.getD_cons_zero, List.getD_cons_succ, Nat.reduceAdd] at hk
                simp only [List.getD_cons_zero, List.getD_cons_succ, Nat.reduceAdd, flowAt]
                go_simp
                exact ⟨Ext.refl _, by first | rfl | trivial⟩
              · rw [if_neg (by decide)]
                rintro fl ρ w1 hw hcst hfn hk
                clear hw
                simp only [known, List.getD_cons_zero, List.getD_cons_succ, Nat.reduceAdd] at hk
                simp only [List.getD_cons_zero, List.getD_cons_succ, Nat.reduceAdd, flowAt]
                go_simp
                exact ⟨Ext.refl _, by first | rfl | trivial⟩
              · rw [if_neg (by decide)]
                rintro fl ρ w1 hw hcst hfn hk
                simp only [known, List.getD_cons_zero, List.getD_cons_succ, Nat.reduceAdd] at hk
                simp only [List.getD_cons_zero, List.getD_cons_succ, Nat.reduceAdd, flowAt]
                go_simp
                (rw [if_pos (by omega)]; exact ⟨Ext.refl _, rfl⟩)
              · rw [if_neg (by decide)]
                rintro fl ρ w1 hw hcst hfn hk
                clear hw
                simp only [known, List.getD_cons_zero, List.getD_cons_succ, Nat.reduceAdd] at hk
                simp only [List.getD_cons_zero, List.getD_cons_succ, Nat.reduceAdd, flowAt]
                go_simp
                exact ⟨Ext.refl _, by first | rfl | trivial⟩
              · rw [if_neg (by decide)]
                rintro fl ρ w1 hw hcst hfn hk
                simp only [known, List.getD_cons_zero, List.getD_cons_succ, Nat.reduceAdd] at hk
                simp only [List.getD_cons_zero, List.getD_cons_succ, Nat.reduceAdd, flowAt]
                go_simp
                exact ⟨Ext.refl _, by first | rfl | rw [q1]⟩
              · rw [if_pos (by decide)]
                rintro ρ w1 hw hcst hfn hk
                simp only [known, List.getD_cons_zero, List.getD_cons_succ, Nat.reduceAdd] at hk
                simp only [List.getD_cons_zero, List.getD_cons_succ, Nat.reduceAdd]
                (obtain ⟨h58, h61, h63, -⟩ := hk; unfold invAt execOp; go_simp; refine (HC.out _ hw).mono ?_; rintro e w' ⟨rfl, aq', c', L', e2, e3, e4, e5⟩; first | exact ⟨_, rfl, e5.ch, by rw [HI2.out], aq', c', L', by rw [e2, HN2.out], e3, e4, (Mst.of_ext hw m mp aq1).trans e5⟩ | exact ⟨_, rfl, e5.ch, by trivial, by rw [HI2.out], aq', c', L', by rw [e2, HN2.out], e3, e4, (Mst.of_ext hw m mp aq1).trans e5⟩)
              · rw [if_neg (by decide)]
                rintro fl ρ w1 hw hcst hfn hk
                simp only [known, List.getD_cons_zero, List.getD_cons_succ, Nat.reduceAdd] at hk
                simp only [List.getD_cons_zero, List.getD_cons_succ, Nat.reduceAdd, flowAt]
                go_simp
                exact ⟨(Ext.refl _).alloc _, w1.heap.size, rfl, rd_of_new rfl [.int .i64 (I : Int)] _⟩
            intro vs w1 hw hf
            simp only [flowFacts, Nat.reduceAdd] at hf
            obtain ⟨e0, e1, e2, e3, e4, e5, e6, e7, e8, e9, -⟩ := hf
            simp only [List.take_succ_cons, List.take_zero, List.drop_succ_cons, List.drop_zero, putAll, Act.put, Nat.reduceAdd, List.setIfInBounds_toArray, List.set_cons_zero, List.set_cons_succ, e0, e1, e2, e3, e4, e5, e6, e7]
            clear e0 e1 e2 e3 e4 e5 e6 e7
            obtain ⟨-, e64, aq', cM', L', eN, hM6, hP6, hS6⟩ := e8
            obtain ⟨-, g0, hg0, hgr⟩ := e9
            rw [hg0]
            have HGR := hid hgr
            have hch : Ch (Kq m mp aq1) (wr.setCell ⟨w.heap.size, 1, none⟩ (.string T2)) w1 := (Ch.of_ext _ (Ext.refl _).drew).trans hw
            have HCH := hid hch
            have HB6 := hid (HB2.out.ch hch HGK.out)
            have HQ6 := hid (hch.own HQ2.out (fun p e h => (HM.out.klt _ h).2 (.inr (.inr (by rw [e]; rfl)))))
            have HM6 := hid hM6
            have HP6 := hid hP6
            have HS6 := hid hS6
            have HEN := hid eN
            have hz6 := hch.size
            have hgq : ¬ blkA q = some w.heap.size := fun e => by
              cases q with
              | none => simp [blkA] at e
              | some p => exact hGq p rfl (by simpa [blkA] using e)
            have HGQ := hid hgq
            clear hch hw hg0 hgr hM6 hP6 hS6 eN e64 c0 c1' c2 hgq
            go_wp2_with (at_builtin; refine wpList_appendO rfl _ _ 63 rfl El_int64 rfl rfl [.int .i64 (I : Int)] HGR.out rfl (by omega) (by simp [Value.oneCell']) HQ6.out HQS.out (by omega) (by unfold maxLen; omega) (by omega) ?_; intro g8 c8 w8 ho8 hc8 hs8; have HO8 := hid ho8; have HC8 := hid hc8; have HS8 := hid hs8; have HB8 := hid (HB6.out.ch hc8 HGQ.out); have e0 := HB8.out.cell (i := 0) rfl; have e1 := HB8.out.cell (i := 1) rfl; have e2 := HB8.out.cell (i := 2) rfl; have ef := HB8.out.free 2; clear ho8 hc8 hs8)
            have HM9 : Hid (MkP (w8.setCell ⟨w.heap.size, 2, none⟩ (.slice (some ⟨g8, 0, none⟩) (nx.length + 1) c8)) B m mp (Aq A w.heap.size (some ⟨g8, 0, none⟩)) aq' cM' L') := hid (by
              have h7 := HM6.out.also (A' := fun b => Aq A w.heap.size q b ∨ b = g8) (fun b hb => by
                rcases hb with h | rfl
                · exact .inl h
                · rcases HS8.out with h | h
                  · exact .inl (.inr (.inr h))
                  · exact .inr h)
              have h9 := (h7.ch (HC8.out.mono (fun b _ e => .inl (.inr (.inr e))))).ch ((Ch.set w8 w.heap.size 2 (.slice (some ⟨g8, 0, none⟩) (nx.length + 1) c8)).mono (fun b _ e => .inl (.inr (.inl e))))
              exact h9.also (fun b hb => by
                rcases hb with h | h | h
                · exact .inl (.inl (.inl h))
                · exact .inl (.inl (.inr (.inl h)))
                · exact .inl (.inr (by simpa [blkA] using h.symm))))
            have HF8 := hid (HO8.out.form (by omega))
            have hg8 : w.heap.size < g8 ∧ g8 < w8.heap.size := by
              obtain ⟨g9, e9, k1, k2, -, -⟩ := HF8.out
              simp only [Option.some.injEq, Addr.mk.injEq, and_true] at e9
              subst e9
              exact ⟨k1, k2⟩
            have HZ9 := hid (Ch.set w8 w.heap.size 2 (.slice (some ⟨g8, 0, none⟩) (nx.length + 1) c8))
            have HST9 := hid (HST.out.weave HX2.out (Nat.le_refl _) ((Mst.of_ext (Ext.refl _).drew m mp aq1).trans HS6.out) HC8.out (fun p e => by have := (HQB.out p e).1; omega) HZ9.out)
            have HBW9 := hid (HST9.out.ch.below hB hkl.out)
            have HP9 := hid ((HP6.out.ch HC8.out (fun e => HM6.out.am.2 (.inr (.inr e)))).ch HZ9.out (fun e => HM6.out.am.2 (.inr (.inl e))))
            have hL2 : L'.length = N2.length := by rw [← HEN.out, ndsOf_length]
            go_roundw
            case rel =>
              refine ⟨S1.drop j, _, _, lt ++ [x], nx ++ [(I : Int)], some ⟨g8, 0, none⟩, c8, L', aq', cM', by rw [List.length_drop], by rw [List.length_drop]; omega, by rw [List.length_append, List.length_drop]; simp; omega, hid (fun w' h => by rw [← ho2]; exact (HR1.out w' h).drop j), hid (HW.out.sub (List.drop_sublist _ _)), hid (fun s hs => HLT.out s (List.mem_of_mem_drop hs)), hid ?_, hid ?_, hid (.inr ⟨g8, rfl⟩), hid ?_, HM9, HP9, HST9, HBW9, hid ?_, hid ?_, hid ?_, by omega⟩
              · rw [List.length_append, HT2.out]
                exact HB8.out.set 2 _
              · rw [List.length_append, intsV_add]
                exact HZ9.out.own HO8.out (fun p e => by simp only [Option.some.injEq] at e; subst e; simp; omega)
              · intro p e
                simp only [Option.some.injEq] at e
                subst e
                exact ⟨hg8.1, by simpa using hg8.2⟩
              · rw [HEN.out]; exact HOK2.out
              · intro u hu
                rcases List.mem_append.1 hu with h | h
                · exact HU.out u h
                · rw [List.mem_singleton] at h
                  subst h
                  exact HX43.out
              · rw [HEN.out]; exact HF2.out
            case measure => simp [lenB]; omega
          · have hkl3 : j = S1.length := by omega
            have hkl4 : ¬ ((j : Int) < (S1.length : Int)) := by omega
            have HK3 := hid hkl3
            clear hkl3 hkl2
            go_wp2_with (refine wpList_asc rfl _ 21 9 rfl (by rw [Tryd.underlying21]; rfl) Tryd.underlying9 HX128.out rfl ?_)
            trace_state
            refine wp_region_flagM_at 10 8 (Ch (Kq m mp aq1)) (Ch (Kq m mp aq1)) (fun fl => [fun v _ => v = .pointer (some ⟨w.heap.size, 2, none⟩), fun v _ => v = .slice q nx.length cq, fun v _ => v = .pointer (some ⟨m, 0, none⟩), fun v _ => v = .slice (some ⟨b1, o1, none⟩) S1.length c1, fun v _ => v = .int .i64 (j : Int), fun v _ => v = .slice (some ⟨b1, o1, none⟩) j c1, fun v _ => v = .int .i64 (d : Int), fun v _ => v = .int .i64 ((d : Int) + 1), fun v w' => fl = true ∧ v = .int .i64 (I : Int) ∧ ∃ aq' c' L', ndsOf L' = N2 ∧ MkP w' B m mp (Aq A w.heap.size q) aq' c' L' ∧ MapOk mp w' (ndsOf L') ∧ Mst (wr.setCell ⟨w.heap.size, 1, none⟩ (.string T2)).drew w' m mp aq1 aq', fun v w' => fl = true ∧ ∃ g, v = .slice (some ⟨g, 0, none⟩) 1 1 ∧ Rd w' (some ⟨g, 0, none⟩) [.int .i64 (I : Int)]])
              [[(7, none)], [(56, some 0)], [(0, none)], [(1, none)], [(9, none)], [(59, some 3), (60, some 4)], [(2, none)], [(62, some 6)], [(58, some 2), (61, some 5), (63, some 7)], [(64, some 8)]] (by kernel_rfl) (by kernel_rfl) rfl (by omega) (fun x h => Ch.of_ext _ h) (fun x y h k => h.thenExt k) (fun x y h k => (Ch.of_ext _ h).trans k) ?_ ?_ ?_ ?_
            · intro fl i hi
              obtain rfl | rfl | rfl | rfl | rfl | rfl | rfl | rfl | rfl | rfl : i = 0 ∨ i = 1 ∨ i = 2 ∨ i = 3 ∨ i = 4 ∨ i = 5 ∨ i = 6 ∨ i = 7 ∨ i = 8 ∨ i = 9 := by omega
              · exact fun _ _ _ h _ => h
              · exact fun _ _ _ h _ => h
              · exact fun _ _ _ h _ => h
              · exact fun _ _ _ h _ => h
              · exact fun _ _ _ h _ => h
              · exact fun _ _ _ h _ => h
              · exact fun _ _ _ h _ => h
              · exact fun _ _ _ h _ => h
              · exact fun v x y h k => by obtain ⟨hf, e1, aq', c', L', e2, e3, e4, e5⟩ := h; exact ⟨hf, e1, aq', c', L', e2, e3.ext k, e4.ext k, e5.trans (Mst.of_ext k m mp aq')⟩
              · exact fun v x y h k => by obtain ⟨hf, g, e1, e2⟩ := h; exact ⟨hf, g, e1, e2.ext k⟩
            · intro i hi hiM
              obtain rfl | rfl | rfl | rfl | rfl | rfl | rfl | rfl | rfl | rfl : i = 0 ∨ i = 1 ∨ i = 2 ∨ i = 3 ∨ i = 4 ∨ i = 5 ∨ i = 6 ∨ i = 7 ∨ i = 8 ∨ i = 9 := by omega
              · exact fun _ _ _ _ h _ => h
              · exact fun _ _ _ _ h _ => h
              · exact fun _ _ _ _ h _ => h
              · exact fun _ _ _ _ h _ => h
              · exact fun _ _ _ _ h _ => h
              · exact fun _ _ _ _ h _ => h
              · exact fun _ _ _ _ h _ => h
              · exact fun _ _ _ _ h _ => h
              · exact absurd rfl hiM
              · exact fun v x y _ h _ => by cases h.1
            · refine ⟨?_, ?_, ?_, ?_, ?_, ?_, ?_, ?_, ?_, ?_, trivial⟩
              · rw [if_neg (by decide)]
                rintro fl ρ w1 hw hcst hfn hk
                clear hw
                simp only [known, List.getD_cons_zero, List.getD_cons_succ, Nat.reduceAdd] at hk
                simp only [List.getD_cons_zero, List.getD_cons_succ, Nat.reduceAdd, flowAt]
                go_simp
                exact ⟨Ext.refl _, by first | rfl | trivial⟩
              · rw [if_neg (by decide)]
                rintro fl ρ w1 hw hcst hfn hk
                have c0 := hw.cell (b := w.heap.size) (o := 2) (v := .slice q nx.length cq) (by first | (simp [*]; done) | (simp [*, go_sem]; done) | go_cell) (by exact HGK.out)
                clear hw
                simp only [known, List.getD_cons_zero, List.getD_cons_succ, Nat.reduceAdd] at hk
                simp only [List.getD_cons_zero, List.getD_cons_succ, Nat.reduceAdd, flowAt]
                go_simp
                exact ⟨Ext.refl _, by first | rfl | trivial⟩
              · rw [if_neg (by decide)]
                rintro fl ρ w1 hw hcst hfn hk
                clear hw
                simp only [known, List.getD_cons_zero, List.getD_cons_succ, Nat.reduceAdd] at hk
                simp only [List.getD_cons_zero, List.getD_cons_succ, Nat.reduceAdd, flowAt]
                go_simp
                exact ⟨Ext.refl _, by first | rfl | trivial⟩
              · rw [if_neg (by decide)]
                rintro fl ρ w1 hw hcst hfn hk
                clear hw
                simp only [known, List.getD_cons_zero, List.getD_cons_succ, Nat.reduceAdd] at hk
                simp only [List.getD_cons_zero, List.getD_cons_succ, Nat.reduceAdd, flowAt]
                go_simp
                exact ⟨Ext.refl _, by first | rfl | trivial⟩
              · rw [if_neg (by decide)]
                rintro fl ρ w1 hw hcst hfn hk
                clear hw
                simp only [known, List.getD_cons_zero, List.getD_cons_succ, Nat.reduceAdd] at hk
                simp only [List.getD_cons_zero, List.getD_cons_succ, Nat.reduceAdd, flowAt]
                go_simp
                exact ⟨Ext.refl _, by first | rfl | trivial⟩
              · rw [if_neg (by decide)]
                rintro fl ρ w1 hw hcst hfn hk
                simp only [known, List.getD_cons_zero, List.getD_cons_succ, Nat.reduceAdd] at hk
                simp only [List.getD_cons_zero, List.getD_cons_succ, Nat.reduceAdd, flowAt]
                go_simp
                (rw [if_pos (by omega)]; exact ⟨Ext.refl _, rfl⟩)
              · rw [if_neg (by decide)]
                rintro fl ρ w1 hw hcst hfn hk
                clear hw
                simp only [known, List.getD_cons_zero, List.getD_cons_succ, Nat.reduceAdd] at hk
                simp only [List.getD_cons_zero, List.getD_cons_succ, Nat.reduceAdd, flowAt]
                go_simp
                exact ⟨Ext.refl _, by first | rfl | trivial⟩
              · rw [if_neg (by decide)]
                rintro fl ρ w1 hw hcst hfn hk
                simp only [known, List.getD_cons_zero, List.getD_cons_succ, Nat.reduceAdd] at hk
                simp only [List.getD_cons_zero, List.getD_cons_succ, Nat.reduceAdd, flowAt]
                go_simp
                exact ⟨Ext.refl _, by first | rfl | rw [q1]⟩
              · rw [if_pos (by decide)]
                rintro ρ w1 hw hcst hfn hk
                simp only [known, List.getD_cons_zero, List.getD_cons_succ, Nat.reduceAdd] at hk
                simp only [List.getD_cons_zero, List.getD_cons_succ, Nat.reduceAdd]
                (obtain ⟨h58, h61, h63, -⟩ := hk; unfold invAt execOp; go_simp; refine (HC.out _ hw).mono ?_; rintro e w' ⟨rfl, aq', c', L', e2, e3, e4, e5⟩; first | exact ⟨_, rfl, e5.ch, by rw [HI2.out], aq', c', L', by rw [e2, HN2.out], e3, e4, (Mst.of_ext hw m mp aq1).trans e5⟩ | exact ⟨_, rfl, e5.ch, by trivial, by rw [HI2.out], aq', c', L', by rw [e2, HN2.out], e3, e4, (Mst.of_ext hw m mp aq1).trans e5⟩)
              · rw [if_neg (by decide)]
                rintro fl ρ w1 hw hcst hfn hk
                simp only [known, List.getD_cons_zero, List.getD_cons_succ, Nat.reduceAdd] at hk
                simp only [List.getD_cons_zero, List.getD_cons_succ, Nat.reduceAdd, flowAt]
                go_simp
                exact ⟨(Ext.refl _).alloc _, w1.heap.size, rfl, rd_of_new rfl [.int .i64 (I : Int)] _⟩
            intro vs w1 hw hf
            simp only [flowFacts, Nat.reduceAdd] at hf
            obtain ⟨e0, e1, e2, e3, e4, e5, e6, e7, e8, e9, -⟩ := hf
            simp only [List.take_succ_cons, List.take_zero, List.drop_succ_cons, List.drop_zero, putAll, Act.put, Nat.reduceAdd, List.setIfInBounds_toArray, List.set_cons_zero, List.set_cons_succ, e0, e1, e2, e3, e4, e5, e6, e7]
            clear e0 e1 e2 e3 e4 e5 e6 e7
            obtain ⟨-, e64, aq', cM', L', eN, hM6, hP6, hS6⟩ := e8
            obtain ⟨-, g0, hg0, hgr⟩ := e9
            rw [hg0]
            have HGR := hid hgr
            have hch : Ch (Kq m mp aq1) (wr.setCell ⟨w.heap.size, 1, none⟩ (.string T2)) w1 := (Ch.of_ext _ (Ext.refl _).drew).trans hw
            have HCH := hid hch
            have HB6 := hid (HB2.out.ch hch HGK.out)
            have HQ6 := hid (hch.own HQ2.out (fun p e h => (HM.out.klt _ h).2 (.inr (.inr (by rw [e]; rfl)))))
            have HM6 := hid hM6
            have HP6 := hid hP6
            have HS6 := hid hS6
            have HEN := hid eN
            have hz6 := hch.size
            have hgq : ¬ blkA q = some w.heap.size := fun e => by
              cases q with
              | none => simp [blkA] at e
              | some p => exact hGq p rfl (by simpa [blkA] using e)
            have HGQ := hid hgq
            clear hch hw hg0 hgr hM6 hP6 hS6 eN e64 c0 c1' c2 hgq
            go_wp2_with (at_builtin; refine wpList_appendO rfl _ _ 63 rfl El_int64 rfl rfl [.int .i64 (I : Int)] HGR.out rfl (by omega) (by simp [Value.oneCell']) HQ6.out HQS.out (by omega) (by unfold maxLen; omega) (by omega) ?_; intro g8 c8 w8 ho8 hc8 hs8; have HO8 := hid ho8; have HC8 := hid hc8; have HS8 := hid hs8; have HB8 := hid (HB6.out.ch hc8 HGQ.out); have e0 := HB8.out.cell (i := 0) rfl; have e1 := HB8.out.cell (i := 1) rfl; have e2 := HB8.out.cell (i := 2) rfl; have ef := HB8.out.free 2; clear ho8 hc8 hs8)
            have HM9 : Hid (MkP (w8.setCell ⟨w.heap.size, 2, none⟩ (.slice (some ⟨g8, 0, none⟩) (nx.length + 1) c8)) B m mp (Aq A w.heap.size (some ⟨g8, 0, none⟩)) aq' cM' L') := hid (by
              have h7 := HM6.out.also (A' := fun b => Aq A w.heap.size q b ∨ b = g8) (fun b hb => by
                rcases hb with h | rfl
                · exact .inl h
                · rcases HS8.out with h | h
                  · exact .inl (.inr (.inr h))
                  · exact .inr h)
              have h9 := (h7.ch (HC8.out.mono (fun b _ e => .inl (.inr (.inr e))))).ch ((Ch.set w8 w.heap.size 2 (.slice (some ⟨g8, 0, none⟩) (nx.length + 1) c8)).mono (fun b _ e => .inl (.inr (.inl e))))
              exact h9.also (fun b hb => by
                rcases hb with h | h | h
                · exact .inl (.inl (.inl h))
                · exact .inl (.inl (.inr (.inl h)))
                · exact .inl (.inr (by simpa [blkA] using h.symm))))
            have HF8 := hid (HO8.out.form (by omega))
            have hg8 : w.heap.size < g8 ∧ g8 < w8.heap.size := by
              obtain ⟨g9, e9, k1, k2, -, -⟩ := HF8.out
              simp only [Option.some.injEq, Addr.mk.injEq, and_true] at e9
              subst e9
              exact ⟨k1, k2⟩
            have HZ9 := hid (Ch.set w8 w.heap.size 2 (.slice (some ⟨g8, 0, none⟩) (nx.length + 1) c8))
            have HST9 := hid (HST.out.weave HX2.out (Nat.le_refl _) ((Mst.of_ext (Ext.refl _).drew m mp aq1).trans HS6.out) HC8.out (fun p e => by have := (HQB.out p e).1; omega) HZ9.out)
            have HBW9 := hid (HST9.out.ch.below hB hkl.out)
            have HP9 := hid ((HP6.out.ch HC8.out (fun e => HM6.out.am.2 (.inr (.inr e)))).ch HZ9.out (fun e => HM6.out.am.2 (.inr (.inl e))))
            have hL2 : L'.length = N2.length := by rw [← HEN.out, ndsOf_length]
            go_roundw
            case rel =>
              refine ⟨S1.drop j, _, _, lt ++ [x], nx ++ [(I : Int)], some ⟨g8, 0, none⟩, c8, L', aq', cM', by rw [List.length_drop], by rw [List.length_drop]; omega, by rw [List.length_append, List.length_drop]; simp; omega, hid (fun w' h => by rw [List.drop_of_length_le (by have := HK3.out; omega)]; exact Rd.nil _ _), hid (HW.out.sub (List.drop_sublist _ _)), hid (fun s hs => HLT.out s (List.mem_of_mem_drop hs)), hid ?_, hid ?_, hid (.inr ⟨g8, rfl⟩), hid ?_, HM9, HP9, HST9, HBW9, hid ?_, hid ?_, hid ?_, by omega⟩
              · rw [List.length_append, HT2.out]
                exact HB8.out.set 2 _
              · rw [List.length_append, intsV_add]
                exact HZ9.out.own HO8.out (fun p e => by simp only [Option.some.injEq] at e; subst e; simp; omega)
              · intro p e
                simp only [Option.some.injEq] at e
                subst e
                exact ⟨hg8.1, by simpa using hg8.2⟩
              · rw [HEN.out]; exact HOK2.out
              · intro u hu
                rcases List.mem_append.1 hu with h | h
                · exact HU.out u h
                · rw [List.mem_singleton] at h
                  subst h
                  exact HX43.out
              · rw [HEN.out]; exact HF2.out
            case measure => simp [lenB]; omega
    · obtain rfl : S1 = [] := List.eq_nil_of_length_eq_zero (by omega)
      have hF2 := HF.out
      rw [foldW_nil] at hF2
      have HFE := hid hF2
      obtain ⟨o1, o2, o3⟩ := HOK.out
      have HA2 := hid (HM.out.also (A' := A) (fun b h => .inl (.inl h)))
      have HN := hid (node_any B m mp A aq1 cM L1 false ⟨lt.toArray⟩ q cq nx wr HA2.out hmp HMP.out (by omega) HQO.out.rd (fun hn p e => ⟨(HQB.out p e).2, fun h => HM.out.am.1 (by rw [← h]; exact .inr (.inr (by rw [e]; rfl))), fun h => HM.out.am.2 (by rw [← h]; exact .inr (.inr (by rw [e]; rfl))), fun h => by have := HAL.out _ h; have := (HQB.out p e).1; omega, fun h => by
        cases aq1 with
        | none => simp [blkA] at h
        | some r =>
          have h2 : r.block = p.block := by simpa [blkA] using h
          exact (HM.out.aqm r rfl).2.2.2 (by rw [h2]; exact .inr (.inr (by rw [e]; rfl)))⟩) ⟨by
        show lt.toArray.size = nx.length
        rw [List.size_toArray]
        exact o2, fun j hj => (o3 j hj).1, fun u hu => HU.out u (by simpa using hu)⟩ (by simp at hnx; omega) (fun j hj => by
        have := (o3 j hj).2
        simp only [ndsOf_length] at this
        omega) (fun b h => by have := HAL.out b h; omega) (by omega) (HT.out wr HBW.out))
      have c0 := HBX.out.cell (i := 0) rfl
      have c1' := HBX.out.cell (i := 1) rfl
      have c2 := HBX.out.cell (i := 2) rfl
      obtain ⟨T1, hT1⟩ : ∃ T : ByteArray, ⟨lt.toArray⟩ = T := ⟨_, rfl⟩
      rw [hT1] at c1' HN
      have HT1 := hid hT1
      clear o1 o2 o3 hT1 hF2
      go_wp2_with fail
      with_reducible refine HN.out.mono ?_
      rintro e w9 ⟨rfl, aq', c', L', e1, e2, e3, e4⟩
      have HE1 := hid e1
      have HE2 := hid e2
      have HE3 := hid e3
      have HE4 := hid e4
      clear e1 e2 e3 e4
      go_wp2_with fail
      go_returns
      have hR : R = putN (ndsOf L1) ⟨false, T1, nx⟩ := by rw [HRR.out, ← HFE.out, ← HT1.out]
      exact ⟨by rw [hR]; rfl, aq', c', L', by rw [hR]; exact HE1.out, HE2.out, HE3.out, HST.out.trans HE4.out⟩


set_option maxRecDepth 100000 in
set_option maxHeartbeats 8000000 in
theorem build_yes (B m mp f : Nat) (hmp : mp ≠ m) (ih : ∀ f', f' < f → BuildC B m mp f') (d : Nat) (S : List ByteArray) (hpos : 0 < S.length) (hz : (wAt S 0).size = d) (A : Nat → Prop) (aq : Option Addr) (c : Nat) (L : List NdP) (a : Option Addr) (cc : Nat) (w : World)
    (hM : MkP w B m mp A aq c L) (hS : MapOk mp w (ndsOf L)) (hDn : Dn (ndsOf L)) (hW : WsOk d (f + 1) S) (hlen : (S).length ≤ 3000) (hdf : d + f ≤ 100) (htot : L.length + totL (sufs d S) ≤ 199000) (hcc : (S).length ≤ cc) (hA : ∀ b, A b → b < w.heap.size) (hB : B ≤ w.heap.size)
    (hR : ∀ w', Below B w w' → Rd w' a (strsV S)) (hT : ∀ w', Below B w w' → TabF w') :
    Calls Tryd.prog 36 #[.pointer (some ⟨m, 0, none⟩), .slice a (S).length cc, .int .i64 (d : Int)] w (MkE w B m mp 55 [.map (some mp)] A (MapOk mp) aq (bld (f + 1) (ndsOf L) (sufs d S))) := by
  have hfb : finB (sufs d S) = true := by cases S with | nil => simp at hpos | cons s r => exact (finB_cons (hW.lo s (by simp))).trans (decide_eq_true hz)
  have hgo : goOn d S = (S.drop 1) := by unfold goOn; rw [hfb]; simp
  have hbw := bld_words f d (ndsOf L) S
  rw [hfb, hgo] at hbw
  obtain ⟨R, hRR⟩ : ∃ R, bld (f + 1) (ndsOf L) (sufs d S) = R := ⟨_, rfl⟩
  rw [hRR] at hbw ⊢
  obtain ⟨F, hF⟩ : ∃ F, foldW f d (ndsOf L, [], []) (S.drop 1) = F := ⟨_, rfl⟩
  rw [hF] at hbw
  have HRR := hid hbw
  have hW1 := hW.sub (goOn_sub d S)
  have hlt1 := goOn_lt hW
  rw [hgo] at hW1 hlt1
  have HFT : Hid (∀ u : List UInt8, (⟨([] : List UInt8).toArray⟩ : ByteArray) = ⟨#[]⟩) := hid (fun _ => rfl)
  have HIH := hid ih
  have HAL := hid hA
  have HM0 := hid hM
  have HT := hid hT
  have HR := hid hR
  have hml := hM.bx.lt
  have hpl := hM.lt
  have htl : totL (sufs d (S.drop 1)) = totL (sufs d S) := by rw [← hgo, ← restL_sufs, totL_rest]
  have hRD0 := hR w (Below.refl _ _)
  obtain ⟨b9, o9, ha9, hc9⟩ := hRD0.word hpos
  subst ha9
  have hd9 := hc9 0 hpos
  rw [Nat.add_zero] at hd9
  have hb9 := World.block_lt_of_cell? _ _ hd9
  obtain ⟨s0, hs0e⟩ : ∃ s, wAt S 0 = s := ⟨_, rfl⟩
  rw [hs0e] at hd9 hz
  have hp9 : (0 : Int) < (S.length : Int) := by omega
  clear hc9 hR hs0e
  have hk0 : (s0.size : Int) = (d : Int) := by omega
  clear ih hA hT hRR hbw
  go_enter Tryd.func36, Tryd.ntmps36
  go_wp2_with fail
  · have hEn : Ext w (w.alloc (.cells #[.bool true, .string ⟨#[]⟩, .slice none 0 0] 65)) := ((Ext.refl w).alloc _)
    have hBx1 : Bx (w.alloc (.cells #[.bool true, .string ⟨#[]⟩, .slice none 0 0] 65)) w.heap.size 65 [.bool true, .string ⟨([] : List UInt8).toArray⟩, .slice none ([] : List Int).length 0] := Bx.new w _ _
    have hs1 := hEn.size
    have HB1 := hid hBx1
    have HM1 : Hid (MkP (w.alloc (.cells #[.bool true, .string ⟨#[]⟩, .slice none 0 0] 65)) B m mp (Aq A w.heap.size none) aq c L) := hid ((hM.also (fun b hb => by rcases hb with h | h | h; exact .inl h; exact .inr (Nat.le_of_eq h.symm); simp [blkA] at h)).ext hEn)
    have HP1 := hid (hS.ext hEn)
    have HST1 := hid (Mst.of_ext hEn m mp aq)
    have HBW1 : Hid (Below B w (w.alloc (.cells #[.bool true, .string ⟨#[]⟩, .slice none 0 0] 65))) := hid (Below.mono hEn.below hB)
    have HOK1 : Hid (BOk (ndsOf L, [], [])) := hid ⟨hDn, rfl, fun j hj => by simp at hj⟩
    have HF := hid hF
    have HW1 := hid hW1
    have HL1 := hid hlt1
    have hkl := hid hM.klo
    clear hM hS hDn hW hF hW1 hlt1 hBx1 hEn hfb hgo hRD0
    go_loopw [1, 8, 9] (fun v1 v8 v9 wr => ∃ (S1 : List ByteArray) (a1 : Option Addr) (c1 : Nat) (lt : List UInt8) (nx : List Int) (q : Option Addr) (cq : Nat) (L1 : List NdP) (aq1 : Option Addr) (cM : Nat),
        v1 = .slice a1 S1.length c1 ∧ S1.length ≤ c1 ∧ nx.length + S1.length ≤ 3000 ∧ Hid (∀ w', Below B w w' → Rd w' a1 (strsV S1)) ∧ Hid (WsOk d (f + 1) S1) ∧ Hid (∀ s ∈ S1, d < s.size) ∧
        Hid (Bx wr w.heap.size 65 [.bool true, .string ⟨lt.toArray⟩, .slice q nx.length cq]) ∧ Hid (Own wr (w.heap.size + 1) 2 1 q nx.length cq (intsV nx)) ∧ Hid (q = none ∧ nx.length = 0 ∧ cq = 0 ∧ intsV nx = [] ∨ ∃ g, q = some ⟨g, 0, none⟩) ∧ Hid (∀ p, q = some p → w.heap.size < p.block ∧ p.block < wr.heap.size) ∧
        Hid (MkP wr B m mp (Aq A w.heap.size q) aq1 cM L1) ∧ Hid (MapOk mp wr (ndsOf L1)) ∧ Hid (Mst w wr m mp aq aq1) ∧ Hid (Below B w wr) ∧ Hid (BOk (ndsOf L1, lt, nx)) ∧ Hid (∀ u ∈ lt, u ≠ 43) ∧ Hid (foldW f d (ndsOf L1, lt, nx) S1 = F) ∧ L1.length + totL (sufs d S1) ≤ 199000) (fun v1 _ _ _ => lenB v1)
    case atStart => exact ⟨(S.drop 1), _, _, [], [], none, 0, L, aq, c, by rw [List.length_drop], by rw [List.length_drop]; omega, by simp; omega, hid (fun w' h => by first | exact (HR.out w' h).drop 1 | (rw [List.drop_of_length_le (by omega)]; exact Rd.nil _ _)), HW1, HL1, HB1, hid (Own.empty _ _ _ _ _), hid (.inl ⟨rfl, rfl, rfl, rfl⟩), hid (fun p hp => by cases hp), HM1, HP1, HST1, HBW1, HOK1, hid (by simp), HF, by omega⟩
    case round =>
      clear HB1 HM1 HP1 HST1 HBW1 HOK1 HF HW1 HL1 hs1
      obtain ⟨S1, a1, c1, lt, nx, q, cq, L1, aq1, cM, rfl, hc1, hnx, HR1, HW, HLT, HBX, HQO, HQS, HQB, HM, HMP, HST, HBW, HOK, HU, HF, htt⟩ := hrel
      have hsz := HST.out.ch.size
      by_cases hpos : 0 < S1.length
      · obtain ⟨k, x, hk0, hk1, hkx, hkin, hkout, hksz, hin2, hout2⟩ := run_at hpos HLT.out
        have hRW := HR1.out wr HBW.out
        obtain ⟨b1, o1, rfl, hcW⟩ := hRW.word hpos
        have HCW := hid hcW
        have HIN := hid hkin
        have HOUT := hid hkout
        have HSZ := hid hksz
        obtain ⟨hstW, hstT⟩ := HW.out.step HLT.out hk0 hk1 hin2 hout2
        obtain ⟨hx43, hx128⟩ : x ≠ 43 ∧ x.toNat < 128 := by
          rw [hkx]
          exact ltr_asc HW.out (wAt_mem S1 0 hpos) (hksz 0 hpos)
        have hfp : 0 < f := by
          have h1 := HW.out.hi _ (wAt_mem S1 0 hpos)
          have h2 := hksz 0 hpos
          omega
        have HFS := hid (foldW_step (f := f) (st := (ndsOf L1, lt, nx)) HLT.out hk0 hk1 hin2 hout2)
        obtain ⟨N2, hN2⟩ : ∃ N2, (bld f (ndsOf L1) (sufs (d + 1) (S1.take k))).1 = N2 := ⟨_, rfl⟩
        obtain ⟨I, hI2⟩ : ∃ I, (bld f (ndsOf L1) (sufs (d + 1) (S1.take k))).2 = I := ⟨_, rfl⟩
        have HOK2 : Hid (BOk (N2, lt ++ [x], nx ++ [(I : Int)])) := hid (by
          obtain ⟨g1, g2, g3⟩ := bld_ok f (ndsOf L1) (sufs (d + 1) (S1.take k)) hstW.rise (fun y hy => by
            obtain ⟨s, hs, rfl⟩ := List.mem_map.1 hy
            have h1 := hstW.hi s hs
            have h2 := hstW.lo s hs
            rw [List.length_drop, toL_len]
            omega) hfp HOK.out.1
          have := bldG_ok (bl := bld f) (g := (x, sufs (d + 1) (S1.take k))) HOK.out g2 g1 g3
          unfold bldG at this
          rwa [hN2, hI2] at this)
        have HF2 : Hid (foldW f d (N2, lt ++ [x], nx ++ [(I : Int)]) (S1.drop k) = F) := hid (by
          have := HFS.out
          unfold bldG at this
          rw [hN2, hI2] at this
          rw [← this]
          exact HF.out)
        have htt2 : N2.length + totL (sufs d (S1.drop k)) ≤ 199000 := by
          have := bld_len f (ndsOf L1) (sufs (d + 1) (S1.take k)) hstW.rise
          rw [hN2, ndsOf_length] at this
          omega
        have HN2 := hid hN2
        have HI2 := hid hI2
        have hHG := HBX.out.lt
        have hlsz : lt.length = nx.length := HOK.out.2.1
        obtain ⟨T2, hT2⟩ : ∃ T : ByteArray, ⟨(lt ++ [x]).toArray⟩ = T := ⟨_, rfl⟩
        have hcat := asc_str hx128 lt
        rw [hT2] at hcat
        have HX128 := hid hx128
        obtain ⟨T1, hT1⟩ : ∃ T : ByteArray, ⟨lt.toArray⟩ = T := ⟨_, rfl⟩
        have hts : T1.size ≤ 3000 := by
          rw [← hT1]
          show lt.toArray.size ≤ 3000
          rw [List.size_toArray]
          omega
        have n1 : ¬ 9223372036854775807 < T1.size + 1 := by omega
        have w32 : IntKind.i32.wrap (x.toNat : Int) = (x.toNat : Int) := wrap32_asc hx128
        have HX43 := hid hx43
        clear hx43 hx128
        rw [hT1] at hcat HBX
        have HT2 := hid hT2
        clear hT2 hT1
        have hgk : ¬ Kq m mp aq1 w.heap.size := fun h => (HM.out.klt _ h).2 (.inr (.inl rfl))
        have HGK := hid hgk
        have hGq : ∀ p, q = some p → p.block ≠ w.heap.size := fun p e => by have := (HQB.out p e).1; omega
        have HX2 := hid (Ch.set wr w.heap.size 1 (.string T2))
        have HB2 := hid (HBX.out.set 1 (.string T2))
        have HM2 := hid (HM.out.ch (HX2.out.mono (fun b _ e => .inr (.inl e))))
        have HQ2 := hid (HX2.out.own HQO.out hGq)
        have HP2 := hid (HMP.out.ch HX2.out (by omega))
        have HBW2 := hid (HBW.out.trans (HX2.out.below (by omega) (fun b e => by omega)))
        have hwz : (wr.setCell ⟨w.heap.size, 1, none⟩ (.string T2)).heap.size = wr.heap.size := by simp
        have HC : Hid (∀ w', Ext (wr.setCell ⟨w.heap.size, 1, none⟩ (.string T2)).drew w' → Calls Tryd.prog 36 #[.pointer (some ⟨m, 0, none⟩), .slice (some ⟨b1, o1, none⟩) k c1, .int .i64 ((d : Int) + 1)] w' (MkE w' B m mp 55 [.map (some mp)] (Aq A w.heap.size q) (MapOk mp) aq1 (bld f (ndsOf L1) (sufs (d + 1) (S1.take k))))) := hid (by
          intro w' hw'
          obtain ⟨f', rfl⟩ : ∃ f', f = f' + 1 := ⟨f - 1, by omega⟩
          have hw2 : Ext (wr.setCell ⟨w.heap.size, 1, none⟩ (.string T2)) w' := (Ext.refl _).drew.trans hw'
          have hsw := hw2.size
          have hbw2 : Below B w w' := HBW2.out.trans (Below.mono hw2.below (by omega))
          have := HIH.out f' (by omega) (d + 1) (S1.take k) (Aq A w.heap.size q) aq1 cM L1 (some ⟨b1, o1, none⟩) c1 w' (HM2.out.ext hw2) (HP2.out.ext hw2) HOK.out.1 hstW (by rw [List.length_take]; omega) (by omega) (by omega) (by rw [List.length_take]; omega)
            (fun b hb => by
              rcases hb with h | h | h
              · have := HAL.out b h; omega
              · omega
              · cases q with
                | none => simp [blkA] at h
                | some p =>
                  have e : p.block = b := by simpa [blkA] using h
                  have := (HQB.out p rfl).2
                  omega) (by omega) (fun w'' h => (HR1.out w'' (hbw2.trans h)).take k) (fun w'' h => HT.out w'' (hbw2.trans h))
          rw [List.length_take, Nat.min_eq_left hk1] at this
          exact this)
        have hd1 := hcW 0 hpos
        rw [Nat.add_zero] at hd1
        obtain ⟨s1, hs1⟩ : ∃ s, wAt S1 0 = s := ⟨_, rfl⟩
        have hz1 := hksz 0 hpos
        rw [hs1] at hd1 hz1 hkx
        have hx1 : s1[d] = x := by rw [hkx]; exact bAt_eq s1 d hz1
        have hp1 : (0 : Int) < (S1.length : Int) := by omega
        have c0 := HBX.out.cell (i := 0) rfl
        have c1' := HBX.out.cell (i := 1) rfl
        have c2 := HBX.out.cell (i := 2) rfl
        have cf := HBX.out.free 1
        have q1 : IntKind.i64.wrap ((d : Int) + 1) = (d : Int) + 1 := IntWalk.i64_in _ (by omega)
        clear hin2 hout2 hkin hkout hksz hcW hRW hstW hN2 hI2 hgk hkx hs1
        go_wp2_with fail
        go_loopw [9] (fun v wq => ∃ j : Nat, v = .int .i64 (j : Int) ∧ j ≤ k ∧ 0 < j ∧ wq = wr) (fun v _ => k - (intOf v).toNat)
        case atStart => exact ⟨1, rfl, hk0, by omega, by first | rfl | exact trivial⟩
        case round =>
          obtain ⟨j, rfl, hjk, hj0, rfl⟩ := hrel
          by_cases hjl : j < k
          · have hd2 := HCW.out j (by omega)
            have hz2 := HSZ.out j (by omega)
            have hl2 := HIN.out j hjl
            obtain ⟨s2, hs2⟩ : ∃ s, wAt S1 j = s := ⟨_, rfl⟩
            rw [hs2] at hd2 hz2 hl2
            have hx2 : s2[d] = x := by rw [← hl2]; exact bAt_eq s2 d hz2
            obtain ⟨o2, ho2⟩ : ∃ o2, o1 + j = o2 := ⟨_, rfl⟩
            rw [ho2] at hd2
            clear hs2 hl2
            go_wp2_with fail
            go_roundw
            case rel => exact ⟨j + 1, by go_num, by omega, by omega, by first | rfl | exact trivial⟩
            case measure => simp [intOf]; omega
          · obtain rfl : j = k := by omega
            by_cases hkl2 : j < S1.length
            · have hd2 := HCW.out j hkl2
              have hz2 := HSZ.out j hkl2
              have hl2 := HOUT.out hkl2
              obtain ⟨s2, hs2⟩ : ∃ s, wAt S1 j = s := ⟨_, rfl⟩
              rw [hs2] at hd2 hz2 hl2
              obtain ⟨y, hy⟩ : ∃ y, s2[d] = y := ⟨_, rfl⟩
              have hyx : ¬ ((y.toNat : Int) = (x.toNat : Int)) := fun e => by
                have e2 : y = x := UInt8.toNat_inj.1 (by omega)
                have e3 : ltr d s2 = y := by rw [← hy]; exact (bAt_eq s2 d hz2).symm
                exact hl2 (by rw [e3, e2])
              obtain ⟨o2, ho2⟩ : ∃ o2, o1 + j = o2 := ⟨_, rfl⟩
              rw [ho2] at hd2
              clear hs2 hl2
              go_wp2_with (refine wpList_asc rfl _ 21 9 rfl (by rw [Tryd.underlying21]; rfl) Tryd.underlying9 HX128.out rfl ?_)
              trace_state
              refine wp_region_flagM_at 10 8 (Ch (Kq m mp aq1)) (Ch (Kq m mp aq1)) (fun fl => [fun v _ => v = .pointer (some ⟨w.heap.size, 2, none⟩), fun v _ => v = .slice q nx.length cq, fun v _ => v = .pointer (some ⟨m, 0, none⟩), fun v _ => v = .slice (some ⟨b1, o1, none⟩) S1.length c1, fun v _ => v = .int .i64 (j : Int), fun v _ => v = .slice (some ⟨b1, o1, none⟩) j c1, fun v _ => v = .int .i64 (d : Int), fun v _ => v = .int .i64 ((d : Int) + 1), fun v w' => fl = true ∧ v = .int .i64 (I : Int) ∧ ∃ aq' c' L', ndsOf L' = N2 ∧ MkP w' B m mp (Aq A w.heap.size q) aq' c' L' ∧ MapOk mp w' (ndsOf L') ∧ Mst (wr.setCell ⟨w.heap.size, 1, none⟩ (.string T2)).drew w' m mp aq1 aq', fun v w' => fl = true ∧ ∃ g, v = .slice (some ⟨g, 0, none⟩) 1 1 ∧ Rd w' (some ⟨g, 0, none⟩) [.int .i64 (I : Int)]])
                [[(7, none)], [(56, some 0)], [(0, none)], [(1, none)], [(9, none)], [(59, some 3), (60, some 4)], [(2, none)], [(62, some 6)], [(58, some 2), (61, some 5), (63, some 7)], [(64, some 8)]] (by kernel_rfl) (by kernel_rfl) rfl (by omega) (fun x h => Ch.of_ext _ h) (fun x y h k => h.thenExt k) (fun x y h k => (Ch.of_ext _ h).trans k) ?_ ?_ ?_ ?_
              · intro fl i hi
                obtain rfl | rfl | rfl | rfl | rfl | rfl | rfl | rfl | rfl | rfl : i = 0 ∨ i = 1 ∨ i = 2 ∨ i = 3 ∨ i = 4 ∨ i = 5 ∨ i = 6 ∨ i = 7 ∨ i = 8 ∨ i = 9 := by omega
                · exact fun _ _ _ h _ => h
                · exact fun _ _ _ h _ => h
                · exact fun _ _ _ h _ => h
                · exact fun _ _ _ h _ => h
                · exact fun _ _ _ h _ => h
                · exact fun _ _ _ h _ => h
                · exact fun _ _ _ h _ => h
                · exact fun _ _ _ h _ => h
                · exact fun v x y h k => by obtain ⟨hf, e1, aq', c', L', e2, e3, e4, e5⟩ := h; exact ⟨hf, e1, aq', c', L', e2, e3.ext k, e4.ext k, e5.trans (Mst.of_ext k m mp aq')⟩
                · exact fun v x y h k => by obtain ⟨hf, g, e1, e2⟩ := h; exact ⟨hf, g, e1, e2.ext k⟩
              · intro i hi hiM
                obtain rfl | rfl | rfl | rfl | rfl | rfl | rfl | rfl | rfl | rfl : i = 0 ∨ i = 1 ∨ i = 2 ∨ i = 3 ∨ i = 4 ∨ i = 5 ∨ i = 6 ∨ i = 7 ∨ i = 8 ∨ i = 9 := by omega
                · exact fun _ _ _ _ h _ => h
                · exact fun _ _ _ _ h _ => h
                · exact fun _ _ _ _ h _ => h
                · exact fun _ _ _ _ h _ => h
                · exact fun _ _ _ _ h _ => h
                · exact fun _ _ _ _ h _ => h
                · exact fun _ _ _ _ h _ => h
                · exact fun _ _ _ _ h _ => h
                · exact absurd rfl hiM
                · exact fun v x y _ h _ => by cases h.1
              · refine ⟨?_, ?_, ?_, ?_, ?_, ?_, ?_, ?_, ?_, ?_, trivial⟩
                · rw [if_neg (by decide)]
                  rintro fl ρ w1 hw hcst hfn hk
                  clear hw
                  simp only [known, List.getD_cons_zero, List.getD_cons_succ, Nat.reduceAdd] at hk
                  simp only [List.getD_cons_zero, List.getD_cons_succ, Nat.reduceAdd, flowAt]
                  go_simp
                  exact ⟨Ext.refl _, by first | rfl | trivial⟩
                · rw [if_neg (by decide)]
                  rintro fl ρ w1 hw hcst hfn hk
                  have c0 := hw.cell (b := w.heap.size) (o := 2) (v := .slice q nx.length cq) (by first | (simp [*]; done) | (simp [*, go_sem]; done) | go_cell) (by exact HGK.out)
                  clear hw
                  simp only [known, List.getD_cons_zero, List.getD_cons_succ, Nat.reduceAdd] at hk
                  simp only [List.getD_cons_zero, List.getD_cons_succ, Nat.reduceAdd, flowAt]
                  go_simp
                  exact ⟨Ext.refl _, by first | rfl | trivial⟩
                · rw [if_neg (by decide)]
                  rintro fl ρ w1 hw hcst hfn hk
                  clear hw
                  simp only [known, List.getD_cons_zero, List.getD_cons_succ, Nat.reduceAdd] at hk
                  simp only [List.getD_cons_zero, List.getD_cons_succ, Nat.reduceAdd, flowAt]
                  go_simp
                  exact ⟨Ext.refl _, by first | rfl | trivial⟩
                · rw [if_neg (by decide)]
                  rintro fl ρ w1 hw hcst hfn hk
                  clear hw
                  simp only [known, List.getD_cons_zero, List.getD_cons_succ, Nat.reduceAdd] at hk
                  simp only [List.getD_cons_zero, List.getD_cons_succ, Nat.reduceAdd, flowAt]
                  go_simp
                  exact ⟨Ext.refl _, by first | rfl | trivial⟩
                · rw [if_neg (by decide)]
                  rintro fl ρ w1 hw hcst hfn hk
                  clear hw
                  simp only [known, List.getD_cons_zero, List.getD_cons_succ, Nat.reduceAdd] at hk
                  simp only [List.getD_cons_zero, List.getD_cons_succ, Nat.reduceAdd, flowAt]
                  go_simp
                  exact ⟨Ext.refl _, by first | rfl | trivial⟩
                · rw [if_neg (by decide)]
                  rintro fl ρ w1 hw hcst hfn hk
                  simp only [known, List.getD_cons_zero, List.getD_cons_succ, Nat.reduceAdd] at hk
                  simp only [List.getD_cons_zero, List.getD_cons_succ, Nat.reduceAdd, flowAt]
                  go_simp
                  (rw [if_pos (by omega)]; exact ⟨Ext.refl _, rfl⟩)
                · rw [if_neg (by decide)]
                  rintro fl ρ w1 hw hcst hfn hk
                  clear hw
                  simp only [known, List.getD_cons_zero, List.getD_cons_succ, Nat.reduceAdd] at hk
                  simp only [List.getD_cons_zero, List.getD_cons_succ, Nat.reduceAdd, flowAt]
                  go_simp
                  exact ⟨Ext.refl _, by first | rfl | trivial⟩
                · rw [if_neg (by decide)]
                  rintro fl ρ w1 hw hcst hfn hk
                  simp only [known, List.getD_cons_zero, List.getD_cons_succ, Nat.reduceAdd] at hk
                  simp only [List.getD_cons_zero, List.getD_cons_succ, Nat.reduceAdd, flowAt]
                  go_simp
                  exact ⟨Ext.refl _, by first | rfl | rw [q1]⟩
                · rw [if_pos (by decide)]
                  rintro ρ w1 hw hcst hfn hk
                  simp only [known, List.getD_cons_zero, List.getD_cons_succ, Nat.reduceAdd] at hk
                  simp only [List.getD_cons_zero, List.getD_cons_succ, Nat.reduceAdd]
                  (obtain ⟨h58, h61, h63, -⟩ := hk; unfold invAt execOp; go_simp; refine (HC.out _ hw).mono ?_; rintro e w' ⟨rfl, aq', c', L', e2, e3, e4, e5⟩; first | exact ⟨_, rfl, e5.ch, by rw [HI2.out], aq', c', L', by rw [e2, HN2.out], e3, e4, (Mst.of_ext hw m mp aq1).trans e5⟩ | exact ⟨_, rfl, e5.ch, by trivial, by rw [HI2.out], aq', c', L', by rw [e2, HN2.out], e3, e4, (Mst.of_ext hw m mp aq1).trans e5⟩)
                · rw [if_neg (by decide)]
                  rintro fl ρ w1 hw hcst hfn hk
                  simp only [known, List.getD_cons_zero, List.getD_cons_succ, Nat.reduceAdd] at hk
                  simp only [List.getD_cons_zero, List.getD_cons_succ, Nat.reduceAdd, flowAt]
                  go_simp
                  exact ⟨(Ext.refl _).alloc _, w1.heap.size, rfl, rd_of_new rfl [.int .i64 (I : Int)] _⟩
              intro vs w1 hw hf
              simp only [flowFacts, Nat.reduceAdd] at hf
              obtain ⟨e0, e1, e2, e3, e4, e5, e6, e7, e8, e9, -⟩ := hf
              simp only [List.take_succ_cons, List.take_zero, List.drop_succ_cons, List.drop_zero, putAll, Act.put, Nat.reduceAdd, List.setIfInBounds_toArray, List.set_cons_zero, List.set_cons_succ, e0, e1, e2, e3, e4, e5, e6, e7]
              clear e0 e1 e2 e3 e4 e5 e6 e7
              obtain ⟨-, e64, aq', cM', L', eN, hM6, hP6, hS6⟩ := e8
              obtain ⟨-, g0, hg0, hgr⟩ := e9
              rw [hg0]
              have HGR := hid hgr
              have hch : Ch (Kq m mp aq1) (wr.setCell ⟨w.heap.size, 1, none⟩ (.string T2)) w1 := (Ch.of_ext _ (Ext.refl _).drew).trans hw
              have HCH := hid hch
              have HB6 := hid (HB2.out.ch hch HGK.out)
              have HQ6 := hid (hch.own HQ2.out (fun p e h => (HM.out.klt _ h).2 (.inr (.inr (by rw [e]; rfl)))))
              have HM6 := hid hM6
              have HP6 := hid hP6
              have HS6 := hid hS6
              have HEN := hid eN
              have hz6 := hch.size
              have hgq : ¬ blkA q = some w.heap.size := fun e => by
                cases q with
                | none => simp [blkA] at e
                | some p => exact hGq p rfl (by simpa [blkA] using e)
              have HGQ := hid hgq
              clear hch hw hg0 hgr hM6 hP6 hS6 eN e64 c0 c1' c2 hgq
              go_wp2_with (at_builtin; refine wpList_appendO rfl _ _ 63 rfl El_int64 rfl rfl [.int .i64 (I : Int)] HGR.out rfl (by omega) (by simp [Value.oneCell']) HQ6.out HQS.out (by omega) (by unfold maxLen; omega) (by omega) ?_; intro g8 c8 w8 ho8 hc8 hs8; have HO8 := hid ho8; have HC8 := hid hc8; have HS8 := hid hs8; have HB8 := hid (HB6.out.ch hc8 HGQ.out); have e0 := HB8.out.cell (i := 0) rfl; have e1 := HB8.out.cell (i := 1) rfl; have e2 := HB8.out.cell (i := 2) rfl; have ef := HB8.out.free 2; clear ho8 hc8 hs8)
              have HM9 : Hid (MkP (w8.setCell ⟨w.heap.size, 2, none⟩ (.slice (some ⟨g8, 0, none⟩) (nx.length + 1) c8)) B m mp (Aq A w.heap.size (some ⟨g8, 0, none⟩)) aq' cM' L') := hid (by
                have h7 := HM6.out.also (A' := fun b => Aq A w.heap.size q b ∨ b = g8) (fun b hb => by
                  rcases hb with h | rfl
                  · exact .inl h
                  · rcases HS8.out with h | h
                    · exact .inl (.inr (.inr h))
                    · exact .inr h)
                have h9 := (h7.ch (HC8.out.mono (fun b _ e => .inl (.inr (.inr e))))).ch ((Ch.set w8 w.heap.size 2 (.slice (some ⟨g8, 0, none⟩) (nx.length + 1) c8)).mono (fun b _ e => .inl (.inr (.inl e))))
                exact h9.also (fun b hb => by
                  rcases hb with h | h | h
                  · exact .inl (.inl (.inl h))
                  · exact .inl (.inl (.inr (.inl h)))
                  · exact .inl (.inr (by simpa [blkA] using h.symm))))
              have HF8 := hid (HO8.out.form (by omega))
              have hg8 : w.heap.size < g8 ∧ g8 < w8.heap.size := by
                obtain ⟨g9, e9, k1, k2, -, -⟩ := HF8.out
                simp only [Option.some.injEq, Addr.mk.injEq, and_true] at e9
                subst e9
                exact ⟨k1, k2⟩
              have HZ9 := hid (Ch.set w8 w.heap.size 2 (.slice (some ⟨g8, 0, none⟩) (nx.length + 1) c8))
              have HST9 := hid (HST.out.weave HX2.out (Nat.le_refl _) ((Mst.of_ext (Ext.refl _).drew m mp aq1).trans HS6.out) HC8.out (fun p e => by have := (HQB.out p e).1; omega) HZ9.out)
              have HBW9 := hid (HST9.out.ch.below hB hkl.out)
              have HP9 := hid ((HP6.out.ch HC8.out (fun e => HM6.out.am.2 (.inr (.inr e)))).ch HZ9.out (fun e => HM6.out.am.2 (.inr (.inl e))))
              have hL2 : L'.length = N2.length := by rw [← HEN.out, ndsOf_length]
              go_roundw
              case rel =>
                refine ⟨S1.drop j, _, _, lt ++ [x], nx ++ [(I : Int)], some ⟨g8, 0, none⟩, c8, L', aq', cM', by rw [List.length_drop], by rw [List.length_drop]; omega, by rw [List.length_append, List.length_drop]; simp; omega, hid (fun w' h => by rw [← ho2]; exact (HR1.out w' h).drop j), hid (HW.out.sub (List.drop_sublist _ _)), hid (fun s hs => HLT.out s (List.mem_of_mem_drop hs)), hid ?_, hid ?_, hid (.inr ⟨g8, rfl⟩), hid ?_, HM9, HP9, HST9, HBW9, hid ?_, hid ?_, hid ?_, by omega⟩
                · rw [List.length_append, HT2.out]
                  exact HB8.out.set 2 _
                · rw [List.length_append, intsV_add]
                  exact HZ9.out.own HO8.out (fun p e => by simp only [Option.some.injEq] at e; subst e; simp; omega)
                · intro p e
                  simp only [Option.some.injEq] at e
                  subst e
                  exact ⟨hg8.1, by simpa using hg8.2⟩
                · rw [HEN.out]; exact HOK2.out
                · intro u hu
                  rcases List.mem_append.1 hu with h | h
                  · exact HU.out u h
                  · rw [List.mem_singleton] at h
                    subst h
                    exact HX43.out
                · rw [HEN.out]; exact HF2.out
              case measure => simp [lenB]; omega
            · have hkl3 : j = S1.length := by omega
              have hkl4 : ¬ ((j : Int) < (S1.length : Int)) := by omega
              have HK3 := hid hkl3
              clear hkl3 hkl2
              go_wp2_with (refine wpList_asc rfl _ 21 9 rfl (by rw [Tryd.underlying21]; rfl) Tryd.underlying9 HX128.out rfl ?_)
              trace_state
              refine wp_region_flagM_at 10 8 (Ch (Kq m mp aq1)) (Ch (Kq m mp aq1)) (fun fl => [fun v _ => v = .pointer (some ⟨w.heap.size, 2, none⟩), fun v _ => v = .slice q nx.length cq, fun v _ => v = .pointer (some ⟨m, 0, none⟩), fun v _ => v = .slice (some ⟨b1, o1, none⟩) S1.length c1, fun v _ => v = .int .i64 (j : Int), fun v _ => v = .slice (some ⟨b1, o1, none⟩) j c1, fun v _ => v = .int .i64 (d : Int), fun v _ => v = .int .i64 ((d : Int) + 1), fun v w' => fl = true ∧ v = .int .i64 (I : Int) ∧ ∃ aq' c' L', ndsOf L' = N2 ∧ MkP w' B m mp (Aq A w.heap.size q) aq' c' L' ∧ MapOk mp w' (ndsOf L') ∧ Mst (wr.setCell ⟨w.heap.size, 1, none⟩ (.string T2)).drew w' m mp aq1 aq', fun v w' => fl = true ∧ ∃ g, v = .slice (some ⟨g, 0, none⟩) 1 1 ∧ Rd w' (some ⟨g, 0, none⟩) [.int .i64 (I : Int)]])
                [[(7, none)], [(56, some 0)], [(0, none)], [(1, none)], [(9, none)], [(59, some 3), (60, some 4)], [(2, none)], [(62, some 6)], [(58, some 2), (61, some 5), (63, some 7)], [(64, some 8)]] (by kernel_rfl) (by kernel_rfl) rfl (by omega) (fun x h => Ch.of_ext _ h) (fun x y h k => h.thenExt k) (fun x y h k => (Ch.of_ext _ h).trans k) ?_ ?_ ?_ ?_
              · intro fl i hi
                obtain rfl | rfl | rfl | rfl | rfl | rfl | rfl | rfl | rfl | rfl : i = 0 ∨ i = 1 ∨ i = 2 ∨ i = 3 ∨ i = 4 ∨ i = 5 ∨ i = 6 ∨ i = 7 ∨ i = 8 ∨ i = 9 := by omega
                · exact fun _ _ _ h _ => h
                · exact fun _ _ _ h _ => h
                · exact fun _ _ _ h _ => h
                · exact fun _ _ _ h _ => h
                · exact fun _ _ _ h _ => h
                · exact fun _ _ _ h _ => h
                · exact fun _ _ _ h _ => h
                · exact fun _ _ _ h _ => h
                · exact fun v x y h k => by obtain ⟨hf, e1, aq', c', L', e2, e3, e4, e5⟩ := h; exact ⟨hf, e1, aq', c', L', e2, e3.ext k, e4.ext k, e5.trans (Mst.of_ext k m mp aq')⟩
                · exact fun v x y h k => by obtain ⟨hf, g, e1, e2⟩ := h; exact ⟨hf, g, e1, e2.ext k⟩
              · intro i hi hiM
                obtain rfl | rfl | rfl | rfl | rfl | rfl | rfl | rfl | rfl | rfl : i = 0 ∨ i = 1 ∨ i = 2 ∨ i = 3 ∨ i = 4 ∨ i = 5 ∨ i = 6 ∨ i = 7 ∨ i = 8 ∨ i = 9 := by omega
                · exact fun _ _ _ _ h _ => h
                · exact fun _ _ _ _ h _ => h
                · exact fun _ _ _ _ h _ => h
                · exact fun _ _ _ _ h _ => h
                · exact fun _ _ _ _ h _ => h
                · exact fun _ _ _ _ h _ => h
                · exact fun _ _ _ _ h _ => h
                · exact fun _ _ _ _ h _ => h
                · exact absurd rfl hiM
                · exact fun v x y _ h _ => by cases h.1
              · refine ⟨?_, ?_, ?_, ?_, ?_, ?_, ?_, ?_, ?_, ?_, trivial⟩
                · rw [if_neg (by decide)]
                  rintro fl ρ w1 hw hcst hfn hk
                  clear hw
                  simp only [known, List.getD_cons_zero, List.getD_cons_succ, Nat.reduceAdd] at hk
                  simp only [List.getD_cons_zero, List.getD_cons_succ, Nat.reduceAdd, flowAt]
                  go_simp
                  exact ⟨Ext.refl _, by first | rfl | trivial⟩
                · rw [if_neg (by decide)]
                  rintro fl ρ w1 hw hcst hfn hk
                  have c0 := hw.cell (b := w.heap.size) (o := 2) (v := .slice q nx.length cq) (by first | (simp [*]; done) | (simp [*, go_sem]; done) | go_cell) (by exact HGK.out)
                  clear hw
                  simp only [known, List.getD_cons_zero, List.getD_cons_succ, Nat.reduceAdd] at hk
                  simp only [List.getD_cons_zero, List.getD_cons_succ, Nat.reduceAdd, flowAt]
                  go_simp
                  exact ⟨Ext.refl _, by first | rfl | trivial⟩
                · rw [if_neg (by decide)]
                  rintro fl ρ w1 hw hcst hfn hk
                  clear hw
                  simp only [known, List.getD_cons_zero, List.getD_cons_succ, Nat.reduceAdd] at hk
                  simp only [List.getD_cons_zero, List.getD_cons_succ, Nat.reduceAdd, flowAt]
                  go_simp
                  exact ⟨Ext.refl _, by first | rfl | trivial⟩
                · rw [if_neg (by decide)]
                  rintro fl ρ w1 hw hcst hfn hk
                  clear hw
                  simp only [known, List.getD_cons_zero, List.getD_cons_succ, Nat.reduceAdd] at hk
                  simp only [List.getD_cons_zero, List.getD_cons_succ, Nat.reduceAdd, flowAt]
                  go_simp
                  exact ⟨Ext.refl _, by first | rfl | trivial⟩
                · rw [if_neg (by decide)]
                  rintro fl ρ w1 hw hcst hfn hk
                  clear hw
                  simp only [known, List.getD_cons_zero, List.getD_cons_succ, Nat.reduceAdd] at hk
                  simp only [List.getD_cons_zero, List.getD_cons_succ, Nat.reduceAdd, flowAt]
                  go_simp
                  exact ⟨Ext.refl _, by first | rfl | trivial⟩
                · rw [if_neg (by decide)]
                  rintro fl ρ w1 hw hcst hfn hk
                  simp only [known, List.getD_cons_zero, List.getD_cons_succ, Nat.reduceAdd] at hk
                  simp only [List.getD_cons_zero, List.getD_cons_succ, Nat.reduceAdd, flowAt]
                  go_simp
                  (rw [if_pos (by omega)]; exact ⟨Ext.refl _, rfl⟩)
                · rw [if_neg (by decide)]
                  rintro fl ρ w1 hw hcst hfn hk
                  clear hw
                  simp only [known, List.getD_cons_zero, List.getD_cons_succ, Nat.reduceAdd] at hk
                  simp only [List.getD_cons_zero, List.getD_cons_succ, Nat.reduceAdd, flowAt]
                  go_simp
                  exact ⟨Ext.refl _, by first | rfl | trivial⟩
                · rw [if_neg (by decide)]
                  rintro fl ρ w1 hw hcst hfn hk
                  simp only [known, List.getD_cons_zero, List.getD_cons_succ, Nat.reduceAdd] at hk
                  simp only [List.getD_cons_zero, List.getD_cons_succ, Nat.reduceAdd, flowAt]
                  go_simp
                  exact ⟨Ext.refl _, by first | rfl | rw [q1]⟩
                · rw [if_pos (by decide)]
                  rintro ρ w1 hw hcst hfn hk
                  simp only [known, List.getD_cons_zero, List.getD_cons_succ, Nat.reduceAdd] at hk
                  simp only [List.getD_cons_zero, List.getD_cons_succ, Nat.reduceAdd]
                  (obtain ⟨h58, h61, h63, -⟩ := hk; unfold invAt execOp; go_simp; refine (HC.out _ hw).mono ?_; rintro e w' ⟨rfl, aq', c', L', e2, e3, e4, e5⟩; first | exact ⟨_, rfl, e5.ch, by rw [HI2.out], aq', c', L', by rw [e2, HN2.out], e3, e4, (Mst.of_ext hw m mp aq1).trans e5⟩ | exact ⟨_, rfl, e5.ch, by trivial, by rw [HI2.out], aq', c', L', by rw [e2, HN2.out], e3, e4, (Mst.of_ext hw m mp aq1).trans e5⟩)
                · rw [if_neg (by decide)]
                  rintro fl ρ w1 hw hcst hfn hk
                  simp only [known, List.getD_cons_zero, List.getD_cons_succ, Nat.reduceAdd] at hk
                  simp only [List.getD_cons_zero, List.getD_cons_succ, Nat.reduceAdd, flowAt]
                  go_simp
                  exact ⟨(Ext.refl _).alloc _, w1.heap.size, rfl, rd_of_new rfl [.int .i64 (I : Int)] _⟩
              intro vs w1 hw hf
              simp only [flowFacts, Nat.reduceAdd] at hf
              obtain ⟨e0, e1, e2, e3, e4, e5, e6, e7, e8, e9, -⟩ := hf
              simp only [List.take_succ_cons, List.take_zero, List.drop_succ_cons, List.drop_zero, putAll, Act.put, Nat.reduceAdd, List.setIfInBounds_toArray, List.set_cons_zero, List.set_cons_succ, e0, e1, e2, e3, e4, e5, e6, e7]
              clear e0 e1 e2 e3 e4 e5 e6 e7
              obtain ⟨-, e64, aq', cM', L', eN, hM6, hP6, hS6⟩ := e8
              obtain ⟨-, g0, hg0, hgr⟩ := e9
              rw [hg0]
              have HGR := hid hgr
              have hch : Ch (Kq m mp aq1) (wr.setCell ⟨w.heap.size, 1, none⟩ (.string T2)) w1 := (Ch.of_ext _ (Ext.refl _).drew).trans hw
              have HCH := hid hch
              have HB6 := hid (HB2.out.ch hch HGK.out)
              have HQ6 := hid (hch.own HQ2.out (fun p e h => (HM.out.klt _ h).2 (.inr (.inr (by rw [e]; rfl)))))
              have HM6 := hid hM6
              have HP6 := hid hP6
              have HS6 := hid hS6
              have HEN := hid eN
              have hz6 := hch.size
              have hgq : ¬ blkA q = some w.heap.size := fun e => by
                cases q with
                | none => simp [blkA] at e
                | some p => exact hGq p rfl (by simpa [blkA] using e)
              have HGQ := hid hgq
              clear hch hw hg0 hgr hM6 hP6 hS6 eN e64 c0 c1' c2 hgq
              go_wp2_with (at_builtin; refine wpList_appendO rfl _ _ 63 rfl El_int64 rfl rfl [.int .i64 (I : Int)] HGR.out rfl (by omega) (by simp [Value.oneCell']) HQ6.out HQS.out (by omega) (by unfold maxLen; omega) (by omega) ?_; intro g8 c8 w8 ho8 hc8 hs8; have HO8 := hid ho8; have HC8 := hid hc8; have HS8 := hid hs8; have HB8 := hid (HB6.out.ch hc8 HGQ.out); have e0 := HB8.out.cell (i := 0) rfl; have e1 := HB8.out.cell (i := 1) rfl; have e2 := HB8.out.cell (i := 2) rfl; have ef := HB8.out.free 2; clear ho8 hc8 hs8)
              have HM9 : Hid (MkP (w8.setCell ⟨w.heap.size, 2, none⟩ (.slice (some ⟨g8, 0, none⟩) (nx.length + 1) c8)) B m mp (Aq A w.heap.size (some ⟨g8, 0, none⟩)) aq' cM' L') := hid (by
                have h7 := HM6.out.also (A' := fun b => Aq A w.heap.size q b ∨ b = g8) (fun b hb => by
                  rcases hb with h | rfl
                  · exact .inl h
                  · rcases HS8.out with h | h
                    · exact .inl (.inr (.inr h))
                    · exact .inr h)
                have h9 := (h7.ch (HC8.out.mono (fun b _ e => .inl (.inr (.inr e))))).ch ((Ch.set w8 w.heap.size 2 (.slice (some ⟨g8, 0, none⟩) (nx.length + 1) c8)).mono (fun b _ e => .inl (.inr (.inl e))))
                exact h9.also (fun b hb => by
                  rcases hb with h | h | h
                  · exact .inl (.inl (.inl h))
                  · exact .inl (.inl (.inr (.inl h)))
                  · exact .inl (.inr (by simpa [blkA] using h.symm))))
              have HF8 := hid (HO8.out.form (by omega))
              have hg8 : w.heap.size < g8 ∧ g8 < w8.heap.size := by
                obtain ⟨g9, e9, k1, k2, -, -⟩ := HF8.out
                simp only [Option.some.injEq, Addr.mk.injEq, and_true] at e9
                subst e9
                exact ⟨k1, k2⟩
              have HZ9 := hid (Ch.set w8 w.heap.size 2 (.slice (some ⟨g8, 0, none⟩) (nx.length + 1) c8))
              have HST9 := hid (HST.out.weave HX2.out (Nat.le_refl _) ((Mst.of_ext (Ext.refl _).drew m mp aq1).trans HS6.out) HC8.out (fun p e => by have := (HQB.out p e).1; omega) HZ9.out)
              have HBW9 := hid (HST9.out.ch.below hB hkl.out)
              have HP9 := hid ((HP6.out.ch HC8.out (fun e => HM6.out.am.2 (.inr (.inr e)))).ch HZ9.out (fun e => HM6.out.am.2 (.inr (.inl e))))
              have hL2 : L'.length = N2.length := by rw [← HEN.out, ndsOf_length]
              go_roundw
              case rel =>
                refine ⟨S1.drop j, _, _, lt ++ [x], nx ++ [(I : Int)], some ⟨g8, 0, none⟩, c8, L', aq', cM', by rw [List.length_drop], by rw [List.length_drop]; omega, by rw [List.length_append, List.length_drop]; simp; omega, hid (fun w' h => by rw [List.drop_of_length_le (by have := HK3.out; omega)]; exact Rd.nil _ _), hid (HW.out.sub (List.drop_sublist _ _)), hid (fun s hs => HLT.out s (List.mem_of_mem_drop hs)), hid ?_, hid ?_, hid (.inr ⟨g8, rfl⟩), hid ?_, HM9, HP9, HST9, HBW9, hid ?_, hid ?_, hid ?_, by omega⟩
                · rw [List.length_append, HT2.out]
                  exact HB8.out.set 2 _
                · rw [List.length_append, intsV_add]
                  exact HZ9.out.own HO8.out (fun p e => by simp only [Option.some.injEq] at e; subst e; simp; omega)
                · intro p e
                  simp only [Option.some.injEq] at e
                  subst e
                  exact ⟨hg8.1, by simpa using hg8.2⟩
                · rw [HEN.out]; exact HOK2.out
                · intro u hu
                  rcases List.mem_append.1 hu with h | h
                  · exact HU.out u h
                  · rw [List.mem_singleton] at h
                    subst h
                    exact HX43.out
                · rw [HEN.out]; exact HF2.out
              case measure => simp [lenB]; omega
      · obtain rfl : S1 = [] := List.eq_nil_of_length_eq_zero (by omega)
        have hF2 := HF.out
        rw [foldW_nil] at hF2
        have HFE := hid hF2
        obtain ⟨o1, o2, o3⟩ := HOK.out
        have HA2 := hid (HM.out.also (A' := A) (fun b h => .inl (.inl h)))
        have HN := hid (node_any B m mp A aq1 cM L1 true ⟨lt.toArray⟩ q cq nx wr HA2.out hmp HMP.out (by omega) HQO.out.rd (fun hn p e => ⟨(HQB.out p e).2, fun h => HM.out.am.1 (by rw [← h]; exact .inr (.inr (by rw [e]; rfl))), fun h => HM.out.am.2 (by rw [← h]; exact .inr (.inr (by rw [e]; rfl))), fun h => by have := HAL.out _ h; have := (HQB.out p e).1; omega, fun h => by
          cases aq1 with
          | none => simp [blkA] at h
          | some r =>
            have h2 : r.block = p.block := by simpa [blkA] using h
            exact (HM.out.aqm r rfl).2.2.2 (by rw [h2]; exact .inr (.inr (by rw [e]; rfl)))⟩) ⟨by
          show lt.toArray.size = nx.length
          rw [List.size_toArray]
          exact o2, fun j hj => (o3 j hj).1, fun u hu => HU.out u (by simpa using hu)⟩ (by simp at hnx; omega) (fun j hj => by
          have := (o3 j hj).2
          simp only [ndsOf_length] at this
          omega) (fun b h => by have := HAL.out b h; omega) (by omega) (HT.out wr HBW.out))
        have c0 := HBX.out.cell (i := 0) rfl
        have c1' := HBX.out.cell (i := 1) rfl
        have c2 := HBX.out.cell (i := 2) rfl
        obtain ⟨T1, hT1⟩ : ∃ T : ByteArray, ⟨lt.toArray⟩ = T := ⟨_, rfl⟩
        rw [hT1] at c1' HN
        have HT1 := hid hT1
        clear o1 o2 o3 hT1 hF2
        go_wp2_with fail
        with_reducible refine HN.out.mono ?_
        rintro e w9 ⟨rfl, aq', c', L', e1, e2, e3, e4⟩
        have HE1 := hid e1
        have HE2 := hid e2
        have HE3 := hid e3
        have HE4 := hid e4
        clear e1 e2 e3 e4
        go_wp2_with fail
        go_returns
        have hR : R = putN (ndsOf L1) ⟨true, T1, nx⟩ := by rw [HRR.out, ← HFE.out, ← HT1.out]
        exact ⟨by rw [hR]; rfl, aq', c', L', by rw [hR]; exact HE1.out, HE2.out, HE3.out, HST.out.trans HE4.out⟩
  · have hEn : Ext w (w.alloc (.cells #[.bool true, .string ⟨#[]⟩, .slice none 0 0] 65)) := ((Ext.refl w).alloc _)
    have hBx1 : Bx (w.alloc (.cells #[.bool true, .string ⟨#[]⟩, .slice none 0 0] 65)) w.heap.size 65 [.bool true, .string ⟨([] : List UInt8).toArray⟩, .slice none ([] : List Int).length 0] := Bx.new w _ _
    have hs1 := hEn.size
    have HB1 := hid hBx1
    have HM1 : Hid (MkP (w.alloc (.cells #[.bool true, .string ⟨#[]⟩, .slice none 0 0] 65)) B m mp (Aq A w.heap.size none) aq c L) := hid ((hM.also (fun b hb => by rcases hb with h | h | h; exact .inl h; exact .inr (Nat.le_of_eq h.symm); simp [blkA] at h)).ext hEn)
    have HP1 := hid (hS.ext hEn)
    have HST1 := hid (Mst.of_ext hEn m mp aq)
    have HBW1 : Hid (Below B w (w.alloc (.cells #[.bool true, .string ⟨#[]⟩, .slice none 0 0] 65))) := hid (Below.mono hEn.below hB)
    have HOK1 : Hid (BOk (ndsOf L, [], [])) := hid ⟨hDn, rfl, fun j hj => by simp at hj⟩
    have HF := hid hF
    have HW1 := hid hW1
    have HL1 := hid hlt1
    have hkl := hid hM.klo
    clear hM hS hDn hW hF hW1 hlt1 hBx1 hEn hfb hgo hRD0
    go_loopw [1, 8, 9] (fun v1 v8 v9 wr => ∃ (S1 : List ByteArray) (a1 : Option Addr) (c1 : Nat) (lt : List UInt8) (nx : List Int) (q : Option Addr) (cq : Nat) (L1 : List NdP) (aq1 : Option Addr) (cM : Nat),
        v1 = .slice a1 S1.length c1 ∧ S1.length ≤ c1 ∧ nx.length + S1.length ≤ 3000 ∧ Hid (∀ w', Below B w w' → Rd w' a1 (strsV S1)) ∧ Hid (WsOk d (f + 1) S1) ∧ Hid (∀ s ∈ S1, d < s.size) ∧
        Hid (Bx wr w.heap.size 65 [.bool true, .string ⟨lt.toArray⟩, .slice q nx.length cq]) ∧ Hid (Own wr (w.heap.size + 1) 2 1 q nx.length cq (intsV nx)) ∧ Hid (q = none ∧ nx.length = 0 ∧ cq = 0 ∧ intsV nx = [] ∨ ∃ g, q = some ⟨g, 0, none⟩) ∧ Hid (∀ p, q = some p → w.heap.size < p.block ∧ p.block < wr.heap.size) ∧
        Hid (MkP wr B m mp (Aq A w.heap.size q) aq1 cM L1) ∧ Hid (MapOk mp wr (ndsOf L1)) ∧ Hid (Mst w wr m mp aq aq1) ∧ Hid (Below B w wr) ∧ Hid (BOk (ndsOf L1, lt, nx)) ∧ Hid (∀ u ∈ lt, u ≠ 43) ∧ Hid (foldW f d (ndsOf L1, lt, nx) S1 = F) ∧ L1.length + totL (sufs d S1) ≤ 199000) (fun v1 _ _ _ => lenB v1)
    case atStart => exact ⟨(S.drop 1), _, _, [], [], none, 0, L, aq, c, by rw [List.length_drop], by rw [List.length_drop]; omega, by simp; omega, hid (fun w' h => by first | exact (HR.out w' h).drop 1 | (rw [List.drop_of_length_le (by omega)]; exact Rd.nil _ _)), HW1, HL1, HB1, hid (Own.empty _ _ _ _ _), hid (.inl ⟨rfl, rfl, rfl, rfl⟩), hid (fun p hp => by cases hp), HM1, HP1, HST1, HBW1, HOK1, hid (by simp), HF, by omega⟩
    case round =>
      clear HB1 HM1 HP1 HST1 HBW1 HOK1 HF HW1 HL1 hs1
      obtain ⟨S1, a1, c1, lt, nx, q, cq, L1, aq1, cM, rfl, hc1, hnx, HR1, HW, HLT, HBX, HQO, HQS, HQB, HM, HMP, HST, HBW, HOK, HU, HF, htt⟩ := hrel
      have hsz := HST.out.ch.size
      by_cases hpos : 0 < S1.length
      · obtain ⟨k, x, hk0, hk1, hkx, hkin, hkout, hksz, hin2, hout2⟩ := run_at hpos HLT.out
        have hRW := HR1.out wr HBW.out
        obtain ⟨b1, o1, rfl, hcW⟩ := hRW.word hpos
        have HCW := hid hcW
        have HIN := hid hkin
        have HOUT := hid hkout
        have HSZ := hid hksz
        obtain ⟨hstW, hstT⟩ := HW.out.step HLT.out hk0 hk1 hin2 hout2
        obtain ⟨hx43, hx128⟩ : x ≠ 43 ∧ x.toNat < 128 := by
          rw [hkx]
          exact ltr_asc HW.out (wAt_mem S1 0 hpos) (hksz 0 hpos)
        have hfp : 0 < f := by
          have h1 := HW.out.hi _ (wAt_mem S1 0 hpos)
          have h2 := hksz 0 hpos
          omega
        have HFS := hid (foldW_step (f := f) (st := (ndsOf L1, lt, nx)) HLT.out hk0 hk1 hin2 hout2)
        obtain ⟨N2, hN2⟩ : ∃ N2, (bld f (ndsOf L1) (sufs (d + 1) (S1.take k))).1 = N2 := ⟨_, rfl⟩
        obtain ⟨I, hI2⟩ : ∃ I, (bld f (ndsOf L1) (sufs (d + 1) (S1.take k))).2 = I := ⟨_, rfl⟩
        have HOK2 : Hid (BOk (N2, lt ++ [x], nx ++ [(I : Int)])) := hid (by
          obtain ⟨g1, g2, g3⟩ := bld_ok f (ndsOf L1) (sufs (d + 1) (S1.take k)) hstW.rise (fun y hy => by
            obtain ⟨s, hs, rfl⟩ := List.mem_map.1 hy
            have h1 := hstW.hi s hs
            have h2 := hstW.lo s hs
            rw [List.length_drop, toL_len]
            omega) hfp HOK.out.1
          have := bldG_ok (bl := bld f) (g := (x, sufs (d + 1) (S1.take k))) HOK.out g2 g1 g3
          unfold bldG at this
          rwa [hN2, hI2] at this)
        have HF2 : Hid (foldW f d (N2, lt ++ [x], nx ++ [(I : Int)]) (S1.drop k) = F) := hid (by
          have := HFS.out
          unfold bldG at this
          rw [hN2, hI2] at this
          rw [← this]
          exact HF.out)
        have htt2 : N2.length + totL (sufs d (S1.drop k)) ≤ 199000 := by
          have := bld_len f (ndsOf L1) (sufs (d + 1) (S1.take k)) hstW.rise
          rw [hN2, ndsOf_length] at this
          omega
        have HN2 := hid hN2
        have HI2 := hid hI2
        have hHG := HBX.out.lt
        have hlsz : lt.length = nx.length := HOK.out.2.1
        obtain ⟨T2, hT2⟩ : ∃ T : ByteArray, ⟨(lt ++ [x]).toArray⟩ = T := ⟨_, rfl⟩
        have hcat := asc_str hx128 lt
        rw [hT2] at hcat
        have HX128 := hid hx128
        obtain ⟨T1, hT1⟩ : ∃ T : ByteArray, ⟨lt.toArray⟩ = T := ⟨_, rfl⟩
        have hts : T1.size ≤ 3000 := by
          rw [← hT1]
          show lt.toArray.size ≤ 3000
          rw [List.size_toArray]
          omega
        have n1 : ¬ 9223372036854775807 < T1.size + 1 := by omega
        have w32 : IntKind.i32.wrap (x.toNat : Int) = (x.toNat : Int) := wrap32_asc hx128
        have HX43 := hid hx43
        clear hx43 hx128
        rw [hT1] at hcat HBX
        have HT2 := hid hT2
        clear hT2 hT1
        have hgk : ¬ Kq m mp aq1 w.heap.size := fun h => (HM.out.klt _ h).2 (.inr (.inl rfl))
        have HGK := hid hgk
        have hGq : ∀ p, q = some p → p.block ≠ w.heap.size := fun p e => by have := (HQB.out p e).1; omega
        have HX2 := hid (Ch.set wr w.heap.size 1 (.string T2))
        have HB2 := hid (HBX.out.set 1 (.string T2))
        have HM2 := hid (HM.out.ch (HX2.out.mono (fun b _ e => .inr (.inl e))))
        have HQ2 := hid (HX2.out.own HQO.out hGq)
        have HP2 := hid (HMP.out.ch HX2.out (by omega))
        have HBW2 := hid (HBW.out.trans (HX2.out.below (by omega) (fun b e => by omega)))
        have hwz : (wr.setCell ⟨w.heap.size, 1, none⟩ (.string T2)).heap.size = wr.heap.size := by simp
        have HC : Hid (∀ w', Ext (wr.setCell ⟨w.heap.size, 1, none⟩ (.string T2)).drew w' → Calls Tryd.prog 36 #[.pointer (some ⟨m, 0, none⟩), .slice (some ⟨b1, o1, none⟩) k c1, .int .i64 ((d : Int) + 1)] w' (MkE w' B m mp 55 [.map (some mp)] (Aq A w.heap.size q) (MapOk mp) aq1 (bld f (ndsOf L1) (sufs (d + 1) (S1.take k))))) := hid (by
          intro w' hw'
          obtain ⟨f', rfl⟩ : ∃ f', f = f' + 1 := ⟨f - 1, by omega⟩
          have hw2 : Ext (wr.setCell ⟨w.heap.size, 1, none⟩ (.string T2)) w' := (Ext.refl _).drew.trans hw'
          have hsw := hw2.size
          have hbw2 : Below B w w' := HBW2.out.trans (Below.mono hw2.below (by omega))
          have := HIH.out f' (by omega) (d + 1) (S1.take k) (Aq A w.heap.size q) aq1 cM L1 (some ⟨b1, o1, none⟩) c1 w' (HM2.out.ext hw2) (HP2.out.ext hw2) HOK.out.1 hstW (by rw [List.length_take]; omega) (by omega) (by omega) (by rw [List.length_take]; omega)
            (fun b hb => by
              rcases hb with h | h | h
              · have := HAL.out b h; omega
              · omega
              · cases q with
                | none => simp [blkA] at h
                | some p =>
                  have e : p.block = b := by simpa [blkA] using h
                  have := (HQB.out p rfl).2
                  omega) (by omega) (fun w'' h => (HR1.out w'' (hbw2.trans h)).take k) (fun w'' h => HT.out w'' (hbw2.trans h))
          rw [List.length_take, Nat.min_eq_left hk1] at this
          exact this)
        have hd1 := hcW 0 hpos
        rw [Nat.add_zero] at hd1
        obtain ⟨s1, hs1⟩ : ∃ s, wAt S1 0 = s := ⟨_, rfl⟩
        have hz1 := hksz 0 hpos
        rw [hs1] at hd1 hz1 hkx
        have hx1 : s1[d] = x := by rw [hkx]; exact bAt_eq s1 d hz1
        have hp1 : (0 : Int) < (S1.length : Int) := by omega
        have c0 := HBX.out.cell (i := 0) rfl
        have c1' := HBX.out.cell (i := 1) rfl
        have c2 := HBX.out.cell (i := 2) rfl
        have cf := HBX.out.free 1
        have q1 : IntKind.i64.wrap ((d : Int) + 1) = (d : Int) + 1 := IntWalk.i64_in _ (by omega)
        clear hin2 hout2 hkin hkout hksz hcW hRW hstW hN2 hI2 hgk hkx hs1
        go_wp2_with fail
        go_loopw [9] (fun v wq => ∃ j : Nat, v = .int .i64 (j : Int) ∧ j ≤ k ∧ 0 < j ∧ wq = wr) (fun v _ => k - (intOf v).toNat)
        case atStart => exact ⟨1, rfl, hk0, by omega, by first | rfl | exact trivial⟩
        case round =>
          obtain ⟨j, rfl, hjk, hj0, rfl⟩ := hrel
          by_cases hjl : j < k
          · have hd2 := HCW.out j (by omega)
            have hz2 := HSZ.out j (by omega)
            have hl2 := HIN.out j hjl
            obtain ⟨s2, hs2⟩ : ∃ s, wAt S1 j = s := ⟨_, rfl⟩
            rw [hs2] at hd2 hz2 hl2
            have hx2 : s2[d] = x := by rw [← hl2]; exact bAt_eq s2 d hz2
            obtain ⟨o2, ho2⟩ : ∃ o2, o1 + j = o2 := ⟨_, rfl⟩
            rw [ho2] at hd2
            clear hs2 hl2
            go_wp2_with fail
            go_roundw
            case rel => exact ⟨j + 1, by go_num, by omega, by omega, by first | rfl | exact trivial⟩
            case measure => simp [intOf]; omega
          · obtain rfl : j = k := by omega
            by_cases hkl2 : j < S1.length
            · have hd2 := HCW.out j hkl2
              have hz2 := HSZ.out j hkl2
              have hl2 := HOUT.out hkl2
              obtain ⟨s2, hs2⟩ : ∃ s, wAt S1 j = s := ⟨_, rfl⟩
              rw [hs2] at hd2 hz2 hl2
              obtain ⟨y, hy⟩ : ∃ y, s2[d] = y := ⟨_, rfl⟩
              have hyx : ¬ ((y.toNat : Int) = (x.toNat : Int)) := fun e => by
                have e2 : y = x := UInt8.toNat_inj.1 (by omega)
                have e3 : ltr d s2 = y := by rw [← hy]; exact (bAt_eq s2 d hz2).symm
                exact hl2 (by rw [e3, e2])
              obtain ⟨o2, ho2⟩ : ∃ o2, o1 + j = o2 := ⟨_, rfl⟩
              rw [ho2] at hd2
              clear hs2 hl2
              go_wp2_with (refine wpList_asc rfl _ 21 9 rfl (by rw [Tryd.underlying21]; rfl) Tryd.underlying9 HX128.out rfl ?_)
              trace_state
              refine wp_region_flagM_at 10 8 (Ch (Kq m mp aq1)) (Ch (Kq m mp aq1)) (fun fl => [fun v _ => v = .pointer (some ⟨w.heap.size, 2, none⟩), fun v _ => v = .slice q nx.length cq, fun v _ => v = .pointer (some ⟨m, 0, none⟩), fun v _ => v = .slice (some ⟨b1, o1, none⟩) S1.length c1, fun v _ => v = .int .i64 (j : Int), fun v _ => v = .slice (some ⟨b1, o1, none⟩) j c1, fun v _ => v = .int .i64 (d : Int), fun v _ => v = .int .i64 ((d : Int) + 1), fun v w' => fl = true ∧ v = .int .i64 (I : Int) ∧ ∃ aq' c' L', ndsOf L' = N2 ∧ MkP w' B m mp (Aq A w.heap.size q) aq' c' L' ∧ MapOk mp w' (ndsOf L') ∧ Mst (wr.setCell ⟨w.heap.size, 1, none⟩ (.string T2)).drew w' m mp aq1 aq', fun v w' => fl = true ∧ ∃ g, v = .slice (some ⟨g, 0, none⟩) 1 1 ∧ Rd w' (some ⟨g, 0, none⟩) [.int .i64 (I : Int)]])
                [[(7, none)], [(56, some 0)], [(0, none)], [(1, none)], [(9, none)], [(59, some 3), (60, some 4)], [(2, none)], [(62, some 6)], [(58, some 2), (61, some 5), (63, some 7)], [(64, some 8)]] (by kernel_rfl) (by kernel_rfl) rfl (by omega) (fun x h => Ch.of_ext _ h) (fun x y h k => h.thenExt k) (fun x y h k => (Ch.of_ext _ h).trans k) ?_ ?_ ?_ ?_
              · intro fl i hi
                obtain rfl | rfl | rfl | rfl | rfl | rfl | rfl | rfl | rfl | rfl : i = 0 ∨ i = 1 ∨ i = 2 ∨ i = 3 ∨ i = 4 ∨ i = 5 ∨ i = 6 ∨ i = 7 ∨ i = 8 ∨ i = 9 := by omega
                · exact fun _ _ _ h _ => h
                · exact fun _ _ _ h _ => h
                · exact fun _ _ _ h _ => h
                · exact fun _ _ _ h _ => h
                · exact fun _ _ _ h _ => h
                · exact fun _ _ _ h _ => h
                · exact fun _ _ _ h _ => h
                · exact fun _ _ _ h _ => h
                · exact fun v x y h k => by obtain ⟨hf, e1, aq', c', L', e2, e3, e4, e5⟩ := h; exact ⟨hf, e1, aq', c', L', e2, e3.ext k, e4.ext k, e5.trans (Mst.of_ext k m mp aq')⟩
                · exact fun v x y h k => by obtain ⟨hf, g, e1, e2⟩ := h; exact ⟨hf, g, e1, e2.ext k⟩
              · intro i hi hiM
                obtain rfl | rfl | rfl | rfl | rfl | rfl | rfl | rfl | rfl | rfl : i = 0 ∨ i = 1 ∨ i = 2 ∨ i = 3 ∨ i = 4 ∨ i = 5 ∨ i = 6 ∨ i = 7 ∨ i = 8 ∨ i = 9 := by omega
                · exact fun _ _ _ _ h _ => h
                · exact fun _ _ _ _ h _ => h
                · exact fun _ _ _ _ h _ => h
                · exact fun _ _ _ _ h _ => h
                · exact fun _ _ _ _ h _ => h
                · exact fun _ _ _ _ h _ => h
                · exact fun _ _ _ _ h _ => h
                · exact fun _ _ _ _ h _ => h
                · exact absurd rfl hiM
                · exact fun v x y _ h _ => by cases h.1
              · refine ⟨?_, ?_, ?_, ?_, ?_, ?_, ?_, ?_, ?_, ?_, trivial⟩
                · rw [if_neg (by decide)]
                  rintro fl ρ w1 hw hcst hfn hk
                  clear hw
                  simp only [known, List.getD_cons_zero, List.getD_cons_succ, Nat.reduceAdd] at hk
                  simp only [List.getD_cons_zero, List.getD_cons_succ, Nat.reduceAdd, flowAt]
                  go_simp
                  exact ⟨Ext.refl _, by first | rfl | trivial⟩
                · rw [if_neg (by decide)]
                  rintro fl ρ w1 hw hcst hfn hk
                  have c0 := hw.cell (b := w.heap.size) (o := 2) (v := .slice q nx.length cq) (by first | (simp [*]; done) | (simp [*, go_sem]; done) | go_cell) (by exact HGK.out)
                  clear hw
                  simp only [known, List.getD_cons_zero, List.getD_cons_succ, Nat.reduceAdd] at hk
                  simp only [List.getD_cons_zero, List.getD_cons_succ, Nat.reduceAdd, flowAt]
                  go_simp
                  exact ⟨Ext.refl _, by first | rfl | trivial⟩
                · rw [if_neg (by decide)]
                  rintro fl ρ w1 hw hcst hfn hk
                  clear hw
                  simp only [known, List.getD_cons_zero, List.getD_cons_succ, Nat.reduceAdd] at hk
                  simp only [List.getD_cons_zero, List.getD_cons_succ, Nat.reduceAdd, flowAt]
                  go_simp
                  exact ⟨Ext.refl _, by first | rfl | trivial⟩
                · rw [if_neg (by decide)]
                  rintro fl ρ w1 hw hcst hfn hk
                  clear hw
                  simp only [known, List.getD_cons_zero, List.getD_cons_succ, Nat.reduceAdd] at hk
                  simp only [List.getD_cons_zero, List.getD_cons_succ, Nat.reduceAdd, flowAt]
                  go_simp
                  exact ⟨Ext.refl _, by first | rfl | trivial⟩
                · rw [if_neg (by decide)]
                  rintro fl ρ w1 hw hcst hfn hk
                  clear hw
                  simp only [known, List.getD_cons_zero, List.getD_cons_succ, Nat.reduceAdd] at hk
                  simp only [List.getD_cons_zero, List.getD_cons_succ, Nat.reduceAdd, flowAt]
                  go_simp
                  exact ⟨Ext.refl _, by first | rfl | trivial⟩
                · rw [if_neg (by decide)]
                  rintro fl ρ w1 hw hcst hfn hk
                  simp only [known, List.getD_cons_zero, List.getD_cons_succ, Nat.reduceAdd] at hk
                  simp only [List.getD_cons_zero, List.getD_cons_succ, Nat.reduceAdd, flowAt]
                  go_simp
                  (rw [if_pos (by omega)]; exact ⟨Ext.refl _, rfl⟩)
                · rw [if_neg (by decide)]
                  rintro fl ρ w1 hw hcst hfn hk
                  clear hw
                  simp only [known, List.getD_cons_zero, List.getD_cons_succ, Nat.reduceAdd] at hk
                  simp only [List.getD_cons_zero, List.getD_cons_succ, Nat.reduceAdd, flowAt]
                  go_simp
                  exact ⟨Ext.refl _, by first | rfl | trivial⟩
                · rw [if_neg (by decide)]
                  rintro fl ρ w1 hw hcst hfn hk
                  simp only [known, List.getD_cons_zero, List.getD_cons_succ, Nat.reduceAdd] at hk
                  simp only [List.getD_cons_zero, List.getD_cons_succ, Nat.reduceAdd, flowAt]
                  go_simp
                  exact ⟨Ext.refl _, by first | rfl | rw [q1]⟩
                · rw [if_pos (by decide)]
                  rintro ρ w1 hw hcst hfn hk
                  simp only [known, List.getD_cons_zero, List.getD_cons_succ, Nat.reduceAdd] at hk
                  simp only [List.getD_cons_zero, List.getD_cons_succ, Nat.reduceAdd]
                  (obtain ⟨h58, h61, h63, -⟩ := hk; unfold invAt execOp; go_simp; refine (HC.out _ hw).mono ?_; rintro e w' ⟨rfl, aq', c', L', e2, e3, e4, e5⟩; first | exact ⟨_, rfl, e5.ch, by rw [HI2.out], aq', c', L', by rw [e2, HN2.out], e3, e4, (Mst.of_ext hw m mp aq1).trans e5⟩ | exact ⟨_, rfl, e5.ch, by trivial, by rw [HI2.out], aq', c', L', by rw [e2, HN2.out], e3, e4, (Mst.of_ext hw m mp aq1).trans e5⟩)
                · rw [if_neg (by decide)]
                  rintro fl ρ w1 hw hcst hfn hk
                  simp only [known, List.getD_cons_zero, List.getD_cons_succ, Nat.reduceAdd] at hk
                  simp only [List.getD_cons_zero, List.getD_cons_succ, Nat.reduceAdd, flowAt]
                  go_simp
                  exact ⟨(Ext.refl _).alloc _, w1.heap.size, rfl, rd_of_new rfl [.int .i64 (I : Int)] _⟩
              intro vs w1 hw hf
              simp only [flowFacts, Nat.reduceAdd] at hf
              obtain ⟨e0, e1, e2, e3, e4, e5, e6, e7, e8, e9, -⟩ := hf
              simp only [List.take_succ_cons, List.take_zero, List.drop_succ_cons, List.drop_zero, putAll, Act.put, Nat.reduceAdd, List.setIfInBounds_toArray, List.set_cons_zero, List.set_cons_succ, e0, e1, e2, e3, e4, e5, e6, e7]
              clear e0 e1 e2 e3 e4 e5 e6 e7
              obtain ⟨-, e64, aq', cM', L', eN, hM6, hP6, hS6⟩ := e8
              obtain ⟨-, g0, hg0, hgr⟩ := e9
              rw [hg0]
              have HGR := hid hgr
              have hch : Ch (Kq m mp aq1) (wr.setCell ⟨w.heap.size, 1, none⟩ (.string T2)) w1 := (Ch.of_ext _ (Ext.refl _).drew).trans hw
              have HCH := hid hch
              have HB6 := hid (HB2.out.ch hch HGK.out)
              have HQ6 := hid (hch.own HQ2.out (fun p e h => (HM.out.klt _ h).2 (.inr (.inr (by rw [e]; rfl)))))
              have HM6 := hid hM6
              have HP6 := hid hP6
              have HS6 := hid hS6
              have HEN := hid eN
              have hz6 := hch.size
              have hgq : ¬ blkA q = some w.heap.size := fun e => by
                cases q with
                | none => simp [blkA] at e
                | some p => exact hGq p rfl (by simpa [blkA] using e)
              have HGQ := hid hgq
              clear hch hw hg0 hgr hM6 hP6 hS6 eN e64 c0 c1' c2 hgq
              go_wp2_with (at_builtin; refine wpList_appendO rfl _ _ 63 rfl El_int64 rfl rfl [.int .i64 (I : Int)] HGR.out rfl (by omega) (by simp [Value.oneCell']) HQ6.out HQS.out (by omega) (by unfold maxLen; omega) (by omega) ?_; intro g8 c8 w8 ho8 hc8 hs8; have HO8 := hid ho8; have HC8 := hid hc8; have HS8 := hid hs8; have HB8 := hid (HB6.out.ch hc8 HGQ.out); have e0 := HB8.out.cell (i := 0) rfl; have e1 := HB8.out.cell (i := 1) rfl; have e2 := HB8.out.cell (i := 2) rfl; have ef := HB8.out.free 2; clear ho8 hc8 hs8)
              have HM9 : Hid (MkP (w8.setCell ⟨w.heap.size, 2, none⟩ (.slice (some ⟨g8, 0, none⟩) (nx.length + 1) c8)) B m mp (Aq A w.heap.size (some ⟨g8, 0, none⟩)) aq' cM' L') := hid (by
                have h7 := HM6.out.also (A' := fun b => Aq A w.heap.size q b ∨ b = g8) (fun b hb => by
                  rcases hb with h | rfl
                  · exact .inl h
                  · rcases HS8.out with h | h
                    · exact .inl (.inr (.inr h))
                    · exact .inr h)
                have h9 := (h7.ch (HC8.out.mono (fun b _ e => .inl (.inr (.inr e))))).ch ((Ch.set w8 w.heap.size 2 (.slice (some ⟨g8, 0, none⟩) (nx.length + 1) c8)).mono (fun b _ e => .inl (.inr (.inl e))))
                exact h9.also (fun b hb => by
                  rcases hb with h | h | h
                  · exact .inl (.inl (.inl h))
                  · exact .inl (.inl (.inr (.inl h)))
                  · exact .inl (.inr (by simpa [blkA] using h.symm))))
              have HF8 := hid (HO8.out.form (by omega))
              have hg8 : w.heap.size < g8 ∧ g8 < w8.heap.size := by
                obtain ⟨g9, e9, k1, k2, -, -⟩ := HF8.out
                simp only [Option.some.injEq, Addr.mk.injEq, and_true] at e9
                subst e9
                exact ⟨k1, k2⟩
              have HZ9 := hid (Ch.set w8 w.heap.size 2 (.slice (some ⟨g8, 0, none⟩) (nx.length + 1) c8))
              have HST9 := hid (HST.out.weave HX2.out (Nat.le_refl _) ((Mst.of_ext (Ext.refl _).drew m mp aq1).trans HS6.out) HC8.out (fun p e => by have := (HQB.out p e).1; omega) HZ9.out)
              have HBW9 := hid (HST9.out.ch.below hB hkl.out)
              have HP9 := hid ((HP6.out.ch HC8.out (fun e => HM6.out.am.2 (.inr (.inr e)))).ch HZ9.out (fun e => HM6.out.am.2 (.inr (.inl e))))
              have hL2 : L'.length = N2.length := by rw [← HEN.out, ndsOf_length]
              go_roundw
              case rel =>
                refine ⟨S1.drop j, _, _, lt ++ [x], nx ++ [(I : Int)], some ⟨g8, 0, none⟩, c8, L', aq', cM', by rw [List.length_drop], by rw [List.length_drop]; omega, by rw [List.length_append, List.length_drop]; simp; omega, hid (fun w' h => by rw [← ho2]; exact (HR1.out w' h).drop j), hid (HW.out.sub (List.drop_sublist _ _)), hid (fun s hs => HLT.out s (List.mem_of_mem_drop hs)), hid ?_, hid ?_, hid (.inr ⟨g8, rfl⟩), hid ?_, HM9, HP9, HST9, HBW9, hid ?_, hid ?_, hid ?_, by omega⟩
                · rw [List.length_append, HT2.out]
                  exact HB8.out.set 2 _
                · rw [List.length_append, intsV_add]
                  exact HZ9.out.own HO8.out (fun p e => by simp only [Option.some.injEq] at e; subst e; simp; omega)
                · intro p e
                  simp only [Option.some.injEq] at e
                  subst e
                  exact ⟨hg8.1, by simpa using hg8.2⟩
                · rw [HEN.out]; exact HOK2.out
                · intro u hu
                  rcases List.mem_append.1 hu with h | h
                  · exact HU.out u h
                  · rw [List.mem_singleton] at h
                    subst h
                    exact HX43.out
                · rw [HEN.out]; exact HF2.out
              case measure => simp [lenB]; omega
            · have hkl3 : j = S1.length := by omega
              have hkl4 : ¬ ((j : Int) < (S1.length : Int)) := by omega
              have HK3 := hid hkl3
              clear hkl3 hkl2
              go_wp2_with (refine wpList_asc rfl _ 21 9 rfl (by rw [Tryd.underlying21]; rfl) Tryd.underlying9 HX128.out rfl ?_)
              trace_state
              refine wp_region_flagM_at 10 8 (Ch (Kq m mp aq1)) (Ch (Kq m mp aq1)) (fun fl => [fun v _ => v = .pointer (some ⟨w.heap.size, 2, none⟩), fun v _ => v = .slice q nx.length cq, fun v _ => v = .pointer (some ⟨m, 0, none⟩), fun v _ => v = .slice (some ⟨b1, o1, none⟩) S1.length c1, fun v _ => v = .int .i64 (j : Int), fun v _ => v = .slice (some ⟨b1, o1, none⟩) j c1, fun v _ => v = .int .i64 (d : Int), fun v _ => v = .int .i64 ((d : Int) + 1), fun v w' => fl = true ∧ v = .int .i64 (I : Int) ∧ ∃ aq' c' L', ndsOf L' = N2 ∧ MkP w' B m mp (Aq A w.heap.size q) aq' c' L' ∧ MapOk mp w' (ndsOf L') ∧ Mst (wr.setCell ⟨w.heap.size, 1, none⟩ (.string T2)).drew w' m mp aq1 aq', fun v w' => fl = true ∧ ∃ g, v = .slice (some ⟨g, 0, none⟩) 1 1 ∧ Rd w' (some ⟨g, 0, none⟩) [.int .i64 (I : Int)]])
                [[(7, none)], [(56, some 0)], [(0, none)], [(1, none)], [(9, none)], [(59, some 3), (60, some 4)], [(2, none)], [(62, some 6)], [(58, some 2), (61, some 5), (63, some 7)], [(64, some 8)]] (by kernel_rfl) (by kernel_rfl) rfl (by omega) (fun x h => Ch.of_ext _ h) (fun x y h k => h.thenExt k) (fun x y h k => (Ch.of_ext _ h).trans k) ?_ ?_ ?_ ?_
              · intro fl i hi
                obtain rfl | rfl | rfl | rfl | rfl | rfl | rfl | rfl | rfl | rfl : i = 0 ∨ i = 1 ∨ i = 2 ∨ i = 3 ∨ i = 4 ∨ i = 5 ∨ i = 6 ∨ i = 7 ∨ i = 8 ∨ i = 9 := by omega
                · exact fun _ _ _ h _ => h
                · exact fun _ _ _ h _ => h
                · exact fun _ _ _ h _ => h
                · exact fun _ _ _ h _ => h
                · exact fun _ _ _ h _ => h
                · exact fun _ _ _ h _ => h
                · exact fun _ _ _ h _ => h
                · exact fun _ _ _ h _ => h
                · exact fun v x y h k => by obtain ⟨hf, e1, aq', c', L', e2, e3, e4, e5⟩ := h; exact ⟨hf, e1, aq', c', L', e2, e3.ext k, e4.ext k, e5.trans (Mst.of_ext k m mp aq')⟩
                · exact fun v x y h k => by obtain ⟨hf, g, e1, e2⟩ := h; exact ⟨hf, g, e1, e2.ext k⟩
              · intro i hi hiM
                obtain rfl | rfl | rfl | rfl | rfl | rfl | rfl | rfl | rfl | rfl : i = 0 ∨ i = 1 ∨ i = 2 ∨ i = 3 ∨ i = 4 ∨ i = 5 ∨ i = 6 ∨ i = 7 ∨ i = 8 ∨ i = 9 := by omega
                · exact fun _ _ _ _ h _ => h
                · exact fun _ _ _ _ h _ => h
                · exact fun _ _ _ _ h _ => h
                · exact fun _ _ _ _ h _ => h
                · exact fun _ _ _ _ h _ => h
                · exact fun _ _ _ _ h _ => h
                · exact fun _ _ _ _ h _ => h
                · exact fun _ _ _ _ h _ => h
                · exact absurd rfl hiM
                · exact fun v x y _ h _ => by cases h.1
              · refine ⟨?_, ?_, ?_, ?_, ?_, ?_, ?_, ?_, ?_, ?_, trivial⟩
                · rw [if_neg (by decide)]
                  rintro fl ρ w1 hw hcst hfn hk
                  clear hw
                  simp only [known, List.getD_cons_zero, List.getD_cons_succ, Nat.reduceAdd] at hk
                  simp only [List.getD_cons_zero, List.getD_cons_succ, Nat.reduceAdd, flowAt]
                  go_simp
                  exact ⟨Ext.refl _, by first | rfl | trivial⟩
                · rw [if_neg (by decide)]
                  rintro fl ρ w1 hw hcst hfn hk
                  have c0 := hw.cell (b := w.heap.size) (o := 2) (v := .slice q nx.length cq) (by first | (simp [*]; done) | (simp [*, go_sem]; done) | go_cell) (by exact HGK.out)
                  clear hw
                  simp only [known, List.getD_cons_zero, List.getD_cons_succ, Nat.reduceAdd] at hk
                  simp only [List.getD_cons_zero, List.getD_cons_succ, Nat.reduceAdd, flowAt]
                  go_simp
                  exact ⟨Ext.refl _, by first | rfl | trivial⟩
                · rw [if_neg (by decide)]
                  rintro fl ρ w1 hw hcst hfn hk
                  clear hw
                  simp only [known, List.getD_cons_zero, List.getD_cons_succ, Nat.reduceAdd] at hk
                  simp only [List.getD_cons_zero, List.getD_cons_succ, Nat.reduceAdd, flowAt]
                  go_simp
                  exact ⟨Ext.refl _, by first | rfl | trivial⟩
                · rw [if_neg (by decide)]
                  rintro fl ρ w1 hw hcst hfn hk
                  clear hw
                  simp only [known, List.getD_cons_zero, List.getD_cons_succ, Nat.reduceAdd] at hk
                  simp only [List.getD_cons_zero, List.getD_cons_succ, Nat.reduceAdd, flowAt]
                  go_simp
                  exact ⟨Ext.refl _, by first | rfl | trivial⟩
                · rw [if_neg (by decide)]
                  rintro fl ρ w1 hw hcst hfn hk
                  clear hw
                  simp only [known, List.getD_cons_zero, List.getD_cons_succ, Nat.reduceAdd] at hk
                  simp only [List.getD_cons_zero, List.getD_cons_succ, Nat.reduceAdd, flowAt]
                  go_simp
                  exact ⟨Ext.refl _, by first | rfl | trivial⟩
                · rw [if_neg (by decide)]
                  rintro fl ρ w1 hw hcst hfn hk
                  simp only [known, List.getD_cons_zero, List.getD_cons_succ, Nat.reduceAdd] at hk
                  simp only [List.getD_cons_zero, List.getD_cons_succ, Nat.reduceAdd, flowAt]
                  go_simp
                  (rw [if_pos (by omega)]; exact ⟨Ext.refl _, rfl⟩)
                · rw [if_neg (by decide)]
                  rintro fl ρ w1 hw hcst hfn hk
                  clear hw
                  simp only [known, List.getD_cons_zero, List.getD_cons_succ, Nat.reduceAdd] at hk
                  simp only [List.getD_cons_zero, List.getD_cons_succ, Nat.reduceAdd, flowAt]
                  go_simp
                  exact ⟨Ext.refl _, by first | rfl | trivial⟩
                · rw [if_neg (by decide)]
                  rintro fl ρ w1 hw hcst hfn hk
                  simp only [known, List.getD_cons_zero, List.getD_cons_succ, Nat.reduceAdd] at hk
                  simp only [List.getD_cons_zero, List.getD_cons_succ, Nat.reduceAdd, flowAt]
                  go_simp
                  exact ⟨Ext.refl _, by first | rfl | rw [q1]⟩
                · rw [if_pos (by decide)]
                  rintro ρ w1 hw hcst hfn hk
                  simp only [known, List.getD_cons_zero, List.getD_cons_succ, Nat.reduceAdd] at hk
                  simp only [List.getD_cons_zero, List.getD_cons_succ, Nat.reduceAdd]
                  (obtain ⟨h58, h61, h63, -⟩ := hk; unfold invAt execOp; go_simp; refine (HC.out _ hw).mono ?_; rintro e w' ⟨rfl, aq', c', L', e2, e3, e4, e5⟩; first | exact ⟨_, rfl, e5.ch, by rw [HI2.out], aq', c', L', by rw [e2, HN2.out], e3, e4, (Mst.of_ext hw m mp aq1).trans e5⟩ | exact ⟨_, rfl, e5.ch, by trivial, by rw [HI2.out], aq', c', L', by rw [e2, HN2.out], e3, e4, (Mst.of_ext hw m mp aq1).trans e5⟩)
                · rw [if_neg (by decide)]
                  rintro fl ρ w1 hw hcst hfn hk
                  simp only [known, List.getD_cons_zero, List.getD_cons_succ, Nat.reduceAdd] at hk
                  simp only [List.getD_cons_zero, List.getD_cons_succ, Nat.reduceAdd, flowAt]
                  go_simp
                  exact ⟨(Ext.refl _).alloc _, w1.heap.size, rfl, rd_of_new rfl [.int .i64 (I : Int)] _⟩
              intro vs w1 hw hf
              simp only [flowFacts, Nat.reduceAdd] at hf
              obtain ⟨e0, e1, e2, e3, e4, e5, e6, e7, e8, e9, -⟩ := hf
              simp only [List.take_succ_cons, List.take_zero, List.drop_succ_cons, List.drop_zero, putAll, Act.put, Nat.reduceAdd, List.setIfInBounds_toArray, List.set_cons_zero, List.set_cons_succ, e0, e1, e2, e3, e4, e5, e6, e7]
              clear e0 e1 e2 e3 e4 e5 e6 e7
              obtain ⟨-, e64, aq', cM', L', eN, hM6, hP6, hS6⟩ := e8
              obtain ⟨-, g0, hg0, hgr⟩ := e9
              rw [hg0]
              have HGR := hid hgr
              have hch : Ch (Kq m mp aq1) (wr.setCell ⟨w.heap.size, 1, none⟩ (.string T2)) w1 := (Ch.of_ext _ (Ext.refl _).drew).trans hw
              have HCH := hid hch
              have HB6 := hid (HB2.out.ch hch HGK.out)
              have HQ6 := hid (hch.own HQ2.out (fun p e h => (HM.out.klt _ h).2 (.inr (.inr (by rw [e]; rfl)))))
              have HM6 := hid hM6
              have HP6 := hid hP6
              have HS6 := hid hS6
              have HEN := hid eN
              have hz6 := hch.size
              have hgq : ¬ blkA q = some w.heap.size := fun e => by
                cases q with
                | none => simp [blkA] at e
                | some p => exact hGq p rfl (by simpa [blkA] using e)
              have HGQ := hid hgq
              clear hch hw hg0 hgr hM6 hP6 hS6 eN e64 c0 c1' c2 hgq
              go_wp2_with (at_builtin; refine wpList_appendO rfl _ _ 63 rfl El_int64 rfl rfl [.int .i64 (I : Int)] HGR.out rfl (by omega) (by simp [Value.oneCell']) HQ6.out HQS.out (by omega) (by unfold maxLen; omega) (by omega) ?_; intro g8 c8 w8 ho8 hc8 hs8; have HO8 := hid ho8; have HC8 := hid hc8; have HS8 := hid hs8; have HB8 := hid (HB6.out.ch hc8 HGQ.out); have e0 := HB8.out.cell (i := 0) rfl; have e1 := HB8.out.cell (i := 1) rfl; have e2 := HB8.out.cell (i := 2) rfl; have ef := HB8.out.free 2; clear ho8 hc8 hs8)
              have HM9 : Hid (MkP (w8.setCell ⟨w.heap.size, 2, none⟩ (.slice (some ⟨g8, 0, none⟩) (nx.length + 1) c8)) B m mp (Aq A w.heap.size (some ⟨g8, 0, none⟩)) aq' cM' L') := hid (by
                have h7 := HM6.out.also (A' := fun b => Aq A w.heap.size q b ∨ b = g8) (fun b hb => by
                  rcases hb with h | rfl
                  · exact .inl h
                  · rcases HS8.out with h | h
                    · exact .inl (.inr (.inr h))
                    · exact .inr h)
                have h9 := (h7.ch (HC8.out.mono (fun b _ e => .inl (.inr (.inr e))))).ch ((Ch.set w8 w.heap.size 2 (.slice (some ⟨g8, 0, none⟩) (nx.length + 1) c8)).mono (fun b _ e => .inl (.inr (.inl e))))
                exact h9.also (fun b hb => by
                  rcases hb with h | h | h
                  · exact .inl (.inl (.inl h))
                  · exact .inl (.inl (.inr (.inl h)))
                  · exact .inl (.inr (by simpa [blkA] using h.symm))))
              have HF8 := hid (HO8.out.form (by omega))
              have hg8 : w.heap.size < g8 ∧ g8 < w8.heap.size := by
                obtain ⟨g9, e9, k1, k2, -, -⟩ := HF8.out
                simp only [Option.some.injEq, Addr.mk.injEq, and_true] at e9
                subst e9
                exact ⟨k1, k2⟩
              have HZ9 := hid (Ch.set w8 w.heap.size 2 (.slice (some ⟨g8, 0, none⟩) (nx.length + 1) c8))
              have HST9 := hid (HST.out.weave HX2.out (Nat.le_refl _) ((Mst.of_ext (Ext.refl _).drew m mp aq1).trans HS6.out) HC8.out (fun p e => by have := (HQB.out p e).1; omega) HZ9.out)
              have HBW9 := hid (HST9.out.ch.below hB hkl.out)
              have HP9 := hid ((HP6.out.ch HC8.out (fun e => HM6.out.am.2 (.inr (.inr e)))).ch HZ9.out (fun e => HM6.out.am.2 (.inr (.inl e))))
              have hL2 : L'.length = N2.length := by rw [← HEN.out, ndsOf_length]
              go_roundw
              case rel =>
                refine ⟨S1.drop j, _, _, lt ++ [x], nx ++ [(I : Int)], some ⟨g8, 0, none⟩, c8, L', aq', cM', by rw [List.length_drop], by rw [List.length_drop]; omega, by rw [List.length_append, List.length_drop]; simp; omega, hid (fun w' h => by rw [List.drop_of_length_le (by have := HK3.out; omega)]; exact Rd.nil _ _), hid (HW.out.sub (List.drop_sublist _ _)), hid (fun s hs => HLT.out s (List.mem_of_mem_drop hs)), hid ?_, hid ?_, hid (.inr ⟨g8, rfl⟩), hid ?_, HM9, HP9, HST9, HBW9, hid ?_, hid ?_, hid ?_, by omega⟩
                · rw [List.length_append, HT2.out]
                  exact HB8.out.set 2 _
                · rw [List.length_append, intsV_add]
                  exact HZ9.out.own HO8.out (fun p e => by simp only [Option.some.injEq] at e; subst e; simp; omega)
                · intro p e
                  simp only [Option.some.injEq] at e
                  subst e
                  exact ⟨hg8.1, by simpa using hg8.2⟩
                · rw [HEN.out]; exact HOK2.out
                · intro u hu
                  rcases List.mem_append.1 hu with h | h
                  · exact HU.out u h
                  · rw [List.mem_singleton] at h
                    subst h
                    exact HX43.out
                · rw [HEN.out]; exact HF2.out
              case measure => simp [lenB]; omega
      · obtain rfl : S1 = [] := List.eq_nil_of_length_eq_zero (by omega)
        have hF2 := HF.out
        rw [foldW_nil] at hF2
        have HFE := hid hF2
        obtain ⟨o1, o2, o3⟩ := HOK.out
        have HA2 := hid (HM.out.also (A' := A) (fun b h => .inl (.inl h)))
        have HN := hid (node_any B m mp A aq1 cM L1 true ⟨lt.toArray⟩ q cq nx wr HA2.out hmp HMP.out (by omega) HQO.out.rd (fun hn p e => ⟨(HQB.out p e).2, fun h => HM.out.am.1 (by rw [← h]; exact .inr (.inr (by rw [e]; rfl))), fun h => HM.out.am.2 (by rw [← h]; exact .inr (.inr (by rw [e]; rfl))), fun h => by have := HAL.out _ h; have := (HQB.out p e).1; omega, fun h => by
          cases aq1 with
          | none => simp [blkA] at h
          | some r =>
            have h2 : r.block = p.block := by simpa [blkA] using h
            exact (HM.out.aqm r rfl).2.2.2 (by rw [h2]; exact .inr (.inr (by rw [e]; rfl)))⟩) ⟨by
          show lt.toArray.size = nx.length
          rw [List.size_toArray]
          exact o2, fun j hj => (o3 j hj).1, fun u hu => HU.out u (by simpa using hu)⟩ (by simp at hnx; omega) (fun j hj => by
          have := (o3 j hj).2
          simp only [ndsOf_length] at this
          omega) (fun b h => by have := HAL.out b h; omega) (by omega) (HT.out wr HBW.out))
        have c0 := HBX.out.cell (i := 0) rfl
        have c1' := HBX.out.cell (i := 1) rfl
        have c2 := HBX.out.cell (i := 2) rfl
        obtain ⟨T1, hT1⟩ : ∃ T : ByteArray, ⟨lt.toArray⟩ = T := ⟨_, rfl⟩
        rw [hT1] at c1' HN
        have HT1 := hid hT1
        clear o1 o2 o3 hT1 hF2
        go_wp2_with fail
        with_reducible refine HN.out.mono ?_
        rintro e w9 ⟨rfl, aq', c', L', e1, e2, e3, e4⟩
        have HE1 := hid e1
        have HE2 := hid e2
        have HE3 := hid e3
        have HE4 := hid e4
        clear e1 e2 e3 e4
        go_wp2_with fail
        go_returns
        have hR : R = putN (ndsOf L1) ⟨true, T1, nx⟩ := by rw [HRR.out, ← HFE.out, ← HT1.out]
        exact ⟨by rw [hR]; rfl, aq', c', L', by rw [hR]; exact HE1.out, HE2.out, HE3.out, HST.out.trans HE4.out⟩


set_option maxRecDepth 100000 in
set_option maxHeartbeats 8000000 in
theorem build_nil (B m mp f : Nat) (hmp : mp ≠ m) (ih : ∀ f', f' < f → BuildC B m mp f') (d : Nat)  (A : Nat → Prop) (aq : Option Addr) (c : Nat) (L : List NdP) (a : Option Addr) (cc : Nat) (w : World)
    (hM : MkP w B m mp A aq c L) (hS : MapOk mp w (ndsOf L)) (hDn : Dn (ndsOf L)) (hW : WsOk d (f + 1) ([] : List ByteArray)) (hlen : (([] : List ByteArray)).length ≤ 3000) (hdf : d + f ≤ 100) (htot : L.length + totL (sufs d ([] : List ByteArray)) ≤ 199000) (hcc : (([] : List ByteArray)).length ≤ cc) (hA : ∀ b, A b → b < w.heap.size) (hB : B ≤ w.heap.size)
    (hR : ∀ w', Below B w w' → Rd w' a (strsV ([] : List ByteArray))) (hT : ∀ w', Below B w w' → TabF w') :
    Calls Tryd.prog 36 #[.pointer (some ⟨m, 0, none⟩), .slice a (([] : List ByteArray)).length cc, .int .i64 (d : Int)] w (MkE w B m mp 55 [.map (some mp)] A (MapOk mp) aq (bld (f + 1) (ndsOf L) (sufs d ([] : List ByteArray)))) := by
  have hfb : finB (sufs d ([] : List ByteArray)) = false := rfl
  have hgo : goOn d ([] : List ByteArray) = ([] : List ByteArray) := by unfold goOn; rw [hfb]; simp
  have hbw := bld_words f d (ndsOf L) ([] : List ByteArray)
  rw [hfb, hgo] at hbw
  obtain ⟨R, hRR⟩ : ∃ R, bld (f + 1) (ndsOf L) (sufs d ([] : List ByteArray)) = R := ⟨_, rfl⟩
  rw [hRR] at hbw ⊢
  obtain ⟨F, hF⟩ : ∃ F, foldW f d (ndsOf L, [], []) ([] : List ByteArray) = F := ⟨_, rfl⟩
  rw [hF] at hbw
  have HRR := hid hbw
  have hW1 := hW.sub (goOn_sub d ([] : List ByteArray))
  have hlt1 := goOn_lt hW
  rw [hgo] at hW1 hlt1
  have HFT : Hid (∀ u : List UInt8, (⟨([] : List UInt8).toArray⟩ : ByteArray) = ⟨#[]⟩) := hid (fun _ => rfl)
  have HIH := hid ih
  have HAL := hid hA
  have HM0 := hid hM
  have HT := hid hT
  have HR := hid hR
  have hml := hM.bx.lt
  have hpl := hM.lt
  have htl : totL (sufs d ([] : List ByteArray)) = totL (sufs d ([] : List ByteArray)) := by rw [← hgo, ← restL_sufs, totL_rest]
  have hRD0 := hR w (Below.refl _ _)
  clear hR
  clear ih hA hT hRR hbw
  go_enter Tryd.func36, Tryd.ntmps36
  go_wp2_with fail
  have hEn : Ext w (w.alloc (.cells #[.bool false, .string ⟨#[]⟩, .slice none 0 0] 65)) := ((Ext.refl w).alloc _)
  have hBx1 : Bx (w.alloc (.cells #[.bool false, .string ⟨#[]⟩, .slice none 0 0] 65)) w.heap.size 65 [.bool false, .string ⟨([] : List UInt8).toArray⟩, .slice none ([] : List Int).length 0] := Bx.new w _ _
  have hs1 := hEn.size
  have HB1 := hid hBx1
  have HM1 : Hid (MkP (w.alloc (.cells #[.bool false, .string ⟨#[]⟩, .slice none 0 0] 65)) B m mp (Aq A w.heap.size none) aq c L) := hid ((hM.also (fun b hb => by rcases hb with h | h | h; exact .inl h; exact .inr (Nat.le_of_eq h.symm); simp [blkA] at h)).ext hEn)
  have HP1 := hid (hS.ext hEn)
  have HST1 := hid (Mst.of_ext hEn m mp aq)
  have HBW1 : Hid (Below B w (w.alloc (.cells #[.bool false, .string ⟨#[]⟩, .slice none 0 0] 65))) := hid (Below.mono hEn.below hB)
  have HOK1 : Hid (BOk (ndsOf L, [], [])) := hid ⟨hDn, rfl, fun j hj => by simp at hj⟩
  have HF := hid hF
  have HW1 := hid hW1
  have HL1 := hid hlt1
  have hkl := hid hM.klo
  clear hM hS hDn hW hF hW1 hlt1 hBx1 hEn hfb hgo hRD0
  go_loopw [1, 8, 9] (fun v1 v8 v9 wr => ∃ (S1 : List ByteArray) (a1 : Option Addr) (c1 : Nat) (lt : List UInt8) (nx : List Int) (q : Option Addr) (cq : Nat) (L1 : List NdP) (aq1 : Option Addr) (cM : Nat),
      v1 = .slice a1 S1.length c1 ∧ S1.length ≤ c1 ∧ nx.length + S1.length ≤ 3000 ∧ Hid (∀ w', Below B w w' → Rd w' a1 (strsV S1)) ∧ Hid (WsOk d (f + 1) S1) ∧ Hid (∀ s ∈ S1, d < s.size) ∧
      Hid (Bx wr w.heap.size 65 [.bool false, .string ⟨lt.toArray⟩, .slice q nx.length cq]) ∧ Hid (Own wr (w.heap.size + 1) 2 1 q nx.length cq (intsV nx)) ∧ Hid (q = none ∧ nx.length = 0 ∧ cq = 0 ∧ intsV nx = [] ∨ ∃ g, q = some ⟨g, 0, none⟩) ∧ Hid (∀ p, q = some p → w.heap.size < p.block ∧ p.block < wr.heap.size) ∧
      Hid (MkP wr B m mp (Aq A w.heap.size q) aq1 cM L1) ∧ Hid (MapOk mp wr (ndsOf L1)) ∧ Hid (Mst w wr m mp aq aq1) ∧ Hid (Below B w wr) ∧ Hid (BOk (ndsOf L1, lt, nx)) ∧ Hid (∀ u ∈ lt, u ≠ 43) ∧ Hid (foldW f d (ndsOf L1, lt, nx) S1 = F) ∧ L1.length + totL (sufs d S1) ≤ 199000) (fun v1 _ _ _ => lenB v1)
  case atStart => exact ⟨[], _, _, [], [], none, 0, L, aq, c, rfl, by simp, by simp, hid (HR.out), HW1, HL1, HB1, hid (Own.empty _ _ _ _ _), hid (.inl ⟨rfl, rfl, rfl, rfl⟩), hid (fun p hp => by cases hp), HM1, HP1, HST1, HBW1, HOK1, hid (by simp), HF, by omega⟩
  case round =>
    clear HB1 HM1 HP1 HST1 HBW1 HOK1 HF HW1 HL1 hs1
    obtain ⟨S1, a1, c1, lt, nx, q, cq, L1, aq1, cM, rfl, hc1, hnx, HR1, HW, HLT, HBX, HQO, HQS, HQB, HM, HMP, HST, HBW, HOK, HU, HF, htt⟩ := hrel
    have hsz := HST.out.ch.size
    by_cases hpos : 0 < S1.length
    · obtain ⟨k, x, hk0, hk1, hkx, hkin, hkout, hksz, hin2, hout2⟩ := run_at hpos HLT.out
      have hRW := HR1.out wr HBW.out
      obtain ⟨b1, o1, rfl, hcW⟩ := hRW.word hpos
      have HCW := hid hcW
      have HIN := hid hkin
      have HOUT := hid hkout
      have HSZ := hid hksz
      obtain ⟨hstW, hstT⟩ := HW.out.step HLT.out hk0 hk1 hin2 hout2
      obtain ⟨hx43, hx128⟩ : x ≠ 43 ∧ x.toNat < 128 := by
        rw [hkx]
        exact ltr_asc HW.out (wAt_mem S1 0 hpos) (hksz 0 hpos)
      have hfp : 0 < f := by
        have h1 := HW.out.hi _ (wAt_mem S1 0 hpos)
        have h2 := hksz 0 hpos
        omega
      have HFS := hid (foldW_step (f := f) (st := (ndsOf L1, lt, nx)) HLT.out hk0 hk1 hin2 hout2)
      obtain ⟨N2, hN2⟩ : ∃ N2, (bld f (ndsOf L1) (sufs (d + 1) (S1.take k))).1 = N2 := ⟨_, rfl⟩
      obtain ⟨I, hI2⟩ : ∃ I, (bld f (ndsOf L1) (sufs (d + 1) (S1.take k))).2 = I := ⟨_, rfl⟩
      have HOK2 : Hid (BOk (N2, lt ++ [x], nx ++ [(I : Int)])) := hid (by
        obtain ⟨g1, g2, g3⟩ := bld_ok f (ndsOf L1) (sufs (d + 1) (S1.take k)) hstW.rise (fun y hy => by
          obtain ⟨s, hs, rfl⟩ := List.mem_map.1 hy
          have h1 := hstW.hi s hs
          have h2 := hstW.lo s hs
          rw [List.length_drop, toL_len]
          omega) hfp HOK.out.1
        have := bldG_ok (bl := bld f) (g := (x, sufs (d + 1) (S1.take k))) HOK.out g2 g1 g3
        unfold bldG at this
        rwa [hN2, hI2] at this)
      have HF2 : Hid (foldW f d (N2, lt ++ [x], nx ++ [(I : Int)]) (S1.drop k) = F) := hid (by
        have := HFS.out
        unfold bldG at this
        rw [hN2, hI2] at this
        rw [← this]
        exact HF.out)
      have htt2 : N2.length + totL (sufs d (S1.drop k)) ≤ 199000 := by
        have := bld_len f (ndsOf L1) (sufs (d + 1) (S1.take k)) hstW.rise
        rw [hN2, ndsOf_length] at this
        omega
      have HN2 := hid hN2
      have HI2 := hid hI2
      have hHG := HBX.out.lt
      have hlsz : lt.length = nx.length := HOK.out.2.1
      obtain ⟨T2, hT2⟩ : ∃ T : ByteArray, ⟨(lt ++ [x]).toArray⟩ = T := ⟨_, rfl⟩
      have hcat := asc_str hx128 lt
      rw [hT2] at hcat
      have HX128 := hid hx128
      obtain ⟨T1, hT1⟩ : ∃ T : ByteArray, ⟨lt.toArray⟩ = T := ⟨_, rfl⟩
      have hts : T1.size ≤ 3000 := by
        rw [← hT1]
        show lt.toArray.size ≤ 3000
        rw [List.size_toArray]
        omega
      have n1 : ¬ 9223372036854775807 < T1.size + 1 := by omega
      have w32 : IntKind.i32.wrap (x.toNat : Int) = (x.toNat : Int) := wrap32_asc hx128
      have HX43 := hid hx43
      clear hx43 hx128
      rw [hT1] at hcat HBX
      have HT2 := hid hT2
      clear hT2 hT1
      have hgk : ¬ Kq m mp aq1 w.heap.size := fun h => (HM.out.klt _ h).2 (.inr (.inl rfl))
      have HGK := hid hgk
      have hGq : ∀ p, q = some p → p.block ≠ w.heap.size := fun p e => by have := (HQB.out p e).1; omega
      have HX2 := hid (Ch.set wr w.heap.size 1 (.string T2))
      have HB2 := hid (HBX.out.set 1 (.string T2))
      have HM2 := hid (HM.out.ch (HX2.out.mono (fun b _ e => .inr (.inl e))))
      have HQ2 := hid (HX2.out.own HQO.out hGq)
      have HP2 := hid (HMP.out.ch HX2.out (by omega))
      have HBW2 := hid (HBW.out.trans (HX2.out.below (by omega) (fun b e => by omega)))
      have hwz : (wr.setCell ⟨w.heap.size, 1, none⟩ (.string T2)).heap.size = wr.heap.size := by simp
      have HC : Hid (∀ w', Ext (wr.setCell ⟨w.heap.size, 1, none⟩ (.string T2)).drew w' → Calls Tryd.prog 36 #[.pointer (some ⟨m, 0, none⟩), .slice (some ⟨b1, o1, none⟩) k c1, .int .i64 ((d : Int) + 1)] w' (MkE w' B m mp 55 [.map (some mp)] (Aq A w.heap.size q) (MapOk mp) aq1 (bld f (ndsOf L1) (sufs (d + 1) (S1.take k))))) := hid (by
        intro w' hw'
        obtain ⟨f', rfl⟩ : ∃ f', f = f' + 1 := ⟨f - 1, by omega⟩
        have hw2 : Ext (wr.setCell ⟨w.heap.size, 1, none⟩ (.string T2)) w' := (Ext.refl _).drew.trans hw'
        have hsw := hw2.size
        have hbw2 : Below B w w' := HBW2.out.trans (Below.mono hw2.below (by omega))
        have := HIH.out f' (by omega) (d + 1) (S1.take k) (Aq A w.heap.size q) aq1 cM L1 (some ⟨b1, o1, none⟩) c1 w' (HM2.out.ext hw2) (HP2.out.ext hw2) HOK.out.1 hstW (by rw [List.length_take]; omega) (by omega) (by omega) (by rw [List.length_take]; omega)
          (fun b hb => by
            rcases hb with h | h | h
            · have := HAL.out b h; omega
            · omega
            · cases q with
              | none => simp [blkA] at h
              | some p =>
                have e : p.block = b := by simpa [blkA] using h
                have := (HQB.out p rfl).2
                omega) (by omega) (fun w'' h => (HR1.out w'' (hbw2.trans h)).take k) (fun w'' h => HT.out w'' (hbw2.trans h))
        rw [List.length_take, Nat.min_eq_left hk1] at this
        exact this)
      have hd1 := hcW 0 hpos
      rw [Nat.add_zero] at hd1
      obtain ⟨s1, hs1⟩ : ∃ s, wAt S1 0 = s := ⟨_, rfl⟩
      have hz1 := hksz 0 hpos
      rw [hs1] at hd1 hz1 hkx
      have hx1 : s1[d] = x := by rw [hkx]; exact bAt_eq s1 d hz1
      have hp1 : (0 : Int) < (S1.length : Int) := by omega
      have c0 := HBX.out.cell (i := 0) rfl
      have c1' := HBX.out.cell (i := 1) rfl
      have c2 := HBX.out.cell (i := 2) rfl
      have cf := HBX.out.free 1
      have q1 : IntKind.i64.wrap ((d : Int) + 1) = (d : Int) + 1 := IntWalk.i64_in _ (by omega)
      clear hin2 hout2 hkin hkout hksz hcW hRW hstW hN2 hI2 hgk hkx hs1
      go_wp2_with fail
      go_loopw [9] (fun v wq => ∃ j : Nat, v = .int .i64 (j : Int) ∧ j ≤ k ∧ 0 < j ∧ wq = wr) (fun v _ => k - (intOf v).toNat)
      case atStart => exact ⟨1, rfl, hk0, by omega, by first | rfl | exact trivial⟩
      case round =>
        obtain ⟨j, rfl, hjk, hj0, rfl⟩ := hrel
        by_cases hjl : j < k
        · have hd2 := HCW.out j (by omega)
          have hz2 := HSZ.out j (by omega)
          have hl2 := HIN.out j hjl
          obtain ⟨s2, hs2⟩ : ∃ s, wAt S1 j = s := ⟨_, rfl⟩
          rw [hs2] at hd2 hz2 hl2
          have hx2 : s2[d] = x := by rw [← hl2]; exact bAt_eq s2 d hz2
          obtain ⟨o2, ho2⟩ : ∃ o2, o1 + j = o2 := ⟨_, rfl⟩
          rw [ho2] at hd2
          clear hs2 hl2
          go_wp2_with fail
          go_roundw
          case rel => exact ⟨j + 1, by go_num, by omega, by omega, by first | rfl | exact trivial⟩
          case measure => simp [intOf]; omega
        · obtain rfl : j = k := by omega
          by_cases hkl2 : j < S1.length
          · have hd2 := HCW.out j hkl2
            have hz2 := HSZ.out j hkl2
            have hl2 := HOUT.out hkl2
            obtain ⟨s2, hs2⟩ : ∃ s, wAt S1 j = s := ⟨_, rfl⟩
            rw [hs2] at hd2 hz2 hl2
            obtain ⟨y, hy⟩ : ∃ y, s2[d] = y := ⟨_, rfl⟩
            have hyx : ¬ ((y.toNat : Int) = (x.toNat : Int)) := fun e => by
              have e2 : y = x := UInt8.toNat_inj.1 (by omega)
              have e3 : ltr d s2 = y := by rw [← hy]; exact (bAt_eq s2 d hz2).symm
              exact hl2 (by rw [e3, e2])
            obtain ⟨o2, ho2⟩ : ∃ o2, o1 + j = o2 := ⟨_, rfl⟩
            rw [ho2] at hd2
            clear hs2 hl2
            go_wp2_with (refine wpList_asc rfl _ 21 9 rfl (by rw [Tryd.underlying21]; rfl) Tryd.underlying9 HX128.out rfl ?_)
            trace_state
            refine wp_region_flagM_at 10 8 (Ch (Kq m mp aq1)) (Ch (Kq m mp aq1)) (fun fl => [fun v _ => v = .pointer (some ⟨w.heap.size, 2, none⟩), fun v _ => v = .slice q nx.length cq, fun v _ => v = .pointer (some ⟨m, 0, none⟩), fun v _ => v = .slice (some ⟨b1, o1, none⟩) S1.length c1, fun v _ => v = .int .i64 (j : Int), fun v _ => v = .slice (some ⟨b1, o1, none⟩) j c1, fun v _ => v = .int .i64 (d : Int), fun v _ => v = .int .i64 ((d : Int) + 1), fun v w' => fl = true ∧ v = .int .i64 (I : Int) ∧ ∃ aq' c' L', ndsOf L' = N2 ∧ MkP w' B m mp (Aq A w.heap.size q) aq' c' L' ∧ MapOk mp w' (ndsOf L') ∧ Mst (wr.setCell ⟨w.heap.size, 1, none⟩ (.string T2)).drew w' m mp aq1 aq', fun v w' => fl = true ∧ ∃ g, v = .slice (some ⟨g, 0, none⟩) 1 1 ∧ Rd w' (some ⟨g, 0, none⟩) [.int .i64 (I : Int)]])
              [[(7, none)], [(56, some 0)], [(0, none)], [(1, none)], [(9, none)], [(59, some 3), (60, some 4)], [(2, none)], [(62, some 6)], [(58, some 2), (61, some 5), (63, some 7)], [(64, some 8)]] (by kernel_rfl) (by kernel_rfl) rfl (by omega) (fun x h => Ch.of_ext _ h) (fun x y h k => h.thenExt k) (fun x y h k => (Ch.of_ext _ h).trans k) ?_ ?_ ?_ ?_
            · intro fl i hi
              obtain rfl | rfl | rfl | rfl | rfl | rfl | rfl | rfl | rfl | rfl : i = 0 ∨ i = 1 ∨ i = 2 ∨ i = 3 ∨ i = 4 ∨ i = 5 ∨ i = 6 ∨ i = 7 ∨ i = 8 ∨ i = 9 := by omega
              · exact fun _ _ _ h _ => h
              · exact fun _ _ _ h _ => h
              · exact fun _ _ _ h _ => h
              · exact fun _ _ _ h _ => h
              · exact fun _ _ _ h _ => h
              · exact fun _ _ _ h _ => h
              · exact fun _ _ _ h _ => h
              · exact fun _ _ _ h _ => h
              · exact fun v x y h k => by obtain ⟨hf, e1, aq', c', L', e2, e3, e4, e5⟩ := h; exact ⟨hf, e1, aq', c', L', e2, e3.ext k, e4.ext k, e5.trans (Mst.of_ext k m mp aq')⟩
              · exact fun v x y h k => by obtain ⟨hf, g, e1, e2⟩ := h; exact ⟨hf, g, e1, e2.ext k⟩
            · intro i hi hiM
              obtain rfl | rfl | rfl | rfl | rfl | rfl | rfl | rfl | rfl | rfl : i = 0 ∨ i = 1 ∨ i = 2 ∨ i = 3 ∨ i = 4 ∨ i = 5 ∨ i = 6 ∨ i = 7 ∨ i = 8 ∨ i = 9 := by omega
              · exact fun _ _ _ _ h _ => h
              · exact fun _ _ _ _ h _ => h
              · exact fun _ _ _ _ h _ => h
              · exact fun _ _ _ _ h _ => h
              · exact fun _ _ _ _ h _ => h
              · exact fun _ _ _ _ h _ => h
              · exact fun _ _ _ _ h _ => h
              · exact fun _ _ _ _ h _ => h
              · exact absurd rfl hiM
              · exact fun v x y _ h _ => by cases h.1
            · refine ⟨?_, ?_, ?_, ?_, ?_, ?_, ?_, ?_, ?_, ?_, trivial⟩
              · rw [if_neg (by decide)]
                rintro fl ρ w1 hw hcst hfn hk
                clear hw
                simp only [known, List.getD_cons_zero, List.getD_cons_succ, Nat.reduceAdd] at hk
                simp only [List.getD_cons_zero, List.getD_cons_succ, Nat.reduceAdd, flowAt]
                go_simp
                exact ⟨Ext.refl _, by first | rfl | trivial⟩
              · rw [if_neg (by decide)]
                rintro fl ρ w1 hw hcst hfn hk
                have c0 := hw.cell (b := w.heap.size) (o := 2) (v := .slice q nx.length cq) (by first | (simp [*]; done) | (simp [*, go_sem]; done) | go_cell) (by exact HGK.out)
                clear hw
                simp only [known, List.getD_cons_zero, List.getD_cons_succ, Nat.reduceAdd] at hk
                simp only [List.getD_cons_zero, List.getD_cons_succ, Nat.reduceAdd, flowAt]
                go_simp
                exact ⟨Ext.refl _, by first | rfl | trivial⟩
              · rw [if_neg (by decide)]
                rintro fl ρ w1 hw hcst hfn hk
                clear hw
                simp only [known, List.getD_cons_zero, List.getD_cons_succ, Nat.reduceAdd] at hk
                simp only [List.getD_cons_zero, List.getD_cons_succ, Nat.reduceAdd, flowAt]
                go_simp
                exact ⟨Ext.refl _, by first | rfl | trivial⟩
              · rw [if_neg (by decide)]
                rintro fl ρ w1 hw hcst hfn hk
                clear hw
                simp only [known, List.getD_cons_zero, List.getD_cons_succ, Nat.reduceAdd] at hk
                simp only [List.getD_cons_zero, List.getD_cons_succ, Nat.reduceAdd, flowAt]
                go_simp
                exact ⟨Ext.refl _, by first | rfl | trivial⟩
              · rw [if_neg (by decide)]
                rintro fl ρ w1 hw hcst hfn hk
                clear hw
                simp only [known, List.getD_cons_zero, List.getD_cons_succ, Nat.reduceAdd] at hk
                simp only [List.getD_cons_zero, List.getD_cons_succ, Nat.reduceAdd, flowAt]
                go_simp
                exact ⟨Ext.refl _, by first | rfl | trivial⟩
              · rw [if_neg (by decide)]
                rintro fl ρ w1 hw hcst hfn hk
                simp only [known, List.getD_cons_zero, List.getD_cons_succ, Nat.reduceAdd] at hk
                simp only [List.getD_cons_zero, List.getD_cons_succ, Nat.reduceAdd, flowAt]
                go_simp
                (rw [if_pos (by omega)]; exact ⟨Ext.refl _, rfl⟩)
              · rw [if_neg (by decide)]
                rintro fl ρ w1 hw hcst hfn hk
                clear hw
                simp only [known, List.getD_cons_zero, List.getD_cons_succ, Nat.reduceAdd] at hk
                simp only [List.getD_cons_zero, List.getD_cons_succ, Nat.reduceAdd, flowAt]
                go_simp
                exact ⟨Ext.refl _, by first | rfl | trivial⟩
              · rw [if_neg (by decide)]
                rintro fl ρ w1 hw hcst hfn hk
                simp only [known, List.getD_cons_zero, List.getD_cons_succ, Nat.reduceAdd] at hk
                simp only [List.getD_cons_zero, List.getD_cons_succ, Nat.reduceAdd, flowAt]
                go_simp
                exact ⟨Ext.refl _, by first | rfl | rw [q1]⟩
              · rw [if_pos (by decide)]
                rintro ρ w1 hw hcst hfn hk
                simp only [known, List.getD_cons_zero, List.getD_cons_succ, Nat.reduceAdd] at hk
                simp only [List.getD_cons_zero, List.getD_cons_succ, Nat.reduceAdd]
                (obtain ⟨h58, h61, h63, -⟩ := hk; unfold invAt execOp; go_simp; refine (HC.out _ hw).mono ?_; rintro e w' ⟨rfl, aq', c', L', e2, e3, e4, e5⟩; first | exact ⟨_, rfl, e5.ch, by rw [HI2.out], aq', c', L', by rw [e2, HN2.out], e3, e4, (Mst.of_ext hw m mp aq1).trans e5⟩ | exact ⟨_, rfl, e5.ch, by trivial, by rw [HI2.out], aq', c', L', by rw [e2, HN2.out], e3, e4, (Mst.of_ext hw m mp aq1).trans e5⟩)
              · rw [if_neg (by decide)]
                rintro fl ρ w1 hw hcst hfn hk
                simp only [known, List.getD_cons_zero, List.getD_cons_succ, Nat.reduceAdd] at hk
                simp only [List.getD_cons_zero, List.getD_cons_succ, Nat.reduceAdd, flowAt]
                go_simp
                exact ⟨(Ext.refl _).alloc _, w1.heap.size, rfl, rd_of_new rfl [.int .i64 (I : Int)] _⟩
            intro vs w1 hw hf
            simp only [flowFacts, Nat.reduceAdd] at hf
            obtain ⟨e0, e1, e2, e3, e4, e5, e6, e7, e8, e9, -⟩ := hf
            simp only [List.take_succ_cons, List.take_zero, List.drop_succ_cons, List.drop_zero, putAll, Act.put, Nat.reduceAdd, List.setIfInBounds_toArray, List.set_cons_zero, List.set_cons_succ, e0, e1, e2, e3, e4, e5, e6, e7]
            clear e0 e1 e2 e3 e4 e5 e6 e7
            obtain ⟨-, e64, aq', cM', L', eN, hM6, hP6, hS6⟩ := e8
            obtain ⟨-, g0, hg0, hgr⟩ := e9
            rw [hg0]
            have HGR := hid hgr
            have hch : Ch (Kq m mp aq1) (wr.setCell ⟨w.heap.size, 1, none⟩ (.string T2)) w1 := (Ch.of_ext _ (Ext.refl _).drew).trans hw
            have HCH := hid hch
            have HB6 := hid (HB2.out.ch hch HGK.out)
            have HQ6 := hid (hch.own HQ2.out (fun p e h => (HM.out.klt _ h).2 (.inr (.inr (by rw [e]; rfl)))))
            have HM6 := hid hM6
            have HP6 := hid hP6
            have HS6 := hid hS6
            have HEN := hid eN
            have hz6 := hch.size
            have hgq : ¬ blkA q = some w.heap.size := fun e => by
              cases q with
              | none => simp [blkA] at e
              | some p => exact hGq p rfl (by simpa [blkA] using e)
            have HGQ := hid hgq
            clear hch hw hg0 hgr hM6 hP6 hS6 eN e64 c0 c1' c2 hgq
            go_wp2_with (at_builtin; refine wpList_appendO rfl _ _ 63 rfl El_int64 rfl rfl [.int .i64 (I : Int)] HGR.out rfl (by omega) (by simp [Value.oneCell']) HQ6.out HQS.out (by omega) (by unfold maxLen; omega) (by omega) ?_; intro g8 c8 w8 ho8 hc8 hs8; have HO8 := hid ho8; have HC8 := hid hc8; have HS8 := hid hs8; have HB8 := hid (HB6.out.ch hc8 HGQ.out); have e0 := HB8.out.cell (i := 0) rfl; have e1 := HB8.out.cell (i := 1) rfl; have e2 := HB8.out.cell (i := 2) rfl; have ef := HB8.out.free 2; clear ho8 hc8 hs8)
            have HM9 : Hid (MkP (w8.setCell ⟨w.heap.size, 2, none⟩ (.slice (some ⟨g8, 0, none⟩) (nx.length + 1) c8)) B m mp (Aq A w.heap.size (some ⟨g8, 0, none⟩)) aq' cM' L') := hid (by
              have h7 := HM6.out.also (A' := fun b => Aq A w.heap.size q b ∨ b = g8) (fun b hb => by
                rcases hb with h | rfl
                · exact .inl h
                · rcases HS8.out with h | h
                  · exact .inl (.inr (.inr h))
                  · exact .inr h)
              have h9 := (h7.ch (HC8.out.mono (fun b _ e => .inl (.inr (.inr e))))).ch ((Ch.set w8 w.heap.size 2 (.slice (some ⟨g8, 0, none⟩) (nx.length + 1) c8)).mono (fun b _ e => .inl (.inr (.inl e))))
              exact h9.also (fun b hb => by
                rcases hb with h | h | h
                · exact .inl (.inl (.inl h))
                · exact .inl (.inl (.inr (.inl h)))
                · exact .inl (.inr (by simpa [blkA] using h.symm))))
            have HF8 := hid (HO8.out.form (by omega))
            have hg8 : w.heap.size < g8 ∧ g8 < w8.heap.size := by
              obtain ⟨g9, e9, k1, k2, -, -⟩ := HF8.out
              simp only [Option.some.injEq, Addr.mk.injEq, and_true] at e9
              subst e9
              exact ⟨k1, k2⟩
            have HZ9 := hid (Ch.set w8 w.heap.size 2 (.slice (some ⟨g8, 0, none⟩) (nx.length + 1) c8))
            have HST9 := hid (HST.out.weave HX2.out (Nat.le_refl _) ((Mst.of_ext (Ext.refl _).drew m mp aq1).trans HS6.out) HC8.out (fun p e => by have := (HQB.out p e).1; omega) HZ9.out)
            have HBW9 := hid (HST9.out.ch.below hB hkl.out)
            have HP9 := hid ((HP6.out.ch HC8.out (fun e => HM6.out.am.2 (.inr (.inr e)))).ch HZ9.out (fun e => HM6.out.am.2 (.inr (.inl e))))
            have hL2 : L'.length = N2.length := by rw [← HEN.out, ndsOf_length]
            go_roundw
            case rel =>
              refine ⟨S1.drop j, _, _, lt ++ [x], nx ++ [(I : Int)], some ⟨g8, 0, none⟩, c8, L', aq', cM', by rw [List.length_drop], by rw [List.length_drop]; omega, by rw [List.length_append, List.length_drop]; simp; omega, hid (fun w' h => by rw [← ho2]; exact (HR1.out w' h).drop j), hid (HW.out.sub (List.drop_sublist _ _)), hid (fun s hs => HLT.out s (List.mem_of_mem_drop hs)), hid ?_, hid ?_, hid (.inr ⟨g8, rfl⟩), hid ?_, HM9, HP9, HST9, HBW9, hid ?_, hid ?_, hid ?_, by omega⟩
              · rw [List.length_append, HT2.out]
                exact HB8.out.set 2 _
              · rw [List.length_append, intsV_add]
                exact HZ9.out.own HO8.out (fun p e => by simp only [Option.some.injEq] at e; subst e; simp; omega)
              · intro p e
                simp only [Option.some.injEq] at e
                subst e
                exact ⟨hg8.1, by simpa using hg8.2⟩
              · rw [HEN.out]; exact HOK2.out
              · intro u hu
                rcases List.mem_append.1 hu with h | h
                · exact HU.out u h
                · rw [List.mem_singleton] at h
                  subst h
                  exact HX43.out
              · rw [HEN.out]; exact HF2.out
            case measure => simp [lenB]; omega
          · have hkl3 : j = S1.length := by omega
            have hkl4 : ¬ ((j : Int) < (S1.length : Int)) := by omega
            have HK3 := hid hkl3
            clear hkl3 hkl2
            go_wp2_with (refine wpList_asc rfl _ 21 9 rfl (by rw [Tryd.underlying21]; rfl) Tryd.underlying9 HX128.out rfl ?_)
            trace_state
            refine wp_region_flagM_at 10 8 (Ch (Kq m mp aq1)) (Ch (Kq m mp aq1)) (fun fl => [fun v _ => v = .pointer (some ⟨w.heap.size, 2, none⟩), fun v _ => v = .slice q nx.length cq, fun v _ => v = .pointer (some ⟨m, 0, none⟩), fun v _ => v = .slice (some ⟨b1, o1, none⟩) S1.length c1, fun v _ => v = .int .i64 (j : Int), fun v _ => v = .slice (some ⟨b1, o1, none⟩) j c1, fun v _ => v = .int .i64 (d : Int), fun v _ => v = .int .i64 ((d : Int) + 1), fun v w' => fl = true ∧ v = .int .i64 (I : Int) ∧ ∃ aq' c' L', ndsOf L' = N2 ∧ MkP w' B m mp (Aq A w.heap.size q) aq' c' L' ∧ MapOk mp w' (ndsOf L') ∧ Mst (wr.setCell ⟨w.heap.size, 1, none⟩ (.string T2)).drew w' m mp aq1 aq', fun v w' => fl = true ∧ ∃ g, v = .slice (some ⟨g, 0, none⟩) 1 1 ∧ Rd w' (some ⟨g, 0, none⟩) [.int .i64 (I : Int)]])
              [[(7, none)], [(56, some 0)], [(0, none)], [(1, none)], [(9, none)], [(59, some 3), (60, some 4)], [(2, none)], [(62, some 6)], [(58, some 2), (61, some 5), (63, some 7)], [(64, some 8)]] (by kernel_rfl) (by kernel_rfl) rfl (by omega) (fun x h => Ch.of_ext _ h) (fun x y h k => h.thenExt k) (fun x y h k => (Ch.of_ext _ h).trans k) ?_ ?_ ?_ ?_
            · intro fl i hi
              obtain rfl | rfl | rfl | rfl | rfl | rfl | rfl | rfl | rfl | rfl : i = 0 ∨ i = 1 ∨ i = 2 ∨ i = 3 ∨ i = 4 ∨ i = 5 ∨ i = 6 ∨ i = 7 ∨ i = 8 ∨ i = 9 := by omega
              · exact fun _ _ _ h _ => h
              · exact fun _ _ _ h _ => h
              · exact fun _ _ _ h _ => h
              · exact fun _ _ _ h _ => h
              · exact fun _ _ _ h _ => h
              · exact fun _ _ _ h _ => h
              · exact fun _ _ _ h _ => h
              · exact fun _ _ _ h _ => h
              · exact fun v x y h k => by obtain ⟨hf, e1, aq', c', L', e2, e3, e4, e5⟩ := h; exact ⟨hf, e1, aq', c', L', e2, e3.ext k, e4.ext k, e5.trans (Mst.of_ext k m mp aq')⟩
              · exact fun v x y h k => by obtain ⟨hf, g, e1, e2⟩ := h; exact ⟨hf, g, e1, e2.ext k⟩
            · intro i hi hiM
              obtain rfl | rfl | rfl | rfl | rfl | rfl | rfl | rfl | rfl | rfl : i = 0 ∨ i = 1 ∨ i = 2 ∨ i = 3 ∨ i = 4 ∨ i = 5 ∨ i = 6 ∨ i = 7 ∨ i = 8 ∨ i = 9 := by omega
              · exact fun _ _ _ _ h _ => h
              · exact fun _ _ _ _ h _ => h
              · exact fun _ _ _ _ h _ => h
              · exact fun _ _ _ _ h _ => h
              · exact fun _ _ _ _ h _ => h
              · exact fun _ _ _ _ h _ => h
              · exact fun _ _ _ _ h _ => h
              · exact fun _ _ _ _ h _ => h
              · exact absurd rfl hiM
              · exact fun v x y _ h _ => by cases h.1
            · refine ⟨?_, ?_, ?_, ?_, ?_, ?_, ?_, ?_, ?_, ?_, trivial⟩
              · rw [if_neg (by decide)]
                rintro fl ρ w1 hw hcst hfn hk
                clear hw
                simp only [known, List.getD_cons_zero, List.getD_cons_succ, Nat.reduceAdd] at hk
                simp only [List.getD_cons_zero, List.getD_cons_succ, Nat.reduceAdd, flowAt]
                go_simp
                exact ⟨Ext.refl _, by first | rfl | trivial⟩
              · rw [if_neg (by decide)]
                rintro fl ρ w1 hw hcst hfn hk
                have c0 := hw.cell (b := w.heap.size) (o := 2) (v := .slice q nx.length cq) (by first | (simp [*]; done) | (simp [*, go_sem]; done) | go_cell) (by exact HGK.out)
                clear hw
                simp only [known, List.getD_cons_zero, List.getD_cons_succ, Nat.reduceAdd] at hk
                simp only [List.getD_cons_zero, List.getD_cons_succ, Nat.reduceAdd, flowAt]
                go_simp
                exact ⟨Ext.refl _, by first | rfl | trivial⟩
              · rw [if_neg (by decide)]
                rintro fl ρ w1 hw hcst hfn hk
                clear hw
                simp only [known, List.getD_cons_zero, List.getD_cons_succ, Nat.reduceAdd] at hk
                simp only [List.getD_cons_zero, List.getD_cons_succ, Nat.reduceAdd, flowAt]
                go_simp
                exact ⟨Ext.refl _, by first | rfl | trivial⟩
              · rw [if_neg (by decide)]
                rintro fl ρ w1 hw hcst hfn hk
                clear hw
                simp only [known, List.getD_cons_zero, List.getD_cons_succ, Nat.reduceAdd] at hk
                simp only [List.getD_cons_zero, List.getD_cons_succ, Nat.reduceAdd, flowAt]
                go_simp
                exact ⟨Ext.refl _, by first | rfl | trivial⟩
              · rw [if_neg (by decide)]
                rintro fl ρ w1 hw hcst hfn hk
                clear hw
                simp only [known, List.getD_cons_zero, List.getD_cons_succ, Nat.reduceAdd] at hk
                simp only [List.getD_cons_zero, List.getD_cons_succ, Nat.reduceAdd, flowAt]
                go_simp
                exact ⟨Ext.refl _, by first | rfl | trivial⟩
              · rw [if_neg (by decide)]
                rintro fl ρ w1 hw hcst hfn hk
                simp only [known, List.getD_cons_zero, List.getD_cons_succ, Nat.reduceAdd] at hk
                simp only [List.getD_cons_zero, List.getD_cons_succ, Nat.reduceAdd, flowAt]
                go_simp
                (rw [if_pos (by omega)]; exact ⟨Ext.refl _, rfl⟩)
              · rw [if_neg (by decide)]
                rintro fl ρ w1 hw hcst hfn hk
                clear hw
                simp only [known, List.getD_cons_zero, List.getD_cons_succ, Nat.reduceAdd] at hk
                simp only [List.getD_cons_zero, List.getD_cons_succ, Nat.reduceAdd, flowAt]
                go_simp
                exact ⟨Ext.refl _, by first | rfl | trivial⟩
              · rw [if_neg (by decide)]
                rintro fl ρ w1 hw hcst hfn hk
                simp only [known, List.getD_cons_zero, List.getD_cons_succ, Nat.reduceAdd] at hk
                simp only [List.getD_cons_zero, List.getD_cons_succ, Nat.reduceAdd, flowAt]
                go_simp
                exact ⟨Ext.refl _, by first | rfl | rw [q1]⟩
              · rw [if_pos (by decide)]
                rintro ρ w1 hw hcst hfn hk
                simp only [known, List.getD_cons_zero, List.getD_cons_succ, Nat.reduceAdd] at hk
                simp only [List.getD_cons_zero, List.getD_cons_succ, Nat.reduceAdd]
                (obtain ⟨h58, h61, h63, -⟩ := hk; unfold invAt execOp; go_simp; refine (HC.out _ hw).mono ?_; rintro e w' ⟨rfl, aq', c', L', e2, e3, e4, e5⟩; first | exact ⟨_, rfl, e5.ch, by rw [HI2.out], aq', c', L', by rw [e2, HN2.out], e3, e4, (Mst.of_ext hw m mp aq1).trans e5⟩ | exact ⟨_, rfl, e5.ch, by trivial, by rw [HI2.out], aq', c', L', by rw [e2, HN2.out], e3, e4, (Mst.of_ext hw m mp aq1).trans e5⟩)
              · rw [if_neg (by decide)]
                rintro fl ρ w1 hw hcst hfn hk
                simp only [known, List.getD_cons_zero, List.getD_cons_succ, Nat.reduceAdd] at hk
                simp only [List.getD_cons_zero, List.getD_cons_succ, Nat.reduceAdd, flowAt]
                go_simp
                exact ⟨(Ext.refl _).alloc _, w1.heap.size, rfl, rd_of_new rfl [.int .i64 (I : Int)] _⟩
            intro vs w1 hw hf
            simp only [flowFacts, Nat.reduceAdd] at hf
            obtain ⟨e0, e1, e2, e3, e4, e5, e6, e7, e8, e9, -⟩ := hf
            simp only [List.take_succ_cons, List.take_zero, List.drop_succ_cons, List.drop_zero, putAll, Act.put, Nat.reduceAdd, List.setIfInBounds_toArray, List.set_cons_zero, List.set_cons_succ, e0, e1, e2, e3, e4, e5, e6, e7]
            clear e0 e1 e2 e3 e4 e5 e6 e7
            obtain ⟨-, e64, aq', cM', L', eN, hM6, hP6, hS6⟩ := e8
            obtain ⟨-, g0, hg0, hgr⟩ := e9
            rw [hg0]
            have HGR := hid hgr
            have hch : Ch (Kq m mp aq1) (wr.setCell ⟨w.heap.size, 1, none⟩ (.string T2)) w1 := (Ch.of_ext _ (Ext.refl _).drew).trans hw
            have HCH := hid hch
            have HB6 := hid (HB2.out.ch hch HGK.out)
            have HQ6 := hid (hch.own HQ2.out (fun p e h => (HM.out.klt _ h).2 (.inr (.inr (by rw [e]; rfl)))))
            have HM6 := hid hM6
            have HP6 := hid hP6
            have HS6 := hid hS6
            have HEN := hid eN
            have hz6 := hch.size
            have hgq : ¬ blkA q = some w.heap.size := fun e => by
              cases q with
              | none => simp [blkA] at e
              | some p => exact hGq p rfl (by simpa [blkA] using e)
            have HGQ := hid hgq
            clear hch hw hg0 hgr hM6 hP6 hS6 eN e64 c0 c1' c2 hgq
            go_wp2_with (at_builtin; refine wpList_appendO rfl _ _ 63 rfl El_int64 rfl rfl [.int .i64 (I : Int)] HGR.out rfl (by omega) (by simp [Value.oneCell']) HQ6.out HQS.out (by omega) (by unfold maxLen; omega) (by omega) ?_; intro g8 c8 w8 ho8 hc8 hs8; have HO8 := hid ho8; have HC8 := hid hc8; have HS8 := hid hs8; have HB8 := hid (HB6.out.ch hc8 HGQ.out); have e0 := HB8.out.cell (i := 0) rfl; have e1 := HB8.out.cell (i := 1) rfl; have e2 := HB8.out.cell (i := 2) rfl; have ef := HB8.out.free 2; clear ho8 hc8 hs8)
            have HM9 : Hid (MkP (w8.setCell ⟨w.heap.size, 2, none⟩ (.slice (some ⟨g8, 0, none⟩) (nx.length + 1) c8)) B m mp (Aq A w.heap.size (some ⟨g8, 0, none⟩)) aq' cM' L') := hid (by
              have h7 := HM6.out.also (A' := fun b => Aq A w.heap.size q b ∨ b = g8) (fun b hb => by
                rcases hb with h | rfl
                · exact .inl h
                · rcases HS8.out with h | h
                  · exact .inl (.inr (.inr h))
                  · exact .inr h)
              have h9 := (h7.ch (HC8.out.mono (fun b _ e => .inl (.inr (.inr e))))).ch ((Ch.set w8 w.heap.size 2 (.slice (some ⟨g8, 0, none⟩) (nx.length + 1) c8)).mono (fun b _ e => .inl (.inr (.inl e))))
              exact h9.also (fun b hb => by
                rcases hb with h | h | h
                · exact .inl (.inl (.inl h))
                · exact .inl (.inl (.inr (.inl h)))
                · exact .inl (.inr (by simpa [blkA] using h.symm))))
            have HF8 := hid (HO8.out.form (by omega))
            have hg8 : w.heap.size < g8 ∧ g8 < w8.heap.size := by
              obtain ⟨g9, e9, k1, k2, -, -⟩ := HF8.out
              simp only [Option.some.injEq, Addr.mk.injEq, and_true] at e9
              subst e9
              exact ⟨k1, k2⟩
            have HZ9 := hid (Ch.set w8 w.heap.size 2 (.slice (some ⟨g8, 0, none⟩) (nx.length + 1) c8))
            have HST9 := hid (HST.out.weave HX2.out (Nat.le_refl _) ((Mst.of_ext (Ext.refl _).drew m mp aq1).trans HS6.out) HC8.out (fun p e => by have := (HQB.out p e).1; omega) HZ9.out)
            have HBW9 := hid (HST9.out.ch.below hB hkl.out)
            have HP9 := hid ((HP6.out.ch HC8.out (fun e => HM6.out.am.2 (.inr (.inr e)))).ch HZ9.out (fun e => HM6.out.am.2 (.inr (.inl e))))
            have hL2 : L'.length = N2.length := by rw [← HEN.out, ndsOf_length]
            go_roundw
            case rel =>
              refine ⟨S1.drop j, _, _, lt ++ [x], nx ++ [(I : Int)], some ⟨g8, 0, none⟩, c8, L', aq', cM', by rw [List.length_drop], by rw [List.length_drop]; omega, by rw [List.length_append, List.length_drop]; simp; omega, hid (fun w' h => by rw [List.drop_of_length_le (by have := HK3.out; omega)]; exact Rd.nil _ _), hid (HW.out.sub (List.drop_sublist _ _)), hid (fun s hs => HLT.out s (List.mem_of_mem_drop hs)), hid ?_, hid ?_, hid (.inr ⟨g8, rfl⟩), hid ?_, HM9, HP9, HST9, HBW9, hid ?_, hid ?_, hid ?_, by omega⟩
              · rw [List.length_append, HT2.out]
                exact HB8.out.set 2 _
              · rw [List.length_append, intsV_add]
                exact HZ9.out.own HO8.out (fun p e => by simp only [Option.some.injEq] at e; subst e; simp; omega)
              · intro p e
                simp only [Option.some.injEq] at e
                subst e
                exact ⟨hg8.1, by simpa using hg8.2⟩
              · rw [HEN.out]; exact HOK2.out
              · intro u hu
                rcases List.mem_append.1 hu with h | h
                · exact HU.out u h
                · rw [List.mem_singleton] at h
                  subst h
                  exact HX43.out
              · rw [HEN.out]; exact HF2.out
            case measure => simp [lenB]; omega
    · obtain rfl : S1 = [] := List.eq_nil_of_length_eq_zero (by omega)
      have hF2 := HF.out
      rw [foldW_nil] at hF2
      have HFE := hid hF2
      obtain ⟨o1, o2, o3⟩ := HOK.out
      have HA2 := hid (HM.out.also (A' := A) (fun b h => .inl (.inl h)))
      have HN := hid (node_any B m mp A aq1 cM L1 false ⟨lt.toArray⟩ q cq nx wr HA2.out hmp HMP.out (by omega) HQO.out.rd (fun hn p e => ⟨(HQB.out p e).2, fun h => HM.out.am.1 (by rw [← h]; exact .inr (.inr (by rw [e]; rfl))), fun h => HM.out.am.2 (by rw [← h]; exact .inr (.inr (by rw [e]; rfl))), fun h => by have := HAL.out _ h; have := (HQB.out p e).1; omega, fun h => by
        cases aq1 with
        | none => simp [blkA] at h
        | some r =>
          have h2 : r.block = p.block := by simpa [blkA] using h
          exact (HM.out.aqm r rfl).2.2.2 (by rw [h2]; exact .inr (.inr (by rw [e]; rfl)))⟩) ⟨by
        show lt.toArray.size = nx.length
        rw [List.size_toArray]
        exact o2, fun j hj => (o3 j hj).1, fun u hu => HU.out u (by simpa using hu)⟩ (by simp at hnx; omega) (fun j hj => by
        have := (o3 j hj).2
        simp only [ndsOf_length] at this
        omega) (fun b h => by have := HAL.out b h; omega) (by omega) (HT.out wr HBW.out))
      have c0 := HBX.out.cell (i := 0) rfl
      have c1' := HBX.out.cell (i := 1) rfl
      have c2 := HBX.out.cell (i := 2) rfl
      obtain ⟨T1, hT1⟩ : ∃ T : ByteArray, ⟨lt.toArray⟩ = T := ⟨_, rfl⟩
      rw [hT1] at c1' HN
      have HT1 := hid hT1
      clear o1 o2 o3 hT1 hF2
      go_wp2_with fail
      with_reducible refine HN.out.mono ?_
      rintro e w9 ⟨rfl, aq', c', L', e1, e2, e3, e4⟩
      have HE1 := hid e1
      have HE2 := hid e2
      have HE3 := hid e3
      have HE4 := hid e4
      clear e1 e2 e3 e4
      go_wp2_with fail
      go_returns
      have hR : R = putN (ndsOf L1) ⟨false, T1, nx⟩ := by rw [HRR.out, ← HFE.out, ← HT1.out]
      exact ⟨by rw [hR]; rfl, aq', c', L', by rw [hR]; exact HE1.out, HE2.out, HE3.out, HST.out.trans HE4.out⟩


theorem build_any (B m mp : Nat) (hmp : mp ≠ m) (f : Nat) : BuildC B m mp f := by
  induction f using Nat.strongRecOn with
  | _ f ih =>
    intro d S A aq c L a cc w h1 h2 h3 h4 h5 h6 h7 h8 h9 h10 h11 h12
    by_cases hpos : 0 < S.length
    · by_cases hz : (wAt S 0).size = d
      · exact build_yes B m mp f hmp ih d S hpos hz A aq c L a cc w h1 h2 h3 h4 h5 h6 h7 h8 h9 h10 h11 h12
      · exact build_no B m mp f hmp ih d S hpos hz A aq c L a cc w h1 h2 h3 h4 h5 h6 h7 h8 h9 h10 h11 h12
    · obtain rfl : S = [] := List.eq_nil_of_length_eq_zero (by omega)
      exact build_nil B m mp f hmp ih d A aq c L a cc w h1 h2 h3 h4 h5 h6 h7 h8 h9 h10 h11 h12
end Go.Proofs.YtlnccdbmchjhlaaDoor
