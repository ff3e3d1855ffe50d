/- CompletionsOf: the letters that complete a rack to a word. Conditions: at most 2^20 words, each of at most 2^20 bytes. -/
import Derived.Test.YtaigabenlccdaaaCh10o
import Derived.Test.YtaigabenlccdaaaCh05a
namespace Go.Proofs.Ytaigabenlccdaaa
set_option linter.unusedVariables false
set_option linter.unusedSimpArgs false
open Go Go.RowKit
def ltU (k : Nat) : UInt8 := UInt8.ofNat (97 + k)
def ltS (k : Nat) : ByteArray := ⟨#[ltU k]⟩
theorem ltU_nat (k : Nat) (h : k < 26) : (ltU k).toNat = 97 + k := by unfold ltU; simp; omega
theorem ltU_small (k : Nat) (h : k < 26) : smallU (ltU k) := by have := ltU_nat k h; unfold smallU; omega
theorem enc_lt (k : Nat) (h : k < 26) : Utf8.encode (97 + (k : Int)) = ltS k := by
  have : ∀ x : Fin 26, Utf8.encode (97 + ((x.val : Nat) : Int)) = ltS x.val := by decide +kernel
  exact this ⟨k, h⟩
def hitB (l : List ByteArray) (r : ByteArray) (k : Nat) : Bool := l.any fun s => decide (s.size = r.size + 1) && canW (r.data.toList ++ [ltU k]) s.data.toList
def comL (l : List ByteArray) (r : ByteArray) (m : Nat) : List UInt8 := ((List.range m).filter (hitB l r)).map ltU
def comS (l : List ByteArray) (r : ByteArray) (m : Nat) : ByteArray := ⟨(comL l r m).toArray⟩
theorem comS_succ (l : List ByteArray) (r : ByteArray) (m : Nat) : comS l r (m + 1) = if hitB l r m then comS l r m ++ ltS m else comS l r m := by
  unfold comS comL
  rw [List.range_succ, List.filter_append, List.map_append]
  cases h : hitB l r m
  · simp [h]
  · rw [if_pos rfl]
    apply ByteArray.ext
    rw [ByteArray.data_append]
    simp [h, ltS]
theorem comS_size (l : List ByteArray) (r : ByteArray) (m : Nat) : (comS l r m).size ≤ m := by
  have : (comS l r m).size = (comL l r m).length := by simp [comS, ByteArray.size]
  rw [this]
  unfold comL
  rw [List.length_map]
  have := List.length_filter_le (hitB l r) (List.range m)
  rw [List.length_range] at this
  exact this
def comC (l : List ByteArray) (r : ByteArray) : Int := if lexOk l then if rackOk r then 0 else 1 else 1
def comX (l : List ByteArray) (r : ByteArray) : ByteArray := if lexOk l then if rackOk r then comS l r 26 else ⟨#[]⟩ else ⟨#[]⟩
theorem long_small {s : ByteArray} (h : longOk s = true) : ∀ x ∈ s.data.toList, smallU x := by
  intro x hx
  unfold longOk wordOk at h
  simp only [Bool.and_eq_true] at h
  have h2 := h.2.2
  unfold allB at h2
  rw [List.all_eq_true] at h2
  have := h2 x hx
  unfold smallB at this
  simp only [decide_eq_true_eq] at this
  unfold smallU
  omega
theorem lex_small {l : List ByteArray} (h : lexOk l = true) : ∀ s ∈ l, ∀ x ∈ s.data.toList, smallU x := by
  unfold lexOk at h
  simp only [Bool.and_eq_true, List.all_eq_true] at h
  exact fun s hs => long_small (h.2.2 s hs)
/-- A function literal with two captured variables: it answers by g for the words of a list, from the world w0 on. -/
def Sel2 (l : List ByteArray) (f : Nat) (p q : Addr) (w0 : World) (g : ByteArray → Bool) : Prop :=
  (∀ (x : Value) (w : World), (callFunc f #[x, .pointer (some p), .pointer (some q)]).run Try.prog w = .ok (.enter f #[x, .pointer (some p), .pointer (some q)]) w) ∧
  ∀ s ∈ l, ∀ w' : World, Ext w0 w' → Calls Try.prog f #[.string s, .pointer (some p), .pointer (some q)] w' (Ret (.bool (g s)) w')
theorem any_no {l : List ByteArray} {g : ByteArray → Bool} (h : ∀ k, k < l.length → g (wAt l k) = false) : l.any g = false := by
  rw [List.any_eq_false]
  intro x hx
  obtain ⟨i, hi, rfl⟩ := List.getElem_of_mem hx
  rw [wAt_eq l i hi]
  simpa using h i hi
theorem any_yes {l : List ByteArray} {g : ByteArray → Bool} (k : Nat) (hk : k < l.length) (h : g (wAt l k) = true) : l.any g = true := by
  rw [List.any_eq_true]
  exact ⟨_, wAt_mem l k hk, h⟩
set_option maxHeartbeats 1000000 in
theorem IndexFunc2_any (a : Option Addr) (c : Nat) (l : List ByteArray) (f : Nat) (p q : Addr) (g : ByteArray → Bool) (w0 w : World) (hT : Sel2 l f p q w0 g) (h0 : Ext w0 w) (h : Rd w a (strsV l)) (hl : l.length ≤ 1048576) :
    Calls Try.prog 67 #[.slice a l.length c, .func (.func f) #[] #[.pointer (some p), .pointer (some q)]] w fun e w' => ∃ i : Int, e = .returned (.int .i64 i) ∧ -1 ≤ i ∧ i ≤ 1048576 ∧ decide (0 ≤ i) = l.any g ∧ Ext w w' := by
  obtain ⟨hcf, hT⟩ := hT
  have HT := hid hT
  have HR : Hid (∀ w', Ext w w' → Rd w' a (strsV l)) := hid (fun w' k => h.ext k)
  have HN := hid (@any_no l g)
  have HY := hid (@any_yes l g)
  clear h hT
  go_enter Try.func67, Try.ntmps67
  go_wp2_with fail
  go_loopw [8] (fun i wr => ∃ k : Nat, k ≤ l.length ∧ i = .int .i64 (k : Int) ∧ Hid (∀ j, j < k → g (wAt l j) = false) ∧ Ext w wr) (fun i _ => l.length - (intOf i).toNat)
  case atStart => exact ⟨0, by omega, rfl, hid (fun j hj => by omega), Ext.refl _⟩
  case round =>
    obtain ⟨k, hk, rfl, hall, hE⟩ := hrel
    by_cases hlt : k < l.length
    · obtain ⟨b, o, rfl, hc⟩ := (HR.out _ hE).word (by omega)
      have c0 := hc k hlt
      have HM := hid (wAt_mem l k hlt)
      obtain ⟨s, hs⟩ : ∃ s, wAt l k = s := ⟨_, rfl⟩
      rw [hs] at c0 HM
      have HSS := hid hs
      obtain ⟨p0, hp0⟩ : ∃ p0, o + k = p0 := ⟨_, rfl⟩
      rw [hp0] at c0
      clear hs hc
      go_wp2_with fail
      refine (HT.out s HM.out _ (h0.trans hE)).mono ?_
      rintro e w2 ⟨rfl, hx⟩
      cases hg : g s
      · have HG := hid hg
        clear hg
        go_wp2_with fail
        go_roundw
        case rel =>
          exact ⟨k + 1, by omega, by go_num, hid (fun j hj => by
            by_cases e : j = k
            · subst e; rw [HSS.out, HG.out]
            · exact hall.out j (by omega)), hE.trans hx⟩
        case measure => simp [intOf]; omega
      · have HG := hid hg
        clear hg
        go_wp2_with fail
        go_returns
        exact ⟨(k : Int), rfl, by omega, by omega, by rw [HY.out k hlt (by rw [HSS.out, HG.out])]; simp, hE.trans hx⟩
    · obtain rfl : k = l.length := by omega
      go_wp2_with fail
      go_returns
      exact ⟨-1, rfl, by omega, by omega, by rw [HN.out hall.out]; rfl, hE⟩
theorem ContainsFunc2_any (a : Option Addr) (c : Nat) (l : List ByteArray) (f : Nat) (p q : Addr) (g : ByteArray → Bool) (w0 w : World) (hT : Sel2 l f p q w0 g) (h0 : Ext w0 w) (h : Rd w a (strsV l)) (hl : l.length ≤ 1048576) :
    Calls Try.prog 45 #[.slice a l.length c, .func (.func f) #[] #[.pointer (some p), .pointer (some q)]] w (Ret (.bool (l.any g)) w) := by
  have H := hid (IndexFunc2_any a c l f p q g w0 w hT h0 h hl)
  clear hT h0 h
  go_enter Try.func45, Try.ntmps45
  go_wp2_with fail
  refine H.out.mono ?_
  rintro e w2 ⟨i, rfl, hi, hi2, hd, hx⟩
  have HD := hid hd
  clear hd
  go_wp2_with fail
  go_returns
  exact ⟨by rw [← HD.out]; first | rfl | simp, hx⟩
theorem wpList_load_row_wanted {P : Program} {ops : Array Oper} {rest : List Oper} {o : Oper} {a : Act} {w : World} {Q : Exit → Act → World → Prop} (hw : Region.wanted o (yielded ops a.tmps) = true) (ty : TypeId) (x : Operand) (ho : o.op = .load ty x)
    (g : Nat) (hx : a.eval x = .pointer (some ⟨g, 0, none⟩)) (t : TypeId) (cs : Array Value) (fr : Nat × Nat) (d : TypeDesc) (hg : w.heap[g]? = some (.cells cs t fr))
    (hu : P.underlying ty = some d) (hd : (match d with | .struct _ | .array _ _ => true | _ => false) = true) (hi : (P.info? ty).map (·.size) = some cs.size)
    (h : wpList P ops Q rest (a.put o.dst (.agg cs)) w) : wpList P ops Q (o :: rest) a w :=
  wpList_step fun K hK => by rw [if_pos hw]; exact wp_load_row ty x ho g hx t cs fr d hg hu hd hi (hK _ _ h)
set_option maxRecDepth 100000 in
theorem Sel2_com (br bt : Nat) (l : List ByteArray) (r : ByteArray) (k : Nat) (w0 : World) (h : w0.cell? ⟨br, 0, none⟩ = some (.string r)) (ht : w0.heap[bt]? = some (.cells (cntA (cntN (r.data.toList ++ [ltU k]))) 68 (0, 0))) (hr : r.size ≤ 1000) (hs : ∀ s ∈ l, s.size ≤ 1048576) (hsm : ∀ s ∈ l, ∀ x ∈ s.data.toList, smallU x) :
    Sel2 l 46 ⟨br, 0, none⟩ ⟨bt, 0, none⟩ w0 (fun s => decide (s.size = r.size + 1) && canW (r.data.toList ++ [ltU k]) s.data.toList) := by
  refine ⟨fun x w => by kernel_rfl, fun s hm w hx => ?_⟩
  have b0 := hx.cell h
  have HBT := hid (show w.heap[bt]? = some (.cells (cntA (cntN (r.data.toList ++ [ltU k]))) 68 (0, 0)) by rw [hx.below.block bt (Array.getElem?_eq_some_iff.1 ht).1]; exact ht)
  have hz := hs s hm
  have HC := hid (canMake_any (r.data.toList ++ [ltU k]) s w (by simp; omega) hz (hsm s hm))
  have h2 := cntA_size (cntN (r.data.toList ++ [ltU k]))
  obtain ⟨A, hA⟩ : ∃ A, cntA (cntN (r.data.toList ++ [ltU k])) = A := ⟨_, rfl⟩
  rw [hA] at HBT HC h2
  obtain ⟨C, hC⟩ : ∃ C, canW (r.data.toList ++ [ltU k]) s.data.toList = C := ⟨_, rfl⟩
  rw [hC] at HC
  show Calls _ _ _ _ (Ret (.bool (decide (s.size = r.size + 1) && canW (r.data.toList ++ [ltU k]) s.data.toList)) w)
  rw [hC]
  have HSZ := hid h2
  clear hA hC h2 h ht hx hs hsm hm
  by_cases he : s.size = r.size + 1
  · have HD : Hid (decide (s.size = r.size + 1) = true) := hid (decide_eq_true he)
    have hei : ((s.size : Int) == (r.size : Int) + 1) = true := by simp; omega
    clear he
    go_enter Try.func46, Try.ntmps46
    go_wp2_with (refine wpList_load_row_wanted (by first | rfl | simp [Region.wanted, yielded]) 68 _ rfl bt rfl _ A (0, 0) _ HBT.out Try.underlying68 rfl (by rw [HSZ.out]; kernel_rfl) ?_)
    refine HC.out.mono ?_
    rintro e w1 ⟨rfl, hx⟩
    go_wp2_with fail
    go_returns
    exact ⟨by rw [HD.out]; rfl, hx⟩
  · have HD : Hid (decide (s.size = r.size + 1) = false) := hid (decide_eq_false he)
    have hei : ((s.size : Int) == (r.size : Int) + 1) = false := by simp; omega
    clear he
    go_enter Try.func46, Try.ntmps46
    go_wp2_with fail
    go_returns
    exact ⟨by rw [HD.out]; rfl, Ext.refl _⟩
end Go.Proofs.Ytaigabenlccdaaa
