/- The texts that stand for nodes: different for different nodes. Plain. Conditions: no letter is a plus sign; places are not negative. -/
import Derived.Test.YtlnccdbmchjhlaaDoorDwM
import Derived.Lib.ItoaNum
namespace Go.Proofs.YtlnccdbmchjhlaaDoor
set_option linter.unusedVariables false
set_option linter.unusedSimpArgs false
open Go Go.RowKit
theorem digits_small : ∀ u : Nat, ∀ d ∈ Lib.decDigits u, d ≠ 32 := by
  intro u
  induction u using Nat.strongRecOn with
  | ind u ih =>
    intro d hd
    rw [Lib.decDigits] at hd
    have hlast : ∀ v, v < 10 → UInt8.ofNat (48 + v) ≠ 32 := by decide
    split at hd
    · rename_i h
      rw [List.mem_singleton] at hd
      rw [hd]
      exact hlast u h
    · rename_i h
      rcases List.mem_append.1 hd with k | k
      · exact ih (u / 10) (by omega) d k
      · rw [List.mem_singleton] at k
        rw [k]
        exact hlast (u % 10) (by omega)
def valD (l : List UInt8) : Nat := l.foldl (fun a d => a * 10 + (d.toNat - 48)) 0
theorem digits_val : ∀ u : Nat, valD (Lib.decDigits u) = u := by
  intro u
  induction u using Nat.strongRecOn with
  | ind u ih =>
    have hlast : ∀ v, v < 10 → (UInt8.ofNat (48 + v)).toNat - 48 = v := by decide
    rw [Lib.decDigits]
    split
    · rename_i h
      show 0 * 10 + ((UInt8.ofNat (48 + u)).toNat - 48) = u
      rw [hlast u h]
      omega
    · rename_i h
      have e := ih (u / 10) (by omega)
      unfold valD at e ⊢
      rw [List.foldl_append, e]
      show u / 10 * 10 + ((UInt8.ofNat (48 + u % 10)).toNat - 48) = u
      rw [hlast _ (by omega)]
      omega
theorem itoa_inj {a b : Int} (ha : 0 ≤ a) (hb : 0 ≤ b) (h : Lib.itoa a = Lib.itoa b) : a = b := by
  unfold Lib.itoa at h
  rw [if_neg (by omega), if_neg (by omega)] at h
  have := congrArg valD h
  rw [digits_val, digits_val] at this
  omega
theorem itoa_small {a : Int} (ha : 0 ≤ a) : ∀ d ∈ Lib.itoa a, d ≠ 32 := by
  unfold Lib.itoa
  rw [if_neg (by omega)]
  exact digits_small _
/-- An edge in a node's text. -/
def chk (c : UInt8) (j : Int) : List UInt8 := c :: (Lib.itoa j ++ [32])
def chks : List UInt8 → List Int → List UInt8
  | c :: ls, j :: js => chk c j ++ chks ls js
  | _, _ => []
def keyL (n : Nd) : List UInt8 := (if n.fin then [43] else []) ++ chks n.lt.data.toList n.nx
def keyV (n : Nd) : ByteArray := ⟨(keyL n).toArray⟩
theorem keyV_list (n : Nd) : (keyV n).data.toList = keyL n := rfl
theorem cut_eq {a b : List UInt8} {r s : List UInt8} (ha : ∀ d ∈ a, d ≠ 32) (hb : ∀ d ∈ b, d ≠ 32) (h : a ++ 32 :: r = b ++ 32 :: s) : a = b ∧ r = s := by
  induction a generalizing b with
  | nil =>
    cases b with
    | nil => simpa using h
    | cons y b =>
      simp at h
      exact absurd h.1.symm (hb y (by simp))
  | cons x a ih =>
    cases b with
    | nil =>
      simp at h
      exact absurd h.1 (ha x (by simp))
    | cons y b =>
      simp only [List.cons_append, List.cons.injEq] at h
      obtain ⟨e1, e2⟩ := ih (fun d hd => ha d (List.mem_cons_of_mem _ hd)) (fun d hd => hb d (List.mem_cons_of_mem _ hd)) h.2
      exact ⟨by rw [h.1, e1], e2⟩
theorem chks_inj : ∀ (l m : List UInt8) (js ks : List Int), l.length = js.length → m.length = ks.length → (∀ j ∈ js, 0 ≤ j) → (∀ k ∈ ks, 0 ≤ k) → chks l js = chks m ks → l = m ∧ js = ks
  | [], [], [], [], _, _, _, _, _ => ⟨rfl, rfl⟩
  | [], c :: m, [], k :: ks, _, _, _, _, h => by simp [chks, chk] at h
  | c :: l, [], j :: js, [], _, _, _, _, h => by simp [chks, chk] at h
  | c :: l, d :: m, j :: js, k :: ks, h1, h2, h3, h4, h => by
    simp only [chks, chk, List.cons_append, List.append_assoc, List.cons.injEq, List.singleton_append] at h
    obtain ⟨e1, e2⟩ := h
    obtain ⟨e3, e4⟩ := cut_eq (itoa_small (h3 j (by simp))) (itoa_small (h4 k (by simp))) e2
    obtain ⟨e5, e6⟩ := chks_inj l m js ks (by simpa using h1) (by simpa using h2) (fun x hx => h3 x (List.mem_cons_of_mem _ hx)) (fun x hx => h4 x (List.mem_cons_of_mem _ hx)) e4
    rw [e1, e5, e6, itoa_inj (h3 j (by simp)) (h4 k (by simp)) e3]
    exact ⟨rfl, rfl⟩
/-- A node whose text tells it from others. -/
structure KeyOk (n : Nd) : Prop where
  len : n.lt.size = n.nx.length
  pos : ∀ j ∈ n.nx, 0 ≤ j
  plus : ∀ u ∈ n.lt.data.toList, u ≠ 43
theorem chks_head {l : List UInt8} {js : List Int} (h : ∀ u ∈ l, u ≠ 43) {r : List UInt8} : chks l js ≠ 43 :: r := by
  cases l with
  | nil => simp [chks]
  | cons c l =>
    cases js with
    | nil => simp [chks]
    | cons j js =>
      simp only [chks, chk, List.cons_append]
      intro e
      injection e with e1 e2
      exact h c (by simp) e1
theorem keyL_inj {a b : Nd} (ha : KeyOk a) (hb : KeyOk b) (h : keyL a = keyL b) : a = b := by
  have key : ∀ {a b : Nd}, KeyOk a → KeyOk b → a.fin = b.fin → chks a.lt.data.toList a.nx = chks b.lt.data.toList b.nx → a = b := by
    intro a b ha hb e1 e2
    obtain ⟨e3, e4⟩ := chks_inj _ _ _ _ (by have := ha.len; simpa using this) (by have := hb.len; simpa using this) ha.pos hb.pos e2
    cases a; cases b
    simp only at e1 e3 e4
    subst e1 e4
    congr 1
    exact ByteArray.ext (Array.toList_inj.1 e3)
  unfold keyL at h
  cases h1 : a.fin <;> cases h2 : b.fin <;> rw [h1, h2] at h
  · exact key ha hb (by rw [h1, h2]) (by simpa using h)
  · exact absurd (by simpa using h) (chks_head ha.plus)
  · exact absurd (by simpa using h.symm) (chks_head hb.plus)
  · exact key ha hb (by rw [h1, h2]) (by simpa using h)
theorem keyV_inj {a b : Nd} (ha : KeyOk a) (hb : KeyOk b) (h : keyV a = keyV b) : a = b := keyL_inj ha hb (by rw [← keyV_list, ← keyV_list, h])
/-- The text up to an edge. -/
def keyK (n : Nd) (k : Nat) : List UInt8 := (if n.fin then [43] else []) ++ chks (n.lt.data.toList.take k) (n.nx.take k)
theorem keyK_zero (n : Nd) : keyK n 0 = if n.fin then [43] else [] := by simp [keyK, chks]
theorem chks_snoc : ∀ (l : List UInt8) (js : List Int) (c : UInt8) (j : Int), l.length = js.length → chks (l ++ [c]) (js ++ [j]) = chks l js ++ chk c j
  | [], [], c, j, _ => by simp [chks]
  | x :: l, y :: js, c, j, h => by
    simp only [List.cons_append, chks, List.append_assoc]
    rw [chks_snoc l js c j (by simpa using h)]
theorem keyK_succ {n : Nd} (h : n.lt.size = n.nx.length) {k : Nat} (hk : k < n.nx.length) : keyK n (k + 1) = keyK n k ++ chk (n.lt.data.toList.getD k 0) n.nx[k] := by
  have hl : n.lt.data.toList.length = n.nx.length := by simpa using h
  unfold keyK
  rw [List.take_succ_eq_append_getElem (by omega), List.take_succ_eq_append_getElem hk, chks_snoc _ _ _ _ (by simp; omega), List.append_assoc]
  congr 3
  rw [List.getD_eq_getElem?_getD, List.getElem?_eq_getElem (by omega)]
  rfl
theorem keyK_all {n : Nd} (h : n.lt.size = n.nx.length) : keyK n n.nx.length = keyL n := by
  have hl : n.lt.data.toList.length = n.nx.length := by simpa using h
  unfold keyK keyL
  rw [List.take_of_length_le (by omega), List.take_of_length_le (Nat.le_refl _)]
theorem digits_len : ∀ (k u : Nat), u < 10 ^ (k + 1) → (Lib.decDigits u).length ≤ k + 1
  | 0, u, h => by
    rw [Lib.decDigits, dif_pos (by simpa using h)]
    simp
  | k + 1, u, h => by
    rw [Lib.decDigits]
    split
    · simp
    · rw [List.length_append]
      have := digits_len k (u / 10) (by rw [Nat.pow_succ] at h; omega)
      simp
      omega
theorem itoa_len {a : Int} (h0 : 0 ≤ a) (h1 : a < 1000000) : (Lib.itoa a).length ≤ 6 := by
  unfold Lib.itoa
  rw [if_neg (by omega)]
  exact digits_len 5 _ (by omega)
theorem chks_len : ∀ (l : List UInt8) (js : List Int), (∀ j ∈ js, 0 ≤ j ∧ j < 1000000) → (chks l js).length ≤ 8 * js.length
  | [], _, _ => by simp [chks]
  | _ :: _, [], _ => by simp [chks]
  | c :: l, j :: js, h => by
    have h1 := itoa_len (h j (by simp)).1 (h j (by simp)).2
    have h2 := chks_len l js (fun x hx => h x (List.mem_cons_of_mem _ hx))
    simp only [chks, chk, List.length_append, List.length_cons, List.length_nil]
    omega
end Go.Proofs.YtlnccdbmchjhlaaDoor
