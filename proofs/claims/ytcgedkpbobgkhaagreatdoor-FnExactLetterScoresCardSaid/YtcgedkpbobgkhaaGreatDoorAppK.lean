/- append of a row that can be read: what else stays. No condition. -/
import Derived.Test.YtcgedkpbobgkhaaGreatDoorBase2
namespace Go.Proofs.YtcgedkpbobgkhaaGreatDoor
set_option linter.unusedVariables false
set_option linter.unusedSimpArgs false
open Go Go.RowKit
section
variable {P : Program}
theorem wpList_appendK {ops : Array Oper} {rest : List Oper} {o : Oper} {ac : Act} {Q : Exit → Act → World → Prop} (hgd : o.guard = none) (s x : Operand) (t : TypeId)
    (ho : o.op = .call { callee := .builtin .append, args := #[s, x], argTypes := #[t, t] }) {w : World} {e : TypeId} {z : Value} {size bytes : Nat} (E : El P t e z size bytes)
    {a : Option Addr} {n c : Nat} (hs : ac.eval s = .slice a n c) {b : Option Addr} {m k : Nat} (hx : ac.eval x = .slice b m k) (val : List Value) (hrd : Rd w b val) (hlen : val.length = m * size) (hm : 0 < m) (hone : ∀ u ∈ val, u.oneCell' = true)
    {B : Nat} {xs : List Value} (hown : Own w B e size a n c xs) (hB : B ≤ w.heap.size) (h63 : n + m ≤ maxLen) (hbytes : (n + m) * bytes ≤ 140737488355328)
    (h : ∀ a' c' w', Own w' B e size a' (n + m) c' (xs ++ val) → Below B w w' → Kept e w w' → wpList P ops Q rest (ac.put o.dst (.slice a' (n + m) c')) w') :
    wpList P ops Q (o :: rest) ac w := by
  refine wpList_plain hgd fun K hK => ?_
  obtain ⟨b', o', rfl, hc⟩ := hrd.at (by rw [hlen]; exact Nat.mul_pos hm E.pos)
  have hcells : ∀ j u, val[j]? = some u → w.cell? ((⟨b', o', none⟩ : Addr).add j) = some u := by
    intro j u hj
    have hadd : (⟨b', o', none⟩ : Addr).add j = ⟨b', o' + j, none⟩ := by unfold Addr.add; split <;> simp_all
    rw [hadd]
    exact hc j u hj
  obtain ⟨a', c', w', hr, hO, hb, hk⟩ := run_append_OwnK (P := P) (ty := o.type) E (B := B) hB hown ⟨b', o', none⟩ m k val hlen hm hcells hone h63 hbytes
  unfold Oper.wp execOp
  simp only [ho, resolve, invoke, builtin, Sem.run_bind, Sem.run_pure, Result.andThen_ok, List.map_toArray, List.map_cons, List.map_nil, hs, hx, hr]
  exact hK _ _ (h a' c' w' hO hb hk)
end
end Go.Proofs.YtcgedkpbobgkhaaGreatDoor
