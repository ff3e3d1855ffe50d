/- Marks in rows of the law's own: what stays apart. -/
import Derived.Test.YtlnccdbmchjhlaaDoorLex
namespace Go.Proofs.YtlnccdbmchjhlaaDoor
set_option linter.unusedVariables false
set_option linter.unusedSimpArgs false
open Go Go.RowKit
theorem OwnR.inR {w : World} {B : Nat} {a : Option Addr} {xs : List Value} (h : OwnR w B a xs) : InR B w.heap.size w a xs := by
  rcases h with rfl | ⟨g, rfl, hb, h⟩
  · exact .inl rfl
  · exact .inr ⟨g, rfl, hb, h.1, h⟩
theorem markS_any (lo hi : Nat) (a : Option Addr) (c : Nat) (l : List ByteArray) (k : Nat) (w : World) (h : InR lo hi w a (strsV l)) (hl : l.length ≤ 1048576) (hk1 : 1 ≤ k) (hk2 : k ≤ 2000000) :
    Calls Tryd.prog 26 #[.slice a l.length c, .int .i64 k] w fun e w' => e = .returned (.int .i64 ((k + l.length : Nat) : Int)) ∧ InR lo hi w' a (strsV (marksL l.length k)) ∧ Exb lo hi w w' := by
  rcases h with h | ⟨g, rfl, h1, h2, h⟩
  · have : l = [] := by cases l; rfl; simp [strsV] at h
    subst this
    refine (markStringS_nil a c k w).mono ?_
    rintro e w' ⟨rfl, rfl⟩
    exact ⟨rfl, .inl rfl, Exb.of_ext (Ext.refl _)⟩
  · refine (markStringS_any g c l k w h hl hk1 hk2).mono ?_
    rintro e w' ⟨rfl, hw, hx⟩
    exact ⟨rfl, .inr ⟨g, rfl, h1, h2, hw⟩, Exb.of_exc hx h1 h2⟩
theorem markX_any (lo hi : Nat) (a : Option Addr) (c : Nat) (l : List ByteArray) (k : Nat) (w : World) (h : InR lo hi w a (strsV l)) (hl : l.length ≤ 1048576) (hk1 : 1 ≤ k) (hk2 : k ≤ 2000000) :
    Calls Tryd.prog 11 #[lexV a l.length c, .int .i64 k] w fun e w' => e = .returned (.int .i64 ((k + l.length : Nat) : Int)) ∧ InR lo hi w' a (strsV (marksL l.length k)) ∧ Exb lo hi w w' := by
  have HR := hid (h.ext ((Ext.refl w).alloc (.cells #[.slice a l.length c] 31)))
  clear h
  go_enter Tryd.func11, Tryd.ntmps11
  go_wp2_with fail
  refine (markS_any lo hi a c l k _ HR.out hl hk1 hk2).mono ?_
  rintro e w1 ⟨rfl, hr, hx⟩
  have HP := hid hr
  clear hr
  go_wp2_with fail
  go_returns
  exact ⟨rfl, HP.out, Exb.pre ((Ext.refl w).alloc _) hx⟩
/-- A lexicon with these words. -/
def LexIs (l : List ByteArray) (v : Value) (w : World) : Prop := ∃ a c, v = lexV a l.length c ∧ Rd w a (strsV l)
theorem LexIs.ext {l : List ByteArray} {v : Value} {w w' : World} (h : LexIs l v w) (k : Ext w w') : LexIs l v w' := by
  obtain ⟨a, c, h1, h2⟩ := h
  exact ⟨a, c, h1, h2.ext k⟩
theorem flow_lex {P : Program} {f : FuncId} {args : Array Value} {w : World} {l : List ByteArray} (h : Calls P f args w (RetX l w)) : flowUpon P Ext w (fun v w' => LexIs l v w') (.ok (.enter f args) w) :=
  ⟨Ext.refl w, h.mono fun _ _ ⟨a, c, he, ho, hx⟩ => ⟨_, he, hx, a, c, rfl, ho.rd⟩⟩
end Go.Proofs.YtlnccdbmchjhlaaDoor
