/- What calls leave alone; growing lists. No conditions. -/
import Derived.Test.YtbekogkbdmaobaaEf15
namespace Go.EF
open Go Go.RowKit

/-- All that was there is as it was. -/
structure Ext (s s' : St) : Prop where
  next : s.next ≤ s'.next
  get : ∀ a, a < s.next → s'.get a = s.get a

theorem Ext.refl (s : St) : Ext s s := ⟨Nat.le_refl _, fun _ _ => rfl⟩
theorem Ext.trans {a b c : St} (h : Ext a b) (k : Ext b c) : Ext a c := ⟨Nat.le_trans h.next k.next, fun x hx => (k.get x (Nat.lt_of_lt_of_le hx h.next)).trans (h.get x hx)⟩
theorem Ext.alloc {s s' : St} (h : Ext s s') (o : AObj) : Ext s (s'.alloc o) := h.trans ⟨by rw [St.next_alloc]; omega, fun a ha => St.get_alloc_old _ _ ha⟩
theorem Ext.set {s s' : St} (h : Ext s s') {a : Nat} (ha : s.next ≤ a) (o : AObj) : Ext s (s'.set a o) := ⟨by rw [St.next_set]; exact h.next, fun x hx => by rw [St.get_set_ne _ _ (by omega)]; exact h.get x hx⟩
theorem Ext.here {s s' : St} (h : Ext s s') {a : Nat} {o : AObj} (g : s.get a = some o) : s'.get a = some o := by rw [h.get a (St.lt_of_get g)]; exact g

end Go.EF
