/- Where a walk stands, under one name (for seats other than seal's, which has this in XSeal1 and XRWrap). -/
import Derived.Test.YthhjmodkodkgpaaDoorRSum
import Derived.Lib.QuietBelow
namespace Go.Proofs.YthhjmodkodkgpaaDoor
open Go.RowKit Sbx Go.Sort

/-- the tables lie, and nothing that lay in w0 has turned -/
def St (w0 w : World) : Prop := Glob w ∧ Below w0.heap.size w0 w
theorem St.start {w : World} (h : Glob w) : Hid (St w w) := ⟨h, Below.refl _ _⟩
theorem St.below {w0 w w' : World} (h : Hid (St w0 w)) (hb : Below w.heap.size w w') : Hid (St w0 w') := ⟨h.out.1.below hb, h.out.2.trans (hb.mono h.out.2.size)⟩
theorem St.call {w0 w : World} {f : FuncId} {args : Array Value} {v : Ending} (h : Hid (St w0 w)) (c : Calls Tryd.prog f args w fun e w' => e = v ∧ Below w.heap.size w w') : Calls Tryd.prog f args w fun e w' => e = v ∧ Hid (St w0 w') :=
  c.mono fun _ _ ⟨he, hb⟩ => ⟨he, St.below h hb⟩
theorem St.callG {w0 w : World} {f : FuncId} {args : Array Value} {v : Ending} (h : Hid (St w0 w)) (c : ∀ W, Glob W → Calls Tryd.prog f args W fun e w' => e = v ∧ Below W.heap.size W w') : Calls Tryd.prog f args w fun e w' => e = v ∧ Hid (St w0 w') := St.call h (c w h.out.1)
theorem St.callR {w0 w : World} {f : FuncId} {args : Array Value} {v : Ending} (h : Hid (St w0 w)) (c : ∀ W, Calls Tryd.prog f args W fun e w' => e = v ∧ Below W.heap.size W w') : Calls Tryd.prog f args w fun e w' => e = v ∧ Hid (St w0 w') := St.call h (c w)
theorem St.still {w0 w : World} {f : FuncId} {args : Array Value} {v : Ending} (h : Hid (St w0 w)) (c : Calls Tryd.prog f args w fun e w' => e = v ∧ w = w') : Calls Tryd.prog f args w fun e w' => e = v ∧ Hid (St w0 w') :=
  c.mono fun _ _ ⟨he, hb⟩ => ⟨he, by rw [← hb]; exact h⟩
theorem St.alloc {w0 w : World} (h : Hid (St w0 w)) (o : Obj) : Hid (St w0 (w.alloc o)) := St.below h ((Below.refl _ _).alloc (Nat.le_refl _) o)
/-- the same without the tables -/
def Bl (w0 w : World) : Prop := Below w0.heap.size w0 w
theorem Bl.start (w : World) : Hid (Bl w w) := Below.refl _ _
theorem Bl.call {w0 w : World} {f : FuncId} {args : Array Value} {v : Ending} (h : Hid (Bl w0 w)) (c : ∀ W, Calls Tryd.prog f args W fun e w' => e = v ∧ Below W.heap.size W w') : Calls Tryd.prog f args w fun e w' => e = v ∧ Hid (Bl w0 w') :=
  (c w).mono fun _ _ ⟨he, hb⟩ => ⟨he, Below.trans h.out (Below.mono hb (Below.size h.out))⟩
theorem Bl.still {w0 w : World} {f : FuncId} {args : Array Value} {v : Ending} (h : Hid (Bl w0 w)) (c : ∀ W, Calls Tryd.prog f args W fun e w' => e = v ∧ W = w') : Calls Tryd.prog f args w fun e w' => e = v ∧ Hid (Bl w0 w') :=
  (c w).mono fun _ _ ⟨he, hb⟩ => ⟨he, by rw [← hb]; exact h⟩
end Go.Proofs.YthhjmodkodkgpaaDoor
