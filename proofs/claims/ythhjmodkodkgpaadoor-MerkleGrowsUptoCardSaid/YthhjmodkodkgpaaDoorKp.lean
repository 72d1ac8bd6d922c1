/- What a walk keeps, through calls that turn nothing that lay. -/
import Derived.Test.YthhjmodkodkgpaaDoorLst
namespace Go.Proofs.YthhjmodkodkgpaaDoor
open Go.RowKit Sbx Go.Sort
class Kp (C : World → Prop) : Prop where
  keep : ∀ w w', C w → Below w.heap.size w w' → C w'
def LstW (w0 : World) (e : TypeId) (v : Value) (xs : List Value) (w : World) : Prop := Lst w0 w e v xs
def And2 (C D : World → Prop) (w : World) : Prop := C w ∧ D w
instance (w0 : World) : Kp (St w0) := ⟨fun _ _ h hb => (St.below h hb).out⟩
instance (w0 : World) (e : TypeId) (v : Value) (xs : List Value) : Kp (LstW w0 e v xs) := ⟨fun _ _ h hb => Lst.below h hb⟩
instance (w0 : World) : Kp (Bl w0) := ⟨fun _ _ h hb => Below.trans h (Below.mono hb (Below.size h))⟩
instance (A : Option Addr) (n : Nat) (f : Nat → Value) : Kp (fun w => Reads w w.heap.size A n f) := ⟨fun _ _ h hb i hi => by
  obtain ⟨b, off, e, hlt, hc⟩ := h i hi
  exact ⟨b, off, e, Nat.lt_of_lt_of_le hlt hb.size, (hb.cell (p := ⟨b, off + i, none⟩) hlt).trans hc⟩⟩
instance (b off : Nat) (l : List (List UInt8)) : Kp (fun w => StrAt w w.heap.size b off l) := ⟨fun _ _ h hb => ⟨Nat.lt_of_lt_of_le h.1 hb.size, (h.below hb).2⟩⟩
instance (C D : World → Prop) [Kp C] [Kp D] : Kp (And2 C D) := ⟨fun _ _ h hb => ⟨Kp.keep _ _ h.1 hb, Kp.keep _ _ h.2 hb⟩⟩
instance (p : Prop) : Kp (fun _ => p) := ⟨fun _ _ h _ => h⟩
theorem Kp.call {C : World → Prop} [Kp C] {w : World} {f : FuncId} {args : Array Value} {v : Ending} (h : Hid (C w)) (c : Calls Tryd.prog f args w fun e w' => e = v ∧ Below w.heap.size w w') : Calls Tryd.prog f args w fun e w' => e = v ∧ Hid (C w') :=
  c.mono fun _ _ ⟨he, hb⟩ => ⟨he, Kp.keep _ _ h.out hb⟩
theorem Kp.still {C : World → Prop} {w : World} {f : FuncId} {args : Array Value} {v : Ending} (h : Hid (C w)) (c : Calls Tryd.prog f args w fun e w' => e = v ∧ w = w') : Calls Tryd.prog f args w fun e w' => e = v ∧ Hid (C w') :=
  c.mono fun _ _ ⟨he, hb⟩ => ⟨he, by rw [← hb]; exact h⟩
/-- a list that a call hands out joins -/
theorem Kp.list {C : World → Prop} [Kp C] {w : World} {f : FuncId} {args : Array Value} {e0 : TypeId} {xs : List Value} (h : Hid (C w)) (c : Calls Tryd.prog f args w fun e w' => ∃ v, e = .returned v ∧ Hid (Lst w w' e0 v xs)) : Calls Tryd.prog f args w fun e w' => ∃ v, e = .returned v ∧ Hid (And2 C (LstW w e0 v xs) w') :=
  c.mono fun _ _ ⟨v, he, hb⟩ => ⟨v, he, Kp.keep _ _ h.out hb.out.2, hb.out⟩
/-- a list and an error -/
theorem Kp.list2 {C : World → Prop} [Kp C] {w : World} {f : FuncId} {args : Array Value} {e0 : TypeId} {xs : List Value} {x : Value} (h : Hid (C w)) (c : Calls Tryd.prog f args w fun e w' => ∃ v, e = .returned (.tuple #[v, x]) ∧ Hid (Lst w w' e0 v xs)) : Calls Tryd.prog f args w fun e w' => ∃ v, e = .returned (.tuple #[v, x]) ∧ Hid (And2 C (LstW w e0 v xs) w') :=
  c.mono fun _ _ ⟨v, he, hb⟩ => ⟨v, he, Kp.keep _ _ h.out hb.out.2, hb.out⟩
/-- a list of a known place -/
theorem Kp.listAt {C : World → Prop} [Kp C] {w : World} {f : FuncId} {args : Array Value} {e0 : TypeId} {v : Value} {xs : List Value} (h : Hid (C w)) (c : Calls Tryd.prog f args w fun e w' => e = .returned v ∧ Hid (Lst w w' e0 v xs)) : Calls Tryd.prog f args w fun e w' => e = .returned v ∧ Hid (And2 C (LstW w e0 v xs) w') :=
  c.mono fun _ _ ⟨he, hb⟩ => ⟨he, Kp.keep _ _ h.out hb.out.2, hb.out⟩
theorem Kp.alloc {C : World → Prop} [Kp C] {w : World} (h : Hid (C w)) (o : Obj) : Hid (C (w.alloc o)) := Kp.keep _ _ h.out ((Below.refl _ _).alloc (Nat.le_refl _) o)
/-- the row whose front of n is another row -/
theorem Reads.front {w : World} {B : Nat} {A : Option Addr} {n m : Nat} {f g : Nat → Value} (h : Reads w B A n f) (hm : m ≤ n) (hfg : ∀ i, i < m → f i = g i) : Reads w B A m g := fun i hi => by
  obtain ⟨b, off, e, hlt, hc⟩ := h i (by omega)
  exact ⟨b, off, e, hlt, by rw [hc, hfg i hi]⟩
end Go.Proofs.YthhjmodkodkgpaaDoor
