/- More lemmas on memory: bytes to strings. -/
import Derived.Test.YthhjmodkodkgpaaDoorMem
import Derived.Laws.BytesString
namespace Go.Proofs.YthhjmodkodkgpaaDoor
open Go.RowKit
theorem foldl_push (l : List UInt8) : ∀ s : ByteArray, (l.map (fun b : UInt8 => (b.toNat : Int))).foldl (fun r n => r.push (UInt8.ofNat n.toNat)) s = ⟨(s.data.toList ++ l).toArray⟩ := by
  induction l with
  | nil => intro s; obtain ⟨d⟩ := s; simp
  | cons b l ih =>
    intro s
    simp only [List.map_cons, List.foldl_cons]
    rw [ih]
    obtain ⟨d⟩ := s
    simp [ByteArray.push]
theorem run_convert_b8 {P : Program} {src dst e : TypeId} (hs : P.underlying src = some (.slice e)) (he : P.underlying e = some (.int .u8)) (hd : P.underlying dst = some .string)
    (a : Addr) (l : List UInt8) (cap : Nat) (w : World) (hc : ∀ j, j < l.length → w.cell? (a.add j) = some (.int .u8 ((l.getD j 0).toNat : Int))) :
    (convert src dst (.slice (some a) l.length cap)).run P w = .ok (.string ⟨l.toArray⟩) w := by
  rw [run_convert_bytes_string w src dst e (some a) l.length cap hs he hd]
  have hl : (loadCells a l.length).run P w = .ok ((l.map (fun b : UInt8 => (b.toNat : Int))).map (Value.int .u8)).toArray w := by
    have := run_loadCells_list (P := P) w a ((l.map (fun b : UInt8 => (b.toNat : Int))).map (Value.int .u8)) (fun j v hv => by
      simp only [List.getElem?_map, Option.map_eq_some_iff] at hv
      obtain ⟨n, ⟨b, hb, rfl⟩, rfl⟩ := hv
      have hj : j < l.length := (List.getElem?_eq_some_iff.1 hb).1
      rw [hc j hj, List.getD_eq_getElem?_getD, hb]
      rfl)
    simpa using this
  rw [run_bytesToString w a l.length cap _ hl, foldl_push]
  rfl
theorem run_convert_nil {P : Program} {src dst e : TypeId} (hs : P.underlying src = some (.slice e)) (he : P.underlying e = some (.int .u8)) (hd : P.underlying dst = some .string)
    (cap : Nat) (w : World) : (convert src dst (.slice none 0 cap)).run P w = .ok (.string ⟨#[]⟩) w := by
  rw [run_convert_bytes_string w src dst e none 0 cap hs he hd]
  simp [Conv.bytesToString]
  rfl
theorem cells_grown {w w' : World} {g : Nat} {row : Option Nat} {cs : Array Value} (h : ∀ j v, cs[j]? = some v → w.cell? ((⟨g, 0, none⟩ : Addr).add j) = some v) (hg : w.grownBy w' row) (hlt : g < w.heap.size) (hne : some g ≠ row) :
    ∀ j v, cs[j]? = some v → w'.cell? ((⟨g, 0, none⟩ : Addr).add j) = some v := by
  intro j v hv
  have := h j v hv
  rw [addr_add] at this ⊢
  exact (World.cell?_of_block (w := w) (hg.block g hlt hne)).trans this
def b8v (l : List UInt8) : List Value := l.map (fun b : UInt8 => Value.int .u8 b.toNat)
theorem run_convert_own {P : Program} {src dst e : TypeId} (hs : P.underlying src = some (.slice e)) (he : P.underlying e = some (.int .u8)) (hd : P.underlying dst = some .string)
    (base : Nat) (v : Value) (l : List UInt8) (w : World) (h : w.ownsRow base e 1 v l.length (b8v l)) : (convert src dst v).run P w = .ok (.string ⟨l.toArray⟩) w := by
  have h' := h
  rcases h.2 with ⟨rfl, h0⟩ | ⟨g, cap, cur, rfl, _, _, _, _, _, _⟩
  · have hl : l = [] := List.eq_nil_of_length_eq_zero h0
    subst hl
    exact run_convert_nil hs he hd 0 w
  · refine run_convert_b8 hs he hd ⟨g, 0, none⟩ l cap w (fun j hj => ?_)
    refine h'.cells (g := g) rfl j _ ?_
    unfold b8v
    rw [List.getElem?_map, List.getElem?_eq_getElem hj, List.getD_eq_getElem?_getD, List.getElem?_eq_getElem hj]
    rfl
theorem b8v_one (l : List UInt8) : ∀ u ∈ b8v l, u.oneCell' = true := by
  intro v hv
  simp only [b8v, List.mem_map] at hv
  obtain ⟨b, _, rfl⟩ := hv
  rfl
theorem cells_new {w : World} {arr : Array Value} {t : TypeId} {fr : Nat × Nat} {l : List Value} (h : arr = l.toArray) : ∀ j u, l[j]? = some u → (w.alloc (.cells arr t fr)).cell? ((⟨w.heap.size, 0, none⟩ : Addr).add j) = some u := by
  intro j u hu
  rw [addr_add, Nat.zero_add, cell_of_row _ _ _ _ _ _ (heap_alloc_new w _), h, List.getElem?_toArray, hu]
end Go.Proofs.YthhjmodkodkgpaaDoor
