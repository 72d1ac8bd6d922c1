/- hash.Hasher.Write: the next part is taken. -/
import Derived.Test.YthhjmodkodkgpaaDoorWThrough
import Derived.Lib.BufferWrite
import Derived.Lib.SlBuf
namespace Go.Proofs.YthhjmodkodkgpaaDoor
open Go.RowKit Sbx

/-- block g is a Hasher that has taken t -/
structure HAt (w : World) (g : Nat) (t : List UInt8) : Prop where
  far : 0 < g ∧ 1 < g
  holds : ∃ (s : St) (rest : List UInt8) (n : Nat), StOk s ∧ HInv s rest n t ∧ w.heap[g]? = some (.cells (hcells (stl s) rest n) 98 (0, 0))
theorem HAt.same {w w' : World} {g : Nat} {t : List UInt8} (h : HAt w g t) (e : w'.heap[g]? = w.heap[g]?) : HAt w' g t :=
  ⟨h.far, let ⟨s, r, n, a, b, c⟩ := h.holds; ⟨s, r, n, a, b, e.trans c⟩⟩
theorem HAt.lt {w : World} {g : Nat} {t : List UInt8} (h : HAt w g t) : g < w.heap.size := let ⟨_, _, _, _, _, c⟩ := h.holds; block_of_cells c
theorem HAt.below {w w' : World} {g B : Nat} {t : List UInt8} (h : HAt w g t) (hb : Below B w w') (hg : g < B) : HAt w' g t := h.same (hb.block g hg)
theorem Glob.only {w w' : World} {g : Nat} (h : Glob w) (hf : 0 < g ∧ 1 < g) (ho : w.grownBy w' (some g)) : Glob w' := by
  obtain ⟨h0, h1⟩ := hf
  refine ⟨fun i hi => ?_, fun i hi => ?_⟩
  · have := h.cubes i hi
    have hb := block_lt_of_cell this
    exact (World.cell?_of_block (w := w) (ho.block _ hb (fun e => by have e' := Option.some.inj e; dsimp only at e'; omega))).trans this
  · have := h.first i hi
    have hb := block_lt_of_cell this
    exact (World.cell?_of_block (w := w) (ho.block _ hb (fun e => by have e' := Option.some.inj e; dsimp only at e'; omega))).trans this

theorem run_copy_str {P : Program} (w : World) (dT sT ty elem : TypeId) (g o dLen dCap n : Nat) (b : List UInt8) (cur : Array Value) (t : TypeId)
    (hu : P.underlying dT = some (.slice elem)) (hs : (P.info? elem).map (·.size) = some 1) (hg : w.heap[g]? = some (.cells cur t (0, 0))) (hn : Nat.min b.length dLen = n) (hfit : o + n ≤ cur.size) :
    (Builtin.copy_ #[dT, sT] ty #[.slice (some ⟨g, o, none⟩) dLen dCap, .string ⟨b.toArray⟩]).run P w =
      .ok (goInt n) (w.setRow g (cur.toList.take o ++ b8s (b.take n) ++ cur.toList.drop (o + n)).toArray) := by
  have hle : n ≤ b.length := by rw [← hn]; exact Nat.min_le_left _ _
  have hlen : (b8s (b.take n)).length = n := by rw [b8s_length, List.length_take]; omega
  have hone : ∀ v ∈ b8s (b.take n), v.oneCell' = true := by
    intro v hv
    simp only [b8s, List.mem_map] at hv
    obtain ⟨b, _, rfl⟩ := hv
    rfl
  have hst := run_storeCells_at P g o t (b8s (b.take n)) 0 cur w hg (by rw [hlen]; simpa using hfit) hone
  have htk : List.take n (List.map (fun b : UInt8 => Value.int IntKind.u8 (b.toNat : Int)) b) = b8s (b.take n) := by
    rw [b8s, List.map_take]
  rw [hlen] at hst
  simp only [Nat.add_zero] at hst
  have hsz : (⟨b.toArray⟩ : ByteArray).size = b.length := by simp [ByteArray.size]
  cases hq : P.info? elem with
  | none => simp [hq] at hs
  | some i =>
    simp [Builtin.copy_, run_underlying hu, Builtin.lenOf, Builtin.firstCells, sizeOf, typeInfo, hq, hsz, hn]
    rw [htk, hst]
    simp [Result.andThen]
theorem hc_list (s : List Nat) (rest : List UInt8) (n : Int) : (hcells s rest n).toList = i32s s ++ (b8s rest ++ [Value.int .i64 n]) := by simp [hcells]
theorem hc_refill (s : List Nat) (rest q : List UInt8) (n : Int) (at_ : Nat) (hs : s.length = 8) (h : at_ + q.length ≤ rest.length) :
    ((hcells s rest n).toList.take (8 + at_) ++ b8s q ++ (hcells s rest n).toList.drop (8 + at_ + q.length)).toArray = hcells s (refill rest at_ q) n := by
  unfold hcells refill
  congr 1
  have h8 : (i32s s).length = 8 := by rw [i32s_length, hs]
  simp only []
  rw [List.take_append, List.take_of_length_le (by omega), h8, Nat.add_sub_cancel_left, List.take_append_of_le_length (by rw [b8s_length]; omega)]
  rw [List.drop_append, List.drop_of_length_le (by omega), h8, show 8 + at_ + q.length - 8 = at_ + q.length from by omega, List.drop_append_of_le_length (by rw [b8s_length]; omega)]
  simp [b8s, List.map_append, List.append_assoc]
theorem hc_setn (s : List Nat) (rest : List UInt8) (n m : Int) (hs : s.length = 8) (hr : rest.length = 64) : (hcells s rest n).setIfInBounds 72 (.int .i64 m) = hcells s rest m := by
  unfold hcells
  rw [List.setIfInBounds_toArray, List.set_append_right _ _ (by rw [i32s_length]; omega), List.set_append_right _ _ (by rw [i32s_length, b8s_length]; omega), i32s_length, b8s_length, hs, hr]
  rfl
theorem only_setRow {a : World} {g : Nat} (cs : Array Value) : a.grownBy (a.setRow g cs) (some g) :=
  ⟨rfl, rfl, rfl, by simp, fun i _ hne => setRow_other a g i cs (fun e => hne (by rw [e]))⟩
/-- 'n := copy(h.rest[at:], s)' -/
theorem wpList_copy_hasher {P : Program} {w : World} {ops : Array Oper} {rest : List Oper} {o : Oper} {a : Act} {Q : Exit → Act → World → Prop} (hgd : o.guard = none) (d s : Operand) (t t' e T : TypeId)
    (ho : o.op = .call { callee := .builtin .copy, args := #[d, s], argTypes := #[t, t'] }) (hu : P.underlying t = some (.slice e)) (hsz : (P.info? e).map (·.size) = some 1)
    (g at_ dCap n : Nat) (st : List Nat) (r b : List UInt8) (z : Int) (hd : a.eval d = .slice (some ⟨g, 8 + at_, none⟩) (64 - at_) dCap) (hs : a.eval s = .string ⟨b.toArray⟩)
    (hst : st.length = 8) (hr : r.length = 64) (hat : at_ ≤ 64) (hn : Nat.min b.length (64 - at_) = n)
    (hg : w.heap[g]? = some (.cells (hcells st r z) T (0, 0)))
    (h : ∀ W1, W1.heap[g]? = some (.cells (hcells st (refill r at_ (b.take n)) z) T (0, 0)) → w.grownBy W1 (some g) → wpList P ops Q rest (a.put o.dst (.int .i64 n)) W1) : wpList P ops Q (o :: rest) a w := by
  have hn1 : n ≤ b.length := by rw [← hn]; exact Nat.min_le_left _ _
  have hn2 : n ≤ 64 - at_ := by rw [← hn]; exact Nat.min_le_right _ _
  have hl : (b.take n).length = n := by rw [List.length_take]; omega
  have hrun := run_copy_str (P := P) w t t' o.type e g (8 + at_) (64 - at_) dCap n b _ T hu hsz hg hn (by rw [hc_size _ _ _ hst hr]; omega)
  refine Lib.wpList_copy_run w hgd d s t t' ho _ _ hd hs hrun ?_
  have hcc := hc_refill st r (b.take n) z at_ hst (by rw [hl]; omega)
  rw [hl] at hcc
  rw [hcc]
  exact h _ (setRow_heap w g _ _ T _ hg) (only_setRow _)

theorem eight_info : (Tryd.prog.info? 5).map (·.size) = some 1 := by kernel_rfl
set_option maxRecDepth 100000 in
set_option maxHeartbeats 2000000 in
theorem write_any (g : Nat) (t s : List UInt8) (w : World) (hG : Glob w) (hA : HAt w g t) (hsz : t.length + s.length ≤ 9223372036854775807) :
    Calls Tryd.prog 60 #[.pointer (some ⟨g, 0, none⟩), .string ⟨s.toArray⟩] w fun e w' =>
      e = .returned (.tuple #[]) ∧ HAt w' g (t ++ s) ∧ w.grownBy w' (some g) := by
  have HG := Lib.hid hG
  have HA := Lib.hid hA
  clear hG hA
  have s0 : Hid (s = [] ++ s) ∧ Hid (HAt w g (t ++ [])) ∧ Hid (w.grownBy w (some g)) := ⟨rfl, by rw [List.append_nil]; exact HA.out, only_refl _ _⟩
  go_enter Tryd.func60, Tryd.ntmps60
  go_wp2_with fail
  go_loopw [1, 4, 5] (fun v1 v4 v5 wr => ∃ a b : List UInt8, (Hid (s = a ++ b) ∧ Hid (HAt wr g (t ++ a)) ∧ Hid (w.grownBy wr (some g))) ∧ v1 = .string ⟨b.toArray⟩)
    (fun v1 _ _ _ => match v1 with | .string b => b.size | _ => 0)
  case atStart => exact ⟨[], s, s0, rfl⟩
  case round =>
    clear s0
    obtain ⟨a, b, ⟨hs, hH, hO⟩, rfl⟩ := hrel
    obtain ⟨st, rest, n, hok, hinv, hcells⟩ := hH.out.holds
    obtain ⟨L, hL⟩ : ∃ L, L = (t ++ a).length := ⟨_, rfl⟩
    have hn : n = L := by rw [hL]; exact hinv.size
    subst hn
    have hlen : n + b.length ≤ 9223372036854775807 := by
      have := congrArg List.length hs.out
      simp only [List.length_append] at this hL
      omega
    have HL := Lib.hid hL
    have hr := hinv.len
    have HI := Lib.hid hinv
    have HC := Lib.hid hcells
    have HR := Lib.hid hr
    clear hL hinv hr
    have c72 : wr.cell? ⟨g, 72, none⟩ = some (.int .i64 (n : Int)) := by rw [cell_of_row wr _ _ _ _ _ hcells]; exact hc_len _ _ _ rfl HR.out
    clear hcells
    cases b with
    | nil =>
      go_wp2_with fail
      go_end0
      have e := hs.out
      rw [List.append_nil] at e
      rw [e]
      exact ⟨rfl, hH.out, hO.out⟩
    | cons c b =>
      obtain ⟨q, hq⟩ : ∃ q : Nat, q = n % 64 := ⟨_, rfl⟩
      have hqi : (n : Int) % 64 = (q : Int) := by omega
      have hq64 : q < 64 := by omega
      obtain ⟨m, hm⟩ : ∃ m, m = Nat.min (c :: b).length (64 - q) := ⟨_, rfl⟩
      have hm1 : m ≤ 64 - q := by rw [hm]; exact Nat.min_le_right _ _
      have hm2 : m ≤ (c :: b).length := by rw [hm]; exact Nat.min_le_left _ _
      have hm3 : 1 ≤ m := by rw [hm]; have h1 : 1 ≤ (c :: b).length := by simp
                             exact Nat.le_min.2 ⟨h1, by omega⟩
      have hsl := fun W => run_sliceAt_arr (P := Tryd.prog) Tryd.underlying96 eight_info g 8 q .i64 hq64 W
      have HQ := Lib.hid hq
      have HM := Lib.hid hm
      have HN := Lib.hid hlen
      have hw1 : (n : Int) + (m : Int) ≤ 9223372036854775807 := by omega
      have hw2 : m ≤ (⟨(c :: b).toArray⟩ : ByteArray).size := by simpa [ByteArray.size] using hm2
      clear hq hm hlen
      by_cases hfull : (n + m) % 64 = 0
      · have hf : (((n : Int) + (m : Int)) % 64 == 0) = true := beq_iff_eq.2 (by omega)
        have HF := Lib.hid hfull
        clear hfull
        go_wp2_with ((with_reducible refine gate_op (Op.call { callee := .builtin .copy, args := #[.tmp 19, .tmp 20], argTypes := #[74, 9] }) rfl ?_); refine wpList_copy_hasher rfl (.tmp 19) (.tmp 20) 74 9 5 98 rfl Tryd.underlying74 eight_info g q (64 - q) m (stl st) rest (c :: b) n rfl rfl rfl HR.out (by omega) HM.out.symm HC.out ?_; intro W1 hW1 hO1; have c72' : W1.cell? ⟨g, 72, none⟩ = some (.int .i64 (n : Int)) := (by rw [cell_of_row W1 _ _ _ _ _ hW1]; exact hc_len _ _ _ rfl (by rw [refill_length (by rw [List.length_take, HR.out]; omega)]; exact HR.out)); have f72 : W1.frozen? ⟨g, 72, none⟩ = false := frozen_of_row W1 _ _ _ _ hW1; have HW1 := Lib.hid hW1; clear hW1)
        have hq2 := HQ.out
        have hrl : (refill rest q ((c :: b).take m)).length = 64 := by rw [refill_length (by rw [List.length_take, HR.out]; omega)]; exact HR.out
        have h2 : (W1.setCell ⟨g, 72, none⟩ (.int .i64 ((n : Int) + (m : Int)))).heap[g]? = some (.cells (hcells (stl st) (refill rest q ((c :: b).take m)) ((n + m : Nat) : Int)) 98 (0, 0)) := by
          rw [heap_setCell_same _ _ _ _ _ _ HW1.out, hc_setn _ _ _ _ rfl hrl]; rfl
        have ho2 := only_setCell (only_trans hO.out hO1) (p := ⟨g, 72, none⟩) (.inl rfl) (.int .i64 ((n : Int) + (m : Int)))
        have hG2 := HG.out.only HA.out.far ho2
        have hlt : ((c :: b).take m).length = m := by rw [List.length_take]; omega
        have hsplit : s = (a ++ (c :: b).take m) ++ (c :: b).drop m := by rw [List.append_assoc, List.take_append_drop]; exact hs.out
        have hext := str_drop (c :: b) m
        rw [show (c :: b).length = b.length + 1 from rfl] at hext
        have H2 := Lib.hid (And.intro h2 (And.intro ho2 hG2))
        have H3 := Lib.hid (And.intro hrl (And.intro hlt (And.intro hsplit (And.intro hext hq2))))
        clear h2 ho2 hG2 hrl hlt hsplit hext hq2 c72' f72 hsl hf
        generalize W1.setCell ⟨g, 72, none⟩ (.int .i64 ((n : Int) + (m : Int))) = W2 at *
        go_still_tail 6, (by kernel_rfl)
        change wpList _ _ _ _ _ W2.drew
        go_wp2_with (go_at_call 79; refine (through_any g st (refill rest q ((c :: b).take m)) ((n + m : Nat) : Int) _ hok H3.out.1 (H2.out.2.2.below (Below.refl _ _).drew) H2.out.1).mono ?_; rintro e w3 ⟨rfl, hh3, ho3⟩)
        go_roundw
        case rel =>
          obtain ⟨hrl, hlt, hsplit, hext, hq2⟩ := H3.out
          have hI := HI.out
          have hl := HL.out
          refine ⟨a ++ (c :: b).take m, (c :: b).drop m, ⟨hsplit, ⟨HA.out.far, ?_⟩, only_trans (only_drew H2.out.2.1) ho3⟩, by rw [hext]⟩
          have hmod : (t ++ a).length % 64 = q := by rw [← hl, hq2]
          have hf := HI.out.step_full (s := (c :: b).take m) (by rw [hlt, hmod, hq2]; have := HF.out; omega)
          rw [hmod, hlt] at hf
          rw [← List.append_assoc]
          exact ⟨_, _, _, compress_ok _ _, hf, hh3⟩
        case measure =>
          have hm4 := HM.out
          simp [H3.out.2.2.2.1, ByteArray.size]
          omega
      · have hf : (((n : Int) + (m : Int)) % 64 == 0) = false := beq_eq_false_iff_ne.2 (by omega)
        have HF := Lib.hid hfull
        clear hfull
        go_wp2_with ((with_reducible refine gate_op (Op.call { callee := .builtin .copy, args := #[.tmp 19, .tmp 20], argTypes := #[74, 9] }) rfl ?_); refine wpList_copy_hasher rfl (.tmp 19) (.tmp 20) 74 9 5 98 rfl Tryd.underlying74 eight_info g q (64 - q) m (stl st) rest (c :: b) n rfl rfl rfl HR.out (by omega) HM.out.symm HC.out ?_; intro W1 hW1 hO1; have c72' : W1.cell? ⟨g, 72, none⟩ = some (.int .i64 (n : Int)) := (by rw [cell_of_row W1 _ _ _ _ _ hW1]; exact hc_len _ _ _ rfl (by rw [refill_length (by rw [List.length_take, HR.out]; omega)]; exact HR.out)); have f72 : W1.frozen? ⟨g, 72, none⟩ = false := frozen_of_row W1 _ _ _ _ hW1; have HW1 := Lib.hid hW1; clear hW1)
        have hq2 := HQ.out
        have hrl : (refill rest q ((c :: b).take m)).length = 64 := by rw [refill_length (by rw [List.length_take, HR.out]; omega)]; exact HR.out
        have h2 : (W1.setCell ⟨g, 72, none⟩ (.int .i64 ((n : Int) + (m : Int)))).heap[g]? = some (.cells (hcells (stl st) (refill rest q ((c :: b).take m)) ((n + m : Nat) : Int)) 98 (0, 0)) := by
          rw [heap_setCell_same _ _ _ _ _ _ HW1.out, hc_setn _ _ _ _ rfl hrl]; rfl
        have ho2 := only_setCell (only_trans hO.out hO1) (p := ⟨g, 72, none⟩) (.inl rfl) (.int .i64 ((n : Int) + (m : Int)))
        have hG2 := HG.out.only HA.out.far ho2
        have hlt : ((c :: b).take m).length = m := by rw [List.length_take]; omega
        have hsplit : s = (a ++ (c :: b).take m) ++ (c :: b).drop m := by rw [List.append_assoc, List.take_append_drop]; exact hs.out
        have hext := str_drop (c :: b) m
        rw [show (c :: b).length = b.length + 1 from rfl] at hext
        have H2 := Lib.hid (And.intro h2 (And.intro ho2 hG2))
        have H3 := Lib.hid (And.intro hrl (And.intro hlt (And.intro hsplit (And.intro hext hq2))))
        clear h2 ho2 hG2 hrl hlt hsplit hext hq2 c72' f72 hsl hf
        go_roundw
        case rel =>
          obtain ⟨hrl, hlt, hsplit, hext, hq2⟩ := H3.out
          have hl := HL.out
          refine ⟨a ++ (c :: b).take m, (c :: b).drop m, ⟨hsplit, ⟨HA.out.far, ?_⟩, H2.out.2.1⟩, by rw [hext]⟩
          have hmod : (t ++ a).length % 64 = q := by rw [← hl, hq2]
          have hf := HI.out.step_part (s := (c :: b).take m) (by rw [hlt, hmod, hq2]; have := HF.out; omega)
          rw [hmod, hlt] at hf
          rw [← List.append_assoc]
          exact ⟨_, _, _, hok, hf, H2.out.1⟩
        case measure =>
          have hm4 := HM.out
          simp [H3.out.2.2.2.1, ByteArray.size]
          omega
end Go.Proofs.YthhjmodkodkgpaaDoor
