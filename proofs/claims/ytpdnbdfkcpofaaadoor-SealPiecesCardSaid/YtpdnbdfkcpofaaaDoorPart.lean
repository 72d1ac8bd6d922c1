/- seal.part. -/
import Derived.Test.YtpdnbdfkcpofaaaDoorPieces
import Derived.Lib.AppendStr
namespace Sbx
end Sbx
namespace Go.Proofs.YtpdnbdfkcpofaaaDoor
open Go.RowKit Go.Shelf Sbx
attribute [local go_sem] Oper.semAt_some

def flat (key : List UInt8) (l : List Nat) : List UInt8 := l.flatMap (piece key)
theorem flat_length (key : List UInt8) : ∀ l, (flat key l).length = 32 * l.length
  | [] => rfl
  | a :: l => by
    have := flat_length key l
    unfold flat at this ⊢
    rw [List.flatMap_cons, List.length_append, piece_length, this, List.length_cons]; omega
theorem flat_snoc (key : List UInt8) (l : List Nat) (x : Nat) : flat key (l ++ [x]) = flat key l ++ piece key x := by simp [flat]
/-- a stream's byte at a place -/
def byteAt (key : List UInt8) (i : Nat) : UInt8 := (piece key (i / 32)).getD (i % 32) 0
def stream (key : List UInt8) (i n : Nat) : List UInt8 := (List.range n).map fun j => byteAt key (i + j)
theorem stream_length (key : List UInt8) (i n : Nat) : (stream key i n).length = n := by simp [stream]
theorem flat_getD (key : List UInt8) (q : Nat) : ∀ k i, i < 32 * k → (flat key (List.range' q k)).getD i 0 = byteAt key (32 * q + i)
  | 0, i, h => by omega
  | k + 1, i, h => by
    rw [List.range'_1_concat, flat_snoc]
    by_cases hi : i < 32 * k
    · rw [← flat_getD key q k i hi, List.getD_eq_getElem?_getD, List.getElem?_append_left (by rw [flat_length, List.length_range']; exact hi), ← List.getD_eq_getElem?_getD]
    · rw [List.getD_eq_getElem?_getD, List.getElem?_append_right (by rw [flat_length, List.length_range']; omega), flat_length, List.length_range', ← List.getD_eq_getElem?_getD]
      unfold byteAt
      rw [show (32 * q + i) / 32 = q + k from by omega, show (32 * q + i) % 32 = i - 32 * k from by omega]

theorem wpListIn_append_str {F : Fence} {n' : Nat} {P : Program} {w : World} {ops : Array Oper} {rest : List Oper} {o : Oper} {a : Act} {Q : Exit → Act → World → Prop} (hgd : o.guard = none) (sl x : Operand) (t u : TypeId)
    (ho : o.op = .call { callee := .builtin .append, args := #[sl, x], argTypes := #[t, u] })
    (base : Nat) (e : TypeId) (i : TypeInfo) (ht : P.underlying t = some (.slice e)) (hu : P.underlying u = some .string) (hi : P.info? e = some i) (hz : i.zero = some (.int .u8 0))
    (hsize : i.size = 1) (hby : i.bytes = 1)
    (v : Value) (n : Nat) (xs : List Value) (hs : a.eval sl = v) (hown : w.ownsRow base e 1 v n xs) (s : ByteArray) (hx : a.eval x = .string s)
    (h63 : n + s.size ≤ maxLen) (hbytes : n + s.size ≤ 140737488355328) (hbase : base ≤ w.heap.size)
    (h : ∀ v' w', w'.ownsRow base e 1 v' (n + s.size) (xs ++ Lib.strCells s) → w.grownBy w' v.ownBlock → wpListIn F n' P ops Q rest (a.put o.dst v') w') : wpListIn F n' P ops Q (o :: rest) a w := by
  refine wpListIn_plain hgd fun K hK => ?_
  obtain ⟨v', w', hr, h2, h3, -⟩ := Lib.run_append_own_string (P := P) w base t u o.type e i ht hu hi hz hsize hby v n xs hown s h63 hbytes hbase
  unfold Oper.wpIn
  refine ⟨by simp [Oper.about, ho, resolve, Target.leads, Sem.run_pure], ?_⟩
  rw [Oper.semAt_plain F _ _ (by rw [ho]; intro c hc; cases hc)]
  simp [execOp, ho, resolve, invoke, builtin, hs, hx, hr, Result.andThen]
  exact hK _ _ (h v' w' h2 h3)

/-- what part holds between two rounds -/
def PInvP (key : List UInt8) (w : World) (n sk : Nat) (pre : List Nat) (W : World) : Prop :=
  (∃ v, Boxed W (w.heap.size + 2) 44 v ∧ W.ownsRow (w.heap.size + 5) 5 1 v (32 * pre.length) (b8s (flat key pre)) ∧ True) ∧
  Boxed W w.heap.size 3 (.int .i64 (n : Int)) ∧ Boxed W (w.heap.size + 1) 3 (.int .i64 (sk : Int)) ∧ Below w.heap.size w W ∧ w.heap.size + 5 ≤ W.heap.size
theorem PInvP.own (key : List UInt8) (w : World) (n sk B : Nat) (hB : w.heap.size + 5 ≤ B) : OwnFrom B (PInvP key w n sk) := fun pre X Y row ⟨hv, h1, h2, hb, hz⟩ hg hr =>
  ⟨holdsRow_own (w.heap.size + 5) (w.heap.size + 2) 44 5 1 (fun pre => 32 * pre.length) (fun pre => b8s (flat key pre)) (fun _ _ => True) pre X Y row hv hg (fun r e => (hr r e).2),
   boxed_own w.heap.size 3 (fun _ : List Nat => .int .i64 (n : Int)) pre X Y row h1 hg (fun r e => (hr r e).2),
   boxed_own (w.heap.size + 1) 3 (fun _ : List Nat => .int .i64 (sk : Int)) pre X Y row h2 hg (fun r e => (hr r e).2),
   hb.grown hg (by omega) (fun k e => by have := (hr k e).1; omega), Nat.le_trans hz hg.size⟩
theorem keptP_put {w : World} {s : Nat} (hs : s + 5 ≤ w.heap.size) (W : World) (l : Nat) (o o' : Obj) (hl : w.heap.size ≤ l) (_ : W.heap[l]? = some o) (_ : o.isCells = false) (_ : o.isWalk = false) : KeptP s W (W.putObj l o') :=
  fun _ _ => World.putObj_heap_other (by omega)
theorem str_size (l : List UInt8) : (⟨l.toArray⟩ : ByteArray).size = l.length := by simp [ByteArray.size]
theorem strCells_b8s (l : List UInt8) : Lib.strCells ⟨l.toArray⟩ = b8s l := by simp [Lib.strCells, b8s]

theorem row_cells {W : World} {base size k : Nat} {e : TypeId} {v : Value} {xs : List Value} (h : W.ownsRow base e size v k xs) : ∀ j, v.ownBlock = some j → base ≤ j ∧ ∀ o : Obj, W.heap[j]? = some o → o.isCells = true := by
  intro j ej
  rcases h.2 with ⟨rfl, _⟩ | ⟨g, cap, cur, rfl, hb, hgb, _⟩
  · simp [Value.ownBlock] at ej
  · obtain rfl : g = j := by simpa [Value.ownBlock] using ej
    exact ⟨hb, fun o ho => by rw [hgb] at ho; cases ho; rfl⟩
theorem part_round {key : List UInt8} {w W w1 : World} {n sk x : Nat} {pre : List Nat} {v v' : Value}
    (hv : Boxed W (w.heap.size + 2) 44 v) (hrow : W.ownsRow (w.heap.size + 5) 5 1 v (32 * pre.length) (b8s (flat key pre)))
    (bN : Boxed W w.heap.size 3 (.int .i64 (n : Int))) (bS : Boxed W (w.heap.size + 1) 3 (.int .i64 (sk : Int))) (hB : Below w.heap.size w W) (hz : w.heap.size + 5 ≤ W.heap.size)
    (hgrow : W.grownBy w1 v.ownBlock) (hown' : w1.ownsRow (w.heap.size + 5) 5 1 v' (32 * pre.length + 32) (b8s (flat key pre) ++ Lib.strCells ⟨(piece key x).toArray⟩)) :
    KeepsOthers W (w1.setCell ⟨w.heap.size + 2, 0, none⟩ v') ∧ KeptP w.heap.size W (w1.setCell ⟨w.heap.size + 2, 0, none⟩ v') ∧ PInvP key w n sk (pre ++ [x]) (w1.setCell ⟨w.heap.size + 2, 0, none⟩ v') := by
  have hc := row_cells hrow
  have hv1 := hv.kept hgrow (hv.not_row (by decide) hrow)
  have bN1 := bN.kept hgrow (bN.not_row (by decide) hrow)
  have bS1 := bS.kept hgrow (bS.not_row (by decide) hrow)
  have hbel : Below (w.heap.size + 5) W w1 := (Below.refl _ W).grown hgrow hz (fun k e => (hc k e).1)
  have hown2 := hown'.kept (grownBy_setCell' w1 (w.heap.size + 2) v') (.inr (hv1.not_row (by decide) hown').symm)
  refine ⟨(KeepsOthers.of_grownBy hgrow fun j o ej hj => (hc j ej).2 o hj).trans (KeepsOthers.setCell _ _ _),
    (KeptP.of_below hbel (Nat.le_refl _)).trans (fun k hk => Below.heap_setCell _ _ _ k (by show k ≠ w.heap.size + 2; omega)),
    ⟨v', hv1.set v', ?_, trivial⟩, bN1.other (by omega) _, bS1.other (by omega) _, hB.trans ((hbel.mono (by omega)).setCell (p := ⟨w.heap.size + 2, 0, none⟩) (by show _ ≤ w.heap.size + 2; omega) _),
    Nat.le_trans hz (Nat.le_trans hgrow.size (KeepsWalks.setCell w1 _ _).size)⟩
  rw [flat_snoc, List.length_append, List.length_singleton, Nat.mul_add, Nat.mul_one]
  rw [strCells_b8s] at hown2
  unfold b8s at hown2 ⊢
  rw [List.map_append]
  exact hown2

set_option maxRecDepth 100000 in
set_option maxHeartbeats 2000000 in
theorem part_in (key : List UInt8) (i n : Nat) (w : World) (hkey : key.length ≤ 1152921504606840000) (hi : i ≤ 65536) (hn : n ≤ 65536) (hn1 : 1 ≤ n) (hG : Glob w) :
    CallsIn Fence.wide 6 Tryd.prog 33 #[.string ⟨key.toArray⟩, .int .i64 (i : Int), .int .i64 (n : Int)] w fun e w' =>
      ∃ g cur, e = .returned (.slice (some ⟨g, i % 32, none⟩) n n) ∧ w.heap.size ≤ g ∧ Below w.heap.size w w' ∧ w'.heap[g]? = some (.cells cur 5 (0, 0)) ∧ (∀ j, j < n → cur[i % 32 + j]? = some (.int .u8 ((byteAt key (i + j)).toNat : Int))) := by
  have n0 : ((n : Int) == 0) = false := beq_eq_false_iff_ne.2 (by omega)
  have q0 : (0 : Int) ≤ (i : Int) := by omega
  have hs : 0 < w.heap.size ∧ 1 < w.heap.size := ⟨block_lt_of_cell (hG.first 0 (by omega)), block_lt_of_cell (hG.cubes 0 (by omega))⟩
  obtain ⟨sk, esk⟩ : ∃ sk, sk = i % 32 := ⟨_, rfl⟩
  obtain ⟨q, eq⟩ : ∃ q, q = i / 32 := ⟨_, rfl⟩
  have E1 := Lib.hid (show (i : Int) % 32 = (sk : Int) by omega)
  have E2 := Lib.hid (show (i : Int) / 32 = (q : Int) by omega)
  have ESK := Lib.hid esk
  have EQ := Lib.hid eq
  have hsk : sk < 32 := by omega
  have hq : q ≤ 65536 := by omega
  have HS := Lib.hid hs
  clear esk eq hs
  refine callsIn_of_wp_marks Tryd.func33 rfl trivial ?_ rfl
  simp only [Tryd.ntmps33, List.size_toArray, List.length_cons, List.length_nil, Nat.reduceAdd, Nat.reduceSub, Array.replicate_succ, Array.replicate_zero, List.push_toArray, List.append_toArray, List.nil_append, List.cons_append]
  gi_wp2_with (refine ⟨trivial, ?_⟩; gi_at_call 49; refine (callsIn_wide.2 (pieces_any key _ _)).mono ?_; rintro e w' ⟨rfl, rfl⟩)
  rw [E1.out, E2.out]
  simp only [Nat.add_assoc, Nat.reduceAdd]
  obtain ⟨W1, e1⟩ : ∃ W1, W1 = w.alloc (.cells #[.int .i64 (n : Int)] 3) := ⟨_, rfl⟩
  obtain ⟨W2, e2⟩ : ∃ W2, W2 = W1.alloc (.cells #[.int .i64 (sk : Int)] 3) := ⟨_, rfl⟩
  obtain ⟨W3, e3⟩ : ∃ W3, W3 = W2.alloc (.cells #[.slice none 0 0] 44) := ⟨_, rfl⟩
  obtain ⟨W4, e4⟩ : ∃ W4, W4 = W3.alloc (.cells #[.string ⟨key.toArray⟩] 9) := ⟨_, rfl⟩
  obtain ⟨W5, e5⟩ : ∃ W5, W5 = W4.alloc (.cells #[.int .i64 (q : Int)] 3) := ⟨_, rfl⟩
  rw [← e1, ← e2, ← e3, ← e4, ← e5]
  have z1 : W1.heap.size = w.heap.size + 1 := by rw [e1]; simp
  have z2 : W2.heap.size = w.heap.size + 2 := by rw [e2]; simp; omega
  have z3 : W3.heap.size = w.heap.size + 3 := by rw [e3]; simp; omega
  have z4 : W4.heap.size = w.heap.size + 4 := by rw [e4]; simp; omega
  have z5 : W5.heap.size = w.heap.size + 5 := by rw [e5]; simp; omega
  have b1 : Boxed W1 w.heap.size 3 (.int .i64 (n : Int)) := by rw [e1]; exact Boxed.new w _ _
  have b2 : Boxed W2 (w.heap.size + 1) 3 (.int .i64 (sk : Int)) := by rw [← z1, e2]; exact Boxed.new W1 _ _
  have b3 : Boxed W3 (w.heap.size + 2) 44 (.slice none 0 0) := by rw [← z2, e3]; exact Boxed.new W2 _ _
  have b4 : Boxed W4 (w.heap.size + 3) 9 (.string ⟨key.toArray⟩) := by rw [← z3, e4]; exact Boxed.new W3 _ _
  have b5 : Boxed W5 (w.heap.size + 4) 3 (.int .i64 (q : Int)) := by rw [← z4, e5]; exact Boxed.new W4 _ _
  have k1 : Boxed W5 w.heap.size 3 (.int .i64 (n : Int)) := by rw [e5, e4, e3, e2]; exact (((b1.alloc _).alloc _).alloc _).alloc _
  have k2 : Boxed W5 (w.heap.size + 1) 3 (.int .i64 (sk : Int)) := by rw [e5, e4, e3]; exact ((b2.alloc _).alloc _).alloc _
  have k3 : Boxed W5 (w.heap.size + 2) 44 (.slice none 0 0) := by rw [e5, e4]; exact (b3.alloc _).alloc _
  have k4 : Boxed W5 (w.heap.size + 3) 9 (.string ⟨key.toArray⟩) := by rw [e5]; exact b4.alloc _
  have hB5 : Below w.heap.size w W5 := by
    rw [e5, e4, e3, e2, e1]
    exact ((((((Below.refl _ w).alloc (Nat.le_refl _) _).alloc (by simp) _).alloc (by simp; omega) _).alloc (by simp; omega) _).alloc (by simp; omega) _)
  have hG5 : Glob W5 := hG.below hB5
  clear e1 e2 e3 e4 e5 z1 z2 z3 z4 b1 b2 b3 b4
  obtain ⟨i0, hi0, hz0, hz1, hz2⟩ := info_parts info_u8
  refine range_stopped (F := Fence.wide) (n := 6) rfl (by omega) (gf := 58) (lb := #[.pointer (some ⟨w.heap.size + 4, 0, none⟩), .pointer (some ⟨w.heap.size + 3, 0, none⟩)]) rfl trivial (enters_of Tryd.func58 (by kernel_rfl) rfl)
    (pieces_seq key q w.heap.size (sk + n) 5 W5 hkey (by omega) HS.out hG5 b5.cell k4.cell (by omega)) KeptP.trans (keptP_put (by omega)) (Below.refl _ _) rfl
    (fun pre W => PInvP key w n sk pre W ∧ 32 * pre.length < sk + n)
    (fun c pre W => c = .exit 0 ∧ PInvP key w n sk pre W ∧ sk + n ≤ 32 * pre.length)
    (OwnFrom.and (PInvP.own key w n sk _ (by omega)) (ownFrom_pure _ _))
    (fun c => OwnFrom.and (ownFrom_pure _ _) (OwnFrom.and (PInvP.own key w n sk _ (by omega)) (ownFrom_pure _ _)))
    (fun pre W h => by have := h.2; omega)
    ⟨⟨⟨_, k3, World.ownsRow_nil _ _ _ _, trivial⟩, k1, k2, hB5, by omega⟩, by simp; omega⟩
    (fun x => { tmps := #[.string ⟨key.toArray⟩, .int .i64 (i : Int), .int .i64 (n : Int), undef, undef, .pointer (some ⟨w.heap.size, 0, none⟩), .slice none 0 0, .pointer (some ⟨w.heap.size + 1, 0, none⟩), .pointer (some ⟨w.heap.size + 2, 0, none⟩), .string ⟨(piece key x).toArray⟩, .int .i64 (i : Int), .int .i64 (sk : Int), .int .i64 (n : Int), .bool false, undef, .string ⟨key.toArray⟩, .int .i64 (i : Int), .int .i64 (q : Int),
      .func (.func 58) #[] #[.pointer (some ⟨w.heap.size + 4, 0, none⟩), .pointer (some ⟨w.heap.size + 3, 0, none⟩)], .string ⟨(piece key x).toArray⟩, undef, undef, undef, undef, undef, undef, undef, undef, undef, undef, undef, undef, undef, undef, undef, undef, undef, undef], defers := [] }) ?assign ?body ?stop
  case assign =>
    intro l x W K hK
    gi_wp2
    exact hK
  case body =>
    rintro l pre x W ⟨⟨⟨v, hv, hrow, -⟩, bN, bS, hB, hz⟩, hlt⟩
    have cv := hv.cell
    have cN := bN.cell
    have cS := bS.cell
    have hpl : 32 * pre.length < 65600 := by omega
    gi_wp2_with (gi_at_builtin; refine wpListIn_append_str rfl _ _ 44 9 rfl (w.heap.size + 5) 5 i0 Tryd.underlying44 Tryd.underlying9 hi0 hz0 hz1 hz2 v (32 * pre.length) (b8s (flat key pre)) rfl hrow ⟨(piece key x).toArray⟩ rfl (by rw [str_size, piece_length]; unfold maxLen; omega) (by rw [str_size, piece_length]; omega) hz ?_; intro v' w1 hown' hgrow; rw [str_size, piece_length] at hown'; obtain ⟨g', cap', rfl⟩ := ownsRow_succ (k := 32 * pre.length + 31) hown'; have hv1 := hv.kept hgrow (hv.not_row (by decide) hrow); have bN1 := bN.kept hgrow (bN.not_row (by decide) hrow); have bS1 := bS.kept hgrow (bS.not_row (by decide) hrow); have hc1 := hv1.cell; have hf1 := hv1.frozen; have cN1 := bN1.cell; have cS1 := bS1.cell)
    · have hle : (sk : Int) + (n : Int) ≤ 32 * (pre.length : Int) + 31 + 1 := by assumption
      obtain ⟨r1, r2, r3⟩ := part_round (x := x) hv hrow bN bS hB hz hgrow hown'
      exact ⟨r1, rfl, r3, by simp; omega⟩
    · have hgt : 32 * (pre.length : Int) + 31 + 1 < (sk : Int) + (n : Int) := by assumption
      obtain ⟨r1, r2, r3⟩ := part_round (x := x) hv hrow bN bS hB hz hgrow hown'
      exact ⟨r1, r2, r3, by simp; omega⟩
  case stop =>
    rintro D c pre W hD ⟨k, rfl⟩ ⟨rfl, ⟨⟨v, hv, hrow, -⟩, bN, bS, hB, hz⟩, hle⟩ hK
    rw [List.length_range'] at hle
    have hr2 := hrow.2
    rw [List.length_range'] at hrow hr2
    rcases hr2 with ⟨rfl, h0⟩ | ⟨g, cap, cur, rfl, hbg, hg, hnc, hcm, hcs, htake⟩
    · omega
    have cv := hv.cell
    have cN := bN.cell
    have cS := bS.cell
    have i1 : (0 : Int) ≤ (sk : Int) := by omega
    have i2 : (sk : Int) + (n : Int) ≤ (cap : Int) := by omega
    have i3 : (sk : Int) ≤ (sk : Int) + (n : Int) := by omega
    have HG := Lib.hid hg
    have HT := Lib.hid htake
    have HC := Lib.hid hcs
    clear hg htake hcs hrow
    gi_wp2
    have hg := HG.out
    refine ⟨by simp, .inl ⟨_, _, rfl, run_takeDeferred hK, ?_⟩⟩
    refine ⟨_, results_tmp rfl _ _ _, g, cur, by rw [← ESK.out, Nat.add_sub_cancel_left]; rfl, by omega, hB.trans (belowK_b (w := w) (Nat.le_refl _) W D _ _ (by omega) hK rfl rfl), (World.putObj_heap_other (fun e => by rw [e, hK] at hg; cases hg)).trans hg, fun j hj => ?_⟩
    have hi1 : i % 32 + j < 32 * k := by have := ESK.out; omega
    have e3 : 32 * q + (i % 32 + j) = i + j := by have := EQ.out; omega
    have h3 : (cur.toList.take (32 * k * 1))[i % 32 + j]? = cur[i % 32 + j]? := by rw [List.getElem?_take_of_lt (by omega), Array.getElem?_toList]
    rw [← h3, HT.out, b8s_get _ _ (by rw [flat_length, List.length_range']; exact hi1), flat_getD _ _ _ _ hi1, e3]

theorem part_any (key : List UInt8) (i n : Nat) (w : World) (hkey : key.length ≤ 1152921504606840000) (hi : i ≤ 65536) (hn : n ≤ 65536) (hn1 : 1 ≤ n) (hG : Glob w) :
    Calls Tryd.prog 33 #[.string ⟨key.toArray⟩, .int .i64 (i : Int), .int .i64 (n : Int)] w fun e w' =>
      ∃ g cur, e = .returned (.slice (some ⟨g, i % 32, none⟩) n n) ∧ w.heap.size ≤ g ∧ Below w.heap.size w w' ∧ w'.heap[g]? = some (.cells cur 5 (0, 0)) ∧ (∀ j, j < n → cur[i % 32 + j]? = some (.int .u8 ((byteAt key (i + j)).toNat : Int))) :=
  callsIn_wide.1 (part_in key i n w hkey hi hn hn1 hG)

theorem part_zero (key : List UInt8) (i : Int) (w : World) (hi : 0 ≤ i) :
    Calls Tryd.prog 33 #[.string ⟨key.toArray⟩, .int .i64 i, .int .i64 0] w fun e w' => e = .returned (.slice none 0 0) ∧ Below w.heap.size w w' := by
  go_enter Tryd.func33, Tryd.ntmps33
  go_wp2_with fail
  go_ret
  exact ⟨rfl, (((Below.refl _ w).alloc (Nat.le_refl _) _).alloc (by simp) _).alloc (by simp; omega) _⟩
end Go.Proofs.YtpdnbdfkcpofaaaDoor
