/- merkle.grown, Grown; strongboxref19.proof, Grown. merkle.grown. -/
import Derived.Test.YthhjmodkodkgpaaDoorMCount
import Derived.Test.YthhjmodkodkgpaaDoorMPath2
import Derived.Test.YthhjmodkodkgpaaDoorMRootA
import Derived.Deep.RegionHeld3
import Derived.Deep.AppendLies
namespace Sbx
/-- the document's P -/
def mgrown (m : Nat) (l : List (List UInt8)) (w : Bool) : List (List UInt8) :=
  if h : m = l.length ∨ l.length ≤ 1 then (if w then [] else [mroot l])
  else if m ≤ hf l.length then mgrown m (l.take (hf l.length)) w ++ [mroot (l.drop (hf l.length))] else mgrown (m - hf l.length) (l.drop (hf l.length)) false ++ [mroot (l.take (hf l.length))]
termination_by l.length
decreasing_by
  · rw [List.length_take]; have := hf_lt l.length (by omega); omega
  · rw [List.length_drop]; have := hf_pos l.length; omega
theorem mgrown_end (m : Nat) (l : List (List UInt8)) (w : Bool) (h : m = l.length ∨ l.length ≤ 1) : mgrown m l w = if w then [] else [mroot l] := by rw [mgrown, dif_pos h]
theorem mgrown_le (m : Nat) (l : List (List UInt8)) (w : Bool) (h : ¬ (m = l.length ∨ l.length ≤ 1)) (hm : m ≤ hf l.length) : mgrown m l w = mgrown m (l.take (hf l.length)) w ++ [mroot (l.drop (hf l.length))] := by rw [mgrown, dif_neg h, if_pos hm]
theorem mgrown_gt (m : Nat) (l : List (List UInt8)) (w : Bool) (h : ¬ (m = l.length ∨ l.length ≤ 1)) (hm : ¬ m ≤ hf l.length) : mgrown m l w = mgrown (m - hf l.length) (l.drop (hf l.length)) false ++ [mroot (l.take (hf l.length))] := by rw [mgrown, dif_neg h, if_neg hm]
theorem mgrown_count : ∀ (N m : Nat) (l : List (List UInt8)) (w : Bool), l.length ≤ N → (mgrown m l w).length = mcount m l.length w
  | 0, m, l, w, h => by
    rw [mgrown_end m l w (by omega), mcount_end m _ w (by omega)]
    cases w <;> rfl
  | N + 1, m, l, w, h => by
    by_cases he : m = l.length ∨ l.length ≤ 1
    · rw [mgrown_end m l w he, mcount_end m _ w he]
      cases w <;> rfl
    · have a := hf_lt l.length (by omega)
      have b := hf_pos l.length
      by_cases hm : m ≤ hf l.length
      · have ih := mgrown_count N m (l.take (hf l.length)) w (by rw [List.length_take]; omega)
        rw [List.length_take, Nat.min_eq_left (by omega)] at ih
        rw [mgrown_le m l w he hm, mcount_le m _ w he hm, List.length_append, ih]
        rfl
      · have ih := mgrown_count N (m - hf l.length) (l.drop (hf l.length)) false (by rw [List.length_drop]; omega)
        rw [List.length_drop] at ih
        rw [mgrown_gt m l w he hm, mcount_gt m _ w he hm, List.length_append, ih]
        rfl
theorem mgrown_length (m : Nat) (l : List (List UInt8)) (w : Bool) : (mgrown m l w).length = mcount m l.length w := mgrown_count l.length m l w (Nat.le_refl _)
theorem mgrown_32 : ∀ (N m : Nat) (l : List (List UInt8)) (w : Bool), l.length ≤ N → ∀ s ∈ mgrown m l w, s.length = 32
  | 0, m, l, w, h => by
    rw [mgrown_end m l w (by omega)]
    cases w
    · intro s hs; simp at hs; rw [hs]; exact mroot_length _
    · simp
  | N + 1, m, l, w, h => by
    by_cases he : m = l.length ∨ l.length ≤ 1
    · rw [mgrown_end m l w he]
      cases w
      · intro s hs; simp at hs; rw [hs]; exact mroot_length _
      · simp
    · have a := hf_lt l.length (by omega)
      have b := hf_pos l.length
      by_cases hm : m ≤ hf l.length
      · have ih := mgrown_32 N m (l.take (hf l.length)) w (by rw [List.length_take]; omega)
        rw [mgrown_le m l w he hm]
        intro s hs
        rcases List.mem_append.1 hs with h2 | h2
        · exact ih s h2
        · rw [List.mem_singleton.1 h2]; exact mroot_length _
      · have ih := mgrown_32 N (m - hf l.length) (l.drop (hf l.length)) false (by rw [List.length_drop]; omega)
        rw [mgrown_gt m l w he hm]
        intro s hs
        rcases List.mem_append.1 hs with h2 | h2
        · exact ih s h2
        · rw [List.mem_singleton.1 h2]; exact mroot_length _
end Sbx
namespace Go.Proofs.YthhjmodkodkgpaaDoor
open Go.RowKit Sbx Go.Sort

theorem bool_wf (b : Bool) : b = true ∨ b = false := by cases b <;> simp

set_option maxRecDepth 100000 in
set_option maxHeartbeats 1000000 in
theorem proof_in : ∀ (N m : Nat) (l : List (List UInt8)) (bo : Bool) (b off cap : Nat) (w : World), l.length ≤ N → N ≤ 1000000000000 → 1 ≤ m → m ≤ l.length → l.length ≤ cap → cap ≤ maxLen → (∀ s ∈ l, s.length ≤ 140737488353000) → StrAt w w.heap.size b off l →
    Calls Tryd.prog 74 #[.int .i64 (m : Int), .slice (some ⟨b, off, none⟩) l.length cap, .bool bo] w fun e w' => ∃ v, e = .returned v ∧ Hid (Lst w w' 9 v (strs (mgrown m l bo))) := by
  intro N
  induction N with
  | zero => intro m l bo b off cap w hl _ h1 h2; omega
  | succ N ih =>
    intro m l bo b off cap w hl hN h1 hm hcap hmax hs hA
    by_cases he : m = l.length
    · have hq : ((m : Int) == (l.length : Int)) = true := by rw [beq_iff_eq]; omega
      rw [mgrown_end _ _ _ (.inl he)]
      cases bo
      · have c2 := rroot_in l.length l b off cap w (Nat.le_refl _) (by omega) hcap hmax hs hA
        obtain ⟨Y, eY⟩ : ∃ z, z = mroot l := ⟨_, rfl⟩
        rw [← eY] at c2
        simp only [Bool.false_eq_true, if_false]
        rw [← eY]
        have C := Lib.hid c2
        clear c2 eY ih hs hA he
        go_enter Tryd.func74, Tryd.ntmps74
        go_wp2_with (go_at_call 28; refine C.out.mono ?_; clear C; rintro e w1 ⟨rfl, hB⟩)
        go_ret
        exact ⟨_, rfl, (Lst.one w1 9 (.string ⟨Y.toArray⟩)).deeper hB⟩
      · have hn0 : Hid (Lst w w 9 (.slice none 0 0) (strs [])) := Lst.nil _ (Below.refl _ _)
        simp only [if_true]
        clear ih hs hA he
        go_enter Tryd.func74, Tryd.ntmps74
        go_wp2_with fail
        go_ret
        exact ⟨_, rfl, hn0⟩
    · have hq : ((m : Int) == (l.length : Int)) = false := by rw [beq_eq_false_iff_ne]; omega
      have hk1 := hf_lt l.length (by omega)
      have hk0 := hf_pos l.length
      have hle := mgrown_le m l bo (by omega)
      have hgt := mgrown_gt m l bo (by omega)
      have hlen := mgrown_length m l bo
      have hbd := mcount_bound l.length m l.length bo (Nat.le_refl _)
      have ch := fun W => below_any l.length W (by omega) (by omega)
      by_cases hmk : m ≤ hf l.length
      · rw [hle hmk] at hlen ⊢
        obtain ⟨k, ek⟩ : ∃ k, k = hf l.length := ⟨_, rfl⟩
        rw [← ek] at hk1 hk0 ch hmk hlen ⊢
        have lt : (l.take k).length = k := by rw [List.length_take]; omega
        have ld : (l.drop k).length = l.length - k := by rw [List.length_drop]
        have c1 := fun (W : World) (a : StrAt W W.heap.size b off (l.take k)) => ih m (l.take k) bo b off cap W (by omega) (by omega) h1 (by omega) (by omega) hmax (fun s h => hs s (List.mem_of_mem_take h)) a
        have c2 := fun (W : World) (a : StrAt W W.heap.size b (off + k) (l.drop k)) => rroot_in (l.drop k).length (l.drop k) b (off + k) (cap - k) W (Nat.le_refl _) (by omega) (by omega) (by omega) (fun s h => hs s (List.mem_of_mem_drop h)) a
        rw [lt] at c1
        rw [ld] at c2
        obtain ⟨X, eX⟩ : ∃ X, X = mgrown m (l.take k) bo := ⟨_, rfl⟩
        obtain ⟨Y, eY⟩ : ∃ z, z = mroot (l.drop k) := ⟨_, rfl⟩
        rw [← eX] at c1 hlen ⊢
        rw [← eY] at c2 hlen ⊢
        have hX : X.length ≤ 1000000000000 := by rw [List.length_append] at hlen; simp at hlen; omega
        have H := Lib.hid (And.intro c1 (And.intro c2 hX))
        have HG := Lib.hid (And.intro (hA.take k) (hA.drop k))
        have CH := Lib.hid ch
        have k0 : (0 : Int) ≤ (k : Int) := by omega
        have k1 : (k : Int) ≤ (l.length : Int) := by omega
        have k2 : (k : Int) ≤ (cap : Int) := by omega
        have k3 : (l.length : Int) ≤ (cap : Int) := by omega
        have hz : (m : Int) ≤ (k : Int) := by omega
        clear c1 c2 ih hs hA ch ek eX eY lt ld hle hgt hlen hX hbd he
        go_enter Tryd.func74, Tryd.ntmps74
        go_wp2_with (first
          | (go_at_call 58; refine (CH.out _).mono ?_; clear CH; rintro e w' ⟨rfl, rfl⟩)
          | (go_at_call 74; refine (H.out.1 _ HG.out.1).mono ?_; rintro e w1 ⟨v, rfl, HD⟩)
          | (go_at_call 28; refine (H.out.2.1 _ (HG.out.2.belowW HD.out.2)).mono ?_; rintro e w2 ⟨rfl, hB⟩
             replace HD := Lib.hid (HD.out.below hB)
             clear hB)
          | ((with_reducible refine gate_op (Op.call { callee := .builtin .append, args := #[.tmp 30, .tmp 35], argTypes := #[22, 22] }) rfl ?_)
             refine lst_append elem_str rfl (.tmp 30) (.tmp 35) rfl _ (strs X) _ rfl rfl rfl (by rw [strs_length]; exact H.out.2.2) HD.out ?_
             intro v' w' h1 _
             have HD' := Lib.hid h1
             clear h1))
        go_ret
        exact ⟨_, rfl, by rw [strs_app]; exact HD'⟩
      · rw [hgt hmk] at hlen ⊢
        obtain ⟨k, ek⟩ : ∃ k, k = hf l.length := ⟨_, rfl⟩
        rw [← ek] at hk1 hk0 ch hmk hlen ⊢
        have lt : (l.take k).length = k := by rw [List.length_take]; omega
        have ld : (l.drop k).length = l.length - k := by rw [List.length_drop]
        have c1 := fun (W : World) (a : StrAt W W.heap.size b (off + k) (l.drop k)) => ih (m - k) (l.drop k) false b (off + k) (cap - k) W (by omega) (by omega) (by omega) (by omega) (by omega) (by omega) (fun s h => hs s (List.mem_of_mem_drop h)) a
        have c2 := fun (W : World) (a : StrAt W W.heap.size b off (l.take k)) => rroot_in (l.take k).length (l.take k) b off cap W (Nat.le_refl _) (by omega) (by omega) hmax (fun s h => hs s (List.mem_of_mem_take h)) a
        rw [lt] at c2
        rw [ld, show ((m - k : Nat) : Int) = (m : Int) - k by omega] at c1
        obtain ⟨X, eX⟩ : ∃ X, X = mgrown (m - k) (l.drop k) false := ⟨_, rfl⟩
        obtain ⟨Y, eY⟩ : ∃ z, z = mroot (l.take k) := ⟨_, rfl⟩
        rw [← eX] at c1 hlen ⊢
        rw [← eY] at c2 hlen ⊢
        have hX : X.length ≤ 1000000000000 := by rw [List.length_append] at hlen; simp at hlen; omega
        have H := Lib.hid (And.intro c1 (And.intro c2 hX))
        have HG := Lib.hid (And.intro (hA.take k) (hA.drop k))
        have CH := Lib.hid ch
        have k0 : (0 : Int) ≤ (k : Int) := by omega
        have k1 : (k : Int) ≤ (l.length : Int) := by omega
        have k2 : (k : Int) ≤ (cap : Int) := by omega
        have k3 : (l.length : Int) ≤ (cap : Int) := by omega
        have hz : ¬ (m : Int) ≤ (k : Int) := by omega
        have m0 : (m : Int) ≤ 1000000000000 := by omega
        have hw2 : IntKind.i64.wrap ((m : Int) - k) = (m : Int) - k := by rw [IntKind.wrap_i64]; omega
        clear c1 c2 ih hs hA ch ek eX eY lt ld hle hgt hlen hX hbd he
        go_enter Tryd.func74, Tryd.ntmps74
        go_wp2_with (first
          | (go_at_call 58; refine (CH.out _).mono ?_; clear CH; rintro e w' ⟨rfl, rfl⟩)
          | (go_at_call 74; refine (H.out.1 _ HG.out.2).mono ?_; rintro e w1 ⟨v, rfl, HD⟩)
          | (go_at_call 28; refine (H.out.2.1 _ (HG.out.1.belowW HD.out.2)).mono ?_; rintro e w2 ⟨rfl, hB⟩
             replace HD := Lib.hid (HD.out.below hB)
             clear hB)
          | ((with_reducible refine gate_op (Op.call { callee := .builtin .append, args := #[.tmp 44, .tmp 49], argTypes := #[22, 22] }) rfl ?_)
             refine lst_append elem_str rfl (.tmp 44) (.tmp 49) rfl _ (strs X) _ rfl rfl rfl (by rw [strs_length]; exact H.out.2.2) HD.out ?_
             intro v' w' h1 _
             have HD' := Lib.hid h1
             clear h1))
        go_ret
        exact ⟨_, rfl, by rw [strs_app]; exact HD'⟩
end Go.Proofs.YthhjmodkodkgpaaDoor
namespace Go.Proofs.YthhjmodkodkgpaaDoor
open Go.RowKit Sbx Go.Sort

theorem step_lst_append {w0 w : World} {ops : Array Oper} {o : Oper} {a : Act} {K : Act → World → Prop} {Q : Exit → Act → World → Prop} {E : Prop} {T e : TypeId} (El : Elem1 T e) (hgd : o.guard = none) (s x : Operand)
    (ho : o.op = .call { callee := .builtin .append, args := #[s, x], argTypes := #[T, T] }) (v : Value) (xs : List Value) (u : Value) (hs : a.eval s = v) (hx : a.eval x = .slice (some ⟨w.heap.size, 0, none⟩) 1 1)
    (h1 : u.oneCell' = true) (hl : xs.length ≤ 1000000000000) (H : Lst w0 w e v xs)
    (h : ∀ g c w', Lst w0 w' e (.slice (some ⟨g, 0, none⟩) (xs.length + 1) c) (xs ++ [u]) → K (a.put o.dst (.slice (some ⟨g, 0, none⟩) (xs.length + 1) c)) w') : if Region.wanted o (yielded ops a.tmps) = true then Oper.wp Tryd.prog o a (w.alloc (.cells #[u] e)) K Q else E := by
  obtain ⟨i, z, e1, e2, e3, e4, e5, e6⟩ := El
  have hbl : (xs.length + 1) * i.bytes ≤ 140737488355328 := Nat.le_trans (Nat.mul_le_mul_left _ e6) (by omega)
  refine step_append_lies _ hgd s x T ho w0.heap.size e i z 1 i.bytes e1 e2 e3 e4 rfl e5 (by decide) v xs.length xs hs (H.1.alloc _) ⟨w.heap.size, 0, none⟩ 1 1 [u] hx rfl (cells_new rfl) (by simpa using h1) (by decide) (by unfold maxLen; omega) hbl (by have := H.2.size; simp; omega) _ rfl ?_
  intro g cap w' ho' hg' _ _
  refine h g cap w' ⟨by simpa using ho', ?_⟩
  exact (H.2.alloc H.2.size _).grown hg' (by have := H.2.size; simp; omega) (fun j hj => (H.1.lt j hj).1)

set_option maxRecDepth 100000 in
set_option maxHeartbeats 4000000 in
theorem grown_in : ∀ (N m : Nat) (l : List (List UInt8)) (bo : Bool) (b off cap : Nat) (w : World), l.length ≤ N → N ≤ 1000000000000 → 1 ≤ m → m ≤ l.length → l.length ≤ cap → cap ≤ maxLen → (∀ s ∈ l, s.length ≤ 1152921504606840000) → Glob w → StrAt w w.heap.size b off l →
    Calls Tryd.prog 73 #[.int .i64 (m : Int), .slice (some ⟨b, off, none⟩) l.length cap, .bool bo] w fun e w' => ∃ v, e = .returned v ∧ Hid (Lst w w' 9 v (strs (mgrown m l bo))) := by
  intro N
  induction N with
  | zero => intro m l bo b off cap w hl _ h1 h2; omega
  | succ N ih =>
    intro m l bo b off cap w hl hN h1 hm hcap hmax hs hG hA
    by_cases he : m = l.length
    · have hq : ((m : Int) == (l.length : Int)) = true := by rw [beq_iff_eq]; omega
      rw [mgrown_end _ _ _ (.inl he)]
      cases bo
      · have c2 := root_in l.length l b off cap w (Nat.le_refl _) (by omega) hcap hmax hs hG hA
        obtain ⟨Y, eY⟩ : ∃ z, z = mroot l := ⟨_, rfl⟩
        rw [← eY] at c2
        simp only [Bool.false_eq_true, if_false]
        rw [← eY]
        have C := Lib.hid c2
        clear c2 eY ih hs hA he hG
        go_enter Tryd.func73, Tryd.ntmps73
        go_wp2_with (go_at_call 21; refine C.out.mono ?_; clear C; rintro e w1 ⟨rfl, hB⟩)
        go_ret
        exact ⟨_, rfl, (Lst.one w1 9 (.string ⟨Y.toArray⟩)).deeper hB⟩
      · have hn0 : Hid (Lst w w 9 (.slice none 0 0) (strs [])) := Lst.nil _ (Below.refl _ _)
        simp only [if_true]
        clear ih hs hA he hG
        go_enter Tryd.func73, Tryd.ntmps73
        go_wp2_with fail
        go_ret
        exact ⟨_, rfl, hn0⟩
    · have hq : ((m : Int) == (l.length : Int)) = false := by rw [beq_eq_false_iff_ne]; omega
      have hk1 := hf_lt l.length (by omega)
      have hk0 := hf_pos l.length
      have hle := mgrown_le m l bo (by omega)
      have hgt := mgrown_gt m l bo (by omega)
      have hlen := mgrown_length m l bo
      have hbd := mcount_bound l.length m l.length bo (Nat.le_refl _)
      have ch := fun W => half_any l.length W (by omega) (by omega)
      have hBd : Below w.heap.size w w.drew := (Below.refl _ _).drew
      by_cases hmk : m ≤ hf l.length
      · rw [hle hmk] at hlen ⊢
        obtain ⟨k, ek⟩ : ∃ k, k = hf l.length := ⟨_, rfl⟩
        rw [← ek] at hk1 hk0 ch hmk hlen ⊢
        have lt : (l.take k).length = k := by rw [List.length_take]; omega
        have ld : (l.drop k).length = l.length - k := by rw [List.length_drop]
        have c1 := fun (W : World) (g : Glob W) (a : StrAt W W.heap.size b off (l.take k)) => ih m (l.take k) bo b off cap W (by omega) (by omega) h1 (by omega) (by omega) hmax (fun s h => hs s (List.mem_of_mem_take h)) g a
        have c2 := fun (W : World) (g : Glob W) (a : StrAt W W.heap.size b (off + k) (l.drop k)) => root_in (l.drop k).length (l.drop k) b (off + k) (cap - k) W (Nat.le_refl _) (by omega) (by omega) (by omega) (fun s h => hs s (List.mem_of_mem_drop h)) g a
        rw [lt] at c1
        rw [ld] at c2
        obtain ⟨X, eX⟩ : ∃ X, X = mgrown m (l.take k) bo := ⟨_, rfl⟩
        obtain ⟨Y, eY⟩ : ∃ z, z = mroot (l.drop k) := ⟨_, rfl⟩
        rw [← eX] at c1 hlen ⊢
        rw [← eY] at c2 hlen ⊢
        have hX : X.length ≤ 1000000000000 := by rw [List.length_append] at hlen; simp at hlen; omega
        have H := Lib.hid (And.intro c1 (And.intro c2 hX))
        have HG := Lib.hid (And.intro (hA.take k) (And.intro (hA.drop k) (And.intro hG hBd)))
        have CH := Lib.hid ch
        have k0 : (0 : Int) ≤ (k : Int) := by omega
        have k1 : (k : Int) ≤ (l.length : Int) := by omega
        have k2 : (k : Int) ≤ (cap : Int) := by omega
        have k3 : (l.length : Int) ≤ (cap : Int) := by omega
        have hck : ¬ cap = k := by omega
        have hz : (m : Int) ≤ (k : Int) := by omega
        clear c1 c2 ih hs hA ch ek eX eY lt ld hle hgt hlen hX hbd he hG hBd
        go_enter Tryd.func73, Tryd.ntmps73
        go_wp2_with (go_at_call 46; refine (CH.out _).mono ?_; clear CH; rintro e w' ⟨rfl, rfl⟩)
        go_region_held3 (fun w' => True) (trivial)
          (first
            | (refine step_lst_append elem_str (by rfl) (.tmp 28) (.tmp 33) (by rfl) _ (strs X) (.string ⟨Y.toArray⟩) (by rfl) (by rfl) rfl (by rw [strs_length]; exact H.out.2.2) HD2.out ?_
               intro g c w' h1
               have HD3 := Lib.hid h1
               clear h1)
            | (go_at_call 73; refine (H.out.1 _ (HG.out.2.2.1.below HG.out.2.2.2) (HG.out.1.belowW HG.out.2.2.2)).mono ?_; rintro e w1 ⟨v, rfl, hD⟩
               have HD := Lib.hid (hD.out.deeper HG.out.2.2.2)
               clear hD)
            | (go_at_call 21; refine (H.out.2.1 _ (HG.out.2.2.1.below HD.out.2) (HG.out.2.1.belowW HD.out.2)).mono ?_; rintro e w2 ⟨rfl, hB⟩
               have HD2 := Lib.hid (HD.out.below hB)
               clear hB))
        all_goals
          go_wp2
          go_ret
          exact ⟨_, rfl, by rw [strs_app]; exact HD3⟩
      · rw [hgt hmk] at hlen ⊢
        obtain ⟨k, ek⟩ : ∃ k, k = hf l.length := ⟨_, rfl⟩
        rw [← ek] at hk1 hk0 ch hmk hlen ⊢
        have lt : (l.take k).length = k := by rw [List.length_take]; omega
        have ld : (l.drop k).length = l.length - k := by rw [List.length_drop]
        have c1 := fun (W : World) (g : Glob W) (a : StrAt W W.heap.size b (off + k) (l.drop k)) => ih (m - k) (l.drop k) false b (off + k) (cap - k) W (by omega) (by omega) (by omega) (by omega) (by omega) (by omega) (fun s h => hs s (List.mem_of_mem_drop h)) g a
        have c2 := fun (W : World) (g : Glob W) (a : StrAt W W.heap.size b off (l.take k)) => root_in (l.take k).length (l.take k) b off cap W (Nat.le_refl _) (by omega) (by omega) hmax (fun s h => hs s (List.mem_of_mem_take h)) g a
        rw [lt] at c2
        rw [ld, show ((m - k : Nat) : Int) = (m : Int) - k by omega] at c1
        obtain ⟨X, eX⟩ : ∃ X, X = mgrown (m - k) (l.drop k) false := ⟨_, rfl⟩
        obtain ⟨Y, eY⟩ : ∃ z, z = mroot (l.take k) := ⟨_, rfl⟩
        rw [← eX] at c1 hlen ⊢
        rw [← eY] at c2 hlen ⊢
        have hX : X.length ≤ 1000000000000 := by rw [List.length_append] at hlen; simp at hlen; omega
        have H := Lib.hid (And.intro c1 (And.intro c2 hX))
        have HG := Lib.hid (And.intro (hA.drop k) (And.intro (hA.take k) (And.intro hG hBd)))
        have CH := Lib.hid ch
        have k0 : (0 : Int) ≤ (k : Int) := by omega
        have k1 : (k : Int) ≤ (l.length : Int) := by omega
        have k2 : (k : Int) ≤ (cap : Int) := by omega
        have k3 : (l.length : Int) ≤ (cap : Int) := by omega
        have hck : ¬ cap = k := by omega
        have hz : ¬ (m : Int) ≤ (k : Int) := by omega
        have m0 : (m : Int) ≤ 1000000000000 := by omega
        have hw2 : IntKind.i64.wrap ((m : Int) - k) = (m : Int) - k := by rw [IntKind.wrap_i64]; omega
        clear c1 c2 ih hs hA ch ek eX eY lt ld hle hgt hlen hX hbd he hG hBd
        go_enter Tryd.func73, Tryd.ntmps73
        go_wp2_with (go_at_call 46; refine (CH.out _).mono ?_; clear CH; rintro e w' ⟨rfl, rfl⟩)
        go_region_held3 (fun w' => True) (trivial)
          (first
            | (refine step_lst_append elem_str (by rfl) (.tmp 41) (.tmp 46) (by rfl) _ (strs X) (.string ⟨Y.toArray⟩) (by rfl) (by rfl) rfl (by rw [strs_length]; exact H.out.2.2) HD2.out ?_
               intro g c w' h1
               have HD3 := Lib.hid h1
               clear h1)
            | (go_at_call 73; refine (H.out.1 _ (HG.out.2.2.1.below HG.out.2.2.2) (HG.out.1.belowW HG.out.2.2.2)).mono ?_; rintro e w1 ⟨v, rfl, hD⟩
               have HD := Lib.hid (hD.out.deeper HG.out.2.2.2)
               clear hD)
            | (go_at_call 21; refine (H.out.2.1 _ (HG.out.2.2.1.below HD.out.2) (HG.out.2.1.belowW HD.out.2)).mono ?_; rintro e w2 ⟨rfl, hB⟩
               have HD2 := Lib.hid (HD.out.below hB)
               clear hB))
        all_goals
          go_wp2
          go_ret
          exact ⟨_, rfl, by rw [strs_app]; exact HD3⟩

def grownE (l : List (List UInt8)) (old : Int) : Int := if 0 ≤ old ∧ old ≤ l.length then 0 else 191
def grownL (l : List (List UInt8)) (old : Int) : List (List UInt8) := if 0 < old ∧ old ≤ l.length then mgrown old.toNat l true else []

set_option maxRecDepth 100000 in
theorem Grown_any (l : List (List UInt8)) (old : Int) (A : Option Addr) (cap : Nat) (w : World) (hl : l.length ≤ 1000000000000) (hcap : l.length ≤ cap) (hmax : cap ≤ maxLen) (hs : ∀ s ∈ l, s.length ≤ 1152921504606840000) (hG : Glob w) (hA : l ≠ [] → ∃ b off, A = some ⟨b, off, none⟩ ∧ StrAt w w.heap.size b off l) :
    Calls Tryd.prog 44 #[.slice A l.length cap, .int .i64 old] w fun e w' => ∃ v, e = .returned (.tuple #[v, .int .i64 (grownE l old)]) ∧ Hid (Lst w w' 9 v (strs (grownL l old))) := by
  by_cases h0 : 0 < old ∧ old ≤ l.length
  · rw [grownE, grownL, if_pos (by omega), if_pos h0]
    obtain ⟨O, rfl⟩ : ∃ O : Nat, old = O := ⟨old.toNat, by omega⟩
    obtain ⟨b, off, rfl, hAt⟩ := hA (by intro e; rw [e] at h0; simp at h0; omega)
    rw [Int.toNat_natCast]
    have C := Lib.hid (grown_in l.length O l true b off cap w (Nat.le_refl _) hl (by omega) (by omega) hcap hmax hs hG hAt)
    have c3 : ¬ (O : Int) < 0 := by omega
    have c4 : ¬ (l.length : Int) < O := by omega
    have c5 : ((O : Int) == 0) = false := by rw [beq_eq_false_iff_ne]; omega
    clear h0 hA hAt hs hG
    go_enter Tryd.func44, Tryd.ntmps44
    go_wp2_with (go_at_call 73; refine C.out.mono ?_; clear C; rintro e w1 ⟨v, rfl, HD⟩)
    go_ret2
    exact ⟨_, rfl, HD⟩
  · have hn0 : Hid (Lst w w 9 (.slice none 0 0) (strs [])) := Lst.nil _ (Below.refl _ _)
    rw [grownL, if_neg h0]
    clear hA hs hG
    by_cases h1 : old = 0
    · subst h1
      rw [grownE, if_pos (by omega)]
      go_enter Tryd.func44, Tryd.ntmps44
      go_wp2_with fail
      go_ret2
      exact ⟨_, rfl, hn0⟩
    · rw [grownE, if_neg (by omega)]
      by_cases h2 : old < 0
      · go_enter Tryd.func44, Tryd.ntmps44
        go_wp2_with fail
        go_ret2
        exact ⟨_, rfl, hn0⟩
      · have h3 : (l.length : Int) < old := by omega
        go_enter Tryd.func44, Tryd.ntmps44
        go_wp2_with fail
        go_ret2
        exact ⟨_, rfl, hn0⟩

set_option maxRecDepth 100000 in
theorem rGrown_any (l : List (List UInt8)) (old : Int) (A : Option Addr) (cap : Nat) (w : World) (hl : l.length ≤ 1000000000000) (hcap : l.length ≤ cap) (hmax : cap ≤ maxLen) (hs : ∀ s ∈ l, s.length ≤ 140737488353000) (hA : l ≠ [] → ∃ b off, A = some ⟨b, off, none⟩ ∧ StrAt w w.heap.size b off l) :
    Calls Tryd.prog 45 #[.slice A l.length cap, .int .i64 old] w fun e w' => ∃ v, e = .returned (.tuple #[v, .int .i64 (grownE l old)]) ∧ Hid (Lst w w' 9 v (strs (grownL l old))) := by
  by_cases h0 : 0 < old ∧ old ≤ l.length
  · rw [grownE, grownL, if_pos (by omega), if_pos h0]
    obtain ⟨O, rfl⟩ : ∃ O : Nat, old = O := ⟨old.toNat, by omega⟩
    obtain ⟨b, off, rfl, hAt⟩ := hA (by intro e; rw [e] at h0; simp at h0; omega)
    rw [Int.toNat_natCast]
    have C := Lib.hid (proof_in l.length O l true b off cap w (Nat.le_refl _) hl (by omega) (by omega) hcap hmax hs hAt)
    have c3 : ¬ (O : Int) < 0 := by omega
    have c4 : ¬ (l.length : Int) < O := by omega
    have c5 : ((O : Int) == 0) = false := by rw [beq_eq_false_iff_ne]; omega
    clear h0 hA hAt hs
    go_enter Tryd.func45, Tryd.ntmps45
    go_wp2_with (go_at_call 74; refine C.out.mono ?_; clear C; rintro e w1 ⟨v, rfl, HD⟩)
    go_ret2
    exact ⟨_, rfl, HD⟩
  · have hn0 : Hid (Lst w w 9 (.slice none 0 0) (strs [])) := Lst.nil _ (Below.refl _ _)
    rw [grownL, if_neg h0]
    clear hA hs
    by_cases h1 : old = 0
    · subst h1
      rw [grownE, if_pos (by omega)]
      go_enter Tryd.func45, Tryd.ntmps45
      go_wp2_with fail
      go_ret2
      exact ⟨_, rfl, hn0⟩
    · rw [grownE, if_neg (by omega)]
      by_cases h2 : old < 0
      · go_enter Tryd.func45, Tryd.ntmps45
        go_wp2_with fail
        go_ret2
        exact ⟨_, rfl, hn0⟩
      · have h3 : (l.length : Int) < old := by omega
        go_enter Tryd.func45, Tryd.ntmps45
        go_wp2_with fail
        go_ret2
        exact ⟨_, rfl, hn0⟩
end Go.Proofs.YthhjmodkodkgpaaDoor
