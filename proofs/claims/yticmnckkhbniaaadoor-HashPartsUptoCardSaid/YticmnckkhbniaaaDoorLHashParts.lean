/- strongboxlaw1.HashParts: the walk. -/
import Derived.Test.YticmnckkhbniaaaDoorKnown1
import Derived.Test.YticmnckkhbniaaaDoorPick1
import Derived.Test.YticmnckkhbniaaaDoorMem3
import Derived.Test.YticmnckkhbniaaaDoorPartArgs
import Derived.Test.YticmnckkhbniaaaDoorPInv
import Derived.Lib.QuietBelow
import Derived.StillTailTactics
namespace Go.Proofs.YticmnckkhbniaaaDoor
open Go.RowKit Sbx Go.Sort

theorem info_ptr : (Tryd.prog.info? 31).map (fun i => (i.zero, i.size, i.bytes)) = some (some (.pointer none), 1, 8) := by kernel_rfl
theorem info_str : (Tryd.prog.info? 9).map (fun i => (i.zero, i.size, i.bytes)) = some (some (.string ⟨#[]⟩), 1, 16) := by kernel_rfl
theorem one_new (w : World) (v : Value) (e : TypeId) (B : Nat) (hB : B ≤ w.heap.size) : (w.alloc (.cells #[v] e)).ownsRow B e 1 (.slice (some ⟨w.heap.size, 0, none⟩) 1 1) 1 [v] :=
  ⟨rfl, .inr ⟨w.heap.size, 1, #[v], rfl, hB, heap_alloc_new w _, Nat.le_refl _, by unfold maxLen; omega, rfl, rfl⟩⟩
theorem sum_take_le (ps : List PartD) (i : Nat) : PBulk (ps.take i) ≤ PBulk ps := by
  unfold PBulk
  conv => rhs; rw [← List.take_append_drop i ps, List.map_append, List.sum_append]
  omega
theorem sum_take_succ (ps : List PartD) (i : Nat) (h : i < ps.length) : PBulk (ps.take (i + 1)) = PBulk (ps.take i) + (ps[i].s.length + 1) := by
  unfold PBulk
  rw [List.take_succ_eq_append_getElem h, List.map_append, List.sum_append]
  simp

set_option maxRecDepth 100000 in
set_option maxHeartbeats 4000000 in
theorem hashparts_any (A : Option Addr) (cap : Nat) (ps : List PartD) (w : World) (hG : Glob w) (hz : ps.length ≤ 1048576) (hr : PReads w w.heap.size A ps) (hwf : PWf ps) (hbk : PBulk ps ≤ 1048576) :
    Calls Tryd.prog 7 #[.slice A ps.length cap] w fun e w' => e = .returned (.bool true) ∧ Below w.heap.size w w' := by
  have HG := Lib.hid hG
  have HR := Lib.hid hr
  have HW := Lib.hid hwf
  have HK := Lib.hid hbk
  have hzi : (ps.length : Int) ≤ 1048576 := by omega
  clear hG hr hwf hbk
  go_enter Tryd.func7, Tryd.ntmps7
  go_wp2_with fail
  refine (known_any _ HG.out).mono ?_
  rintro e1 w1 ⟨rfl, hB⟩
  have hG1 := Lib.hid (HG.out.below hB)
  have HB1 := Lib.hid hB
  clear hB
  go_wp2_with fail
  refine (new_any w1 hG1.out).mono ?_
  rintro e w2 ⟨rfl, hw2⟩
  have hA2 : HAt w2 w1.heap.size [] := by rw [hw2]; exact new_holds w1 hG1.out
  have hB2 : Below w1.heap.size w1 w2 := by rw [hw2]; exact (Below.refl _ _).alloc (Nat.le_refl _) _
  have hgl := hA2.lt
  have H2 := Lib.hid (And.intro hA2 (And.intro (HB1.out.trans (hB2.mono HB1.out.size)) (And.intro HB1.out.size hgl)))
  clear hw2 hA2 hB2 HB1 hG1 hgl
  obtain ⟨g, eg⟩ : ∃ g, g = w1.heap.size := ⟨_, rfl⟩
  rw [← eg] at H2 ⊢
  clear eg
  clear w1
  go_wp2_with fail
  have hB3 : Below w2.heap.size w2 ((w2.alloc (.cells #[.pointer (some ⟨g, 0, none⟩)] 31)).alloc (.cells #[.string ⟨#[]⟩] 9)) := ((Below.refl _ _).alloc (Nat.le_refl _) _).alloc (by simp) _
  have hBB := H2.out.2.1.trans (hB3.mono H2.out.2.1.size)
  have hP0 : PInv w.heap.size (.slice (some ⟨w2.heap.size, 0, none⟩) 1 1) (.slice (some ⟨w2.heap.size + 1, 0, none⟩) 1 1) ((w2.alloc (.cells #[.pointer (some ⟨g, 0, none⟩)] 31)).alloc (.cells #[.string ⟨#[]⟩] 9)) [[]] [g] := by
    refine ⟨(one_new w2 _ _ _ H2.out.2.1.size).alloc _, ?_, rfl, by simp, ?_, ?_⟩
    · have h1 := one_new (w2.alloc (.cells #[.pointer (some ⟨g, 0, none⟩)] 31)) (.string ⟨#[]⟩) 9 w.heap.size (by have := H2.out.2.1.size; simp; omega)
      rw [show (w2.alloc (.cells #[.pointer (some ⟨g, 0, none⟩)] 31)).heap.size = w2.heap.size + 1 from by simp] at h1
      exact h1
    · intro x hx
      simp only [List.mem_singleton] at hx
      subst hx
      exact H2.out.2.2.1
    · intro j hj
      obtain rfl : j = 0 := by simpa using hj
      exact H2.out.1.below hB3 H2.out.2.2.2
  have H3 := Lib.hid (And.intro hP0 hBB)
  clear hP0 hBB hB3
  generalize (w2.alloc (.cells #[.pointer (some ⟨g, 0, none⟩)] 31)).alloc (.cells #[.string ⟨#[]⟩] 9) = w3 at *
  clear H2
  go_loopw [5, 6, 7] (fun v5 v6 v7 wr => ∃ (i : Nat) (T : List (List UInt8)) (G : List Nat), i ≤ ps.length ∧ v7 = .int .i64 i ∧ 0 < T.length ∧ T.length ≤ 40 ∧ Hid (PInv w.heap.size v5 v6 wr T G) ∧ Hid (∀ t ∈ T, t.length ≤ PBulk (ps.take i)) ∧ Hid (Below w.heap.size w wr))
    (fun _ _ v7 _ => ps.length - (intOf v7).toNat)
  case atStart => exact ⟨0, [[]], [g], by omega, rfl, by simp, by simp, H3.out.1, by intro t ht; simp at ht; subst ht; simp, H3.out.2⟩
  case round =>
    clear H3
    obtain ⟨i, T, G, hi, hv7, hT0, hT40, hP, hL, hB⟩ := hrel
    subst hv7
    obtain ⟨g5, c5, rfl⟩ := row_form hP.out.o5 hT0
    obtain ⟨g6, c6, rfl⟩ := row_form hP.out.o6 hT0
    by_cases hlt : i < ps.length
    · obtain ⟨b, off, rfl, hb, q1, q2, q3⟩ := (HR.out.below hB.out) i hlt
      obtain ⟨P, eP⟩ : ∃ P, P = ps[i] := ⟨_, rfl⟩
      rw [← eP] at q1 q2 q3
      have hw := HW.out P (by rw [eP]; exact List.getElem_mem hlt)
      obtain ⟨a0, a1⟩ := wf_i64 hw.1
      obtain ⟨b0, b1⟩ := wf_i64 hw.2
      have hp1 := fun W => pick_any P.which (T.length : Int) W (by omega) a0 a1
      obtain ⟨n, hn⟩ : ∃ n : Nat, pickI P.which (T.length : Int) = n := ⟨(pickI P.which (T.length : Int)).toNat, by have := pickI_nonneg P.which (T.length : Int) (by omega); omega⟩
      have hnT : n < T.length := by have := pickI_lt P.which (T.length : Int) (by omega); omega
      rw [hn] at hp1
      have hp2 := fun W => pick_any P.what 3 W (by omega) b0 b1
      obtain ⟨k, hk⟩ : ∃ k : Nat, pickI P.what 3 = k := ⟨(pickI P.what 3).toNat, by have := pickI_nonneg P.what 3 (by omega); omega⟩
      have hk3 : k < 3 := by have := pickI_lt P.what 3 (by omega); omega
      rw [hk] at hp2
      have HP := Lib.hid (And.intro hp1 hp2)
      have hnG : n < G.length := by rw [hP.out.len]; exact hnT
      obtain ⟨gn, egn⟩ : ∃ gn, gn = G[n] := ⟨_, rfl⟩
      obtain ⟨tn, etn⟩ : ∃ tn, tn = T.getD n [] := ⟨_, rfl⟩
      have r1 : wr.cell? ⟨g5, n, none⟩ = some (.pointer (some ⟨gn, 0, none⟩)) := by
        rw [hP.out.o5.cellAt n (by omega), ptrs, List.getElem?_map, List.getElem?_eq_getElem hnG, egn]; rfl
      have r2 : wr.cell? ⟨g6, n, none⟩ = some (.string ⟨tn.toArray⟩) := by
        rw [hP.out.o6.cellAt n (by omega), strs, List.getElem?_map, List.getElem?_eq_getElem hnT, etn, List.getD_eq_getElem?_getD, List.getElem?_eq_getElem hnT]; rfl
      have HN := Lib.hid (And.intro egn (And.intro etn (And.intro eP hnG)))
      have n0 : 0 ≤ (n : Int) := by omega
      have n1 : (n : Int) < (T.length : Int) := by omega
      have i0 : 0 ≤ (i : Int) := by omega
      have i1 : (i : Int) < (ps.length : Int) := by omega
      clear hw a0 a1 b0 b1 hp1 hn hp2 hk egn etn eP
      go_wp2_with fail
      refine (HP.out.1 _).mono ?_
      rintro e w4 ⟨rfl, rfl⟩
      go_wp2_with fail
      refine (HP.out.2 _).mono ?_
      rintro e w4 ⟨rfl, rfl⟩
      match k, hk3 with
      | 0, _ =>
        have hAn : HAt wr gn tn := by rw [HN.out.1, HN.out.2.1]; exact hP.out.hold n HN.out.2.2.2
        have hgl := hAn.lt
        have htl : tn.length ≤ 1048576 := by
          have h1 := hL.out tn (by rw [HN.out.2.1, List.getD_eq_getElem?_getD, List.getElem?_eq_getElem hnT]; exact List.getElem_mem hnT)
          have h2 := sum_take_le ps i
          have := HK.out
          omega
        have hGr : Glob wr := HG.out.below hB.out
        have HF := Lib.hid (And.intro hAn (And.intro hGr htl))
        have hsl : P.s.length ≤ 1048576 := by
          have h1 := sum_take_succ ps i hlt
          have h2 := sum_take_le ps (i + 1)
          have := HK.out
          rw [HN.out.2.2.1]
          omega
        have HSL := Lib.hid hsl
        have HNT := Lib.hid (And.intro hnT hnG)
        clear hAn hGr htl hgl hsl
        go_wp2_with fail
        go_still_tail 9, (by kernel_rfl)
        change wpList _ _ _ _ _ wr.drew
        go_wp2_with (go_at_call 23; refine (write_any gn tn P.s wr.drew (HF.out.2.1.below (Below.refl _ _).drew) (HF.out.1.same rfl) (by have := HF.out.2.2; have := HSL.out; omega)).mono ?_; rintro e w5 ⟨rfl, hA5, hO5⟩)
        have hO : wr.grownBy w5 (some gn) := only_trans (only_drew (only_refl wr _)) hO5
        have hbn : b ≠ gn := by have := hP.out.big gn (by rw [HN.out.1]; exact List.getElem_mem _); omega
        have hgb : w.heap.size ≤ gn := hP.out.big gn (by rw [HN.out.1]; exact List.getElem_mem _)
        have h6 : w5.ownsRow w.heap.size 9 1 (.slice (some ⟨g6, 0, none⟩) T.length c6) T.length (strs T) := hP.out.o6.kept hO (.inr (HF.out.1.ne_own hP.out.o6 (by decide)))
        have s2 : w5.cell? ⟨g6, n, none⟩ = some (.string ⟨tn.toArray⟩) := by
          rw [h6.cellAt n (by have := HNT.out.1; omega), strs, List.getElem?_map, List.getElem?_eq_getElem HNT.out.1, HN.out.2.1, List.getD_eq_getElem?_getD, List.getElem?_eq_getElem HNT.out.1]; rfl
        have s3 : w5.cell? ⟨b, off + i * 3 + 2, none⟩ = some (.string ⟨P.s.toArray⟩) :=
          (World.cell?_of_block (w := wr) (hO.block b (Nat.lt_of_lt_of_le hb hB.out.size) (fun e => hbn (Option.some.inj e)))).trans q3
        have f2 : w5.frozen? ⟨g6, n, none⟩ = false := h6.frozenAt n
        have le1 : ¬ 9223372036854775807 < tn.length + P.s.length := by have := HF.out.2.2; have := HSL.out; omega
        have hB5 : Below w.heap.size w w5 := hB.out.trans (below_of_only hO hB.out.size hgb)
        have hP5 := hP.out.taken n HNT.out.2 P.s (by rw [← HN.out.1]; exact hO) (by rw [← HN.out.1, ← HN.out.2.1]; exact hA5)
        rw [← HN.out.2.1] at hP5
        have HP5 := Lib.hid (And.intro hP5 (And.intro hB5 (h6.lt g6 rfl).1))
        have hq := str_app tn P.s
        clear hA5 hO5 hO hbn hgb h6 hB5 hP5
        go_wp2_with fail
        go_still_tail 13, (by kernel_rfl)
        change wpList _ _ _ _ _ w5.drew
        go_wp2
        go_roundw
        case rel =>
          refine ⟨i + 1, T.set n (tn ++ P.s), G, by omega, by go_num, by rw [List.length_set]; exact hT0, by rw [List.length_set]; exact hT40, HP5.out.1.drew, ?_, (HP5.out.2.1.setCell (p := ⟨g6, n, none⟩) HP5.out.2.2 _).drew⟩
          intro t ht
          have h1 := sum_take_succ ps i hlt
          rcases List.mem_or_eq_of_mem_set ht with h2 | h2
          · have := hL.out t h2; omega
          · have h3 := hL.out tn (by rw [HN.out.2.1, List.getD_eq_getElem?_getD, List.getElem?_eq_getElem HNT.out.1]; exact List.getElem_mem HNT.out.1)
            rw [h2, List.length_append, HN.out.2.2.1]
            omega
        case measure => simp [intOf]; omega
      | 1, _ =>
        have hAn : HAt wr gn tn := by rw [HN.out.1, HN.out.2.1]; exact hP.out.hold n HN.out.2.2.2
        have hgl := hAn.lt
        have htl : tn.length ≤ 1048576 := by
          have h1 := hL.out tn (by rw [HN.out.2.1, List.getD_eq_getElem?_getD, List.getElem?_eq_getElem hnT]; exact List.getElem_mem hnT)
          have h2 := sum_take_le ps i
          have := HK.out
          omega
        have hGr : Glob wr := HG.out.below hB.out
        obtain ⟨u, eu⟩ : ∃ u, u = sha tn := ⟨_, rfl⟩
        have k1 := cell_regrown r1
        have k2 := cell_regrown r2
        have cl : ∀ d os, Calls Tryd.prog 24 #[.pointer (some ⟨gn, 0, none⟩)] (grow (redrawn wr d) os) fun e w'' => e = .returned (.int .i64 (tn.length : Int)) ∧ ∃ p : Regrown, w'' = grow (redrawn wr p.d) p.os := fun d os => by
          refine (len_any gn tn _ (hAn.below (below_regrown wr d os) hgl)).mono ?_
          rintro e w'' ⟨rfl, rfl⟩
          exact ⟨rfl, ⟨d, os⟩, rfl⟩
        have c1 : ∀ d os, Calls Tryd.prog 25 #[.pointer (some ⟨gn, 0, none⟩)] (grow (redrawn wr d) os) fun e w'' => e = .returned (.string ⟨u.toArray⟩) ∧ ∃ p : Regrown, w'' = grow (redrawn wr p.d) p.os := fun d os => by
          rw [eu]
          exact Calls.regrown_of (summ_any gn tn _ (hGr.below (below_regrown wr d os)) (hAn.below (below_regrown wr d os) hgl) (by omega))
        have c2 : ∀ d os, Calls Tryd.prog 13 #[.string ⟨tn.toArray⟩] (grow (redrawn wr d) os) fun e w'' => e = .returned (.string ⟨u.toArray⟩) ∧ ∃ p : Regrown, w'' = grow (redrawn wr p.d) p.os := fun d os => by
          rw [eu]
          exact Calls.regrown_of (rsum_any tn _ (by omega))
        clear r1 r2 eu hAn hgl htl hGr q1 q2 q3
        go_wp2_with fail
        refine wp_region_quiet_below (by kernel_rfl) (by kernel_rfl) ?_
        repeat (first | go_big_quiet_step ((first | (with_reducible exact cl _ _) | (with_reducible exact c1 _ _) | (with_reducible exact c2 _ _))) | quiet_step ((first | (with_reducible exact cl _ _) | (with_reducible exact c1 _ _) | (with_reducible exact c2 _ _))))
        refine wpQuiet_nil ?_
        intro _ hw'
        obtain ⟨⟨dq, osq⟩, hw''⟩ := hw'
        subst hw''
        have hbr := below_regrown wr dq osq
        have HF := Lib.hid (And.intro (hP.out.below hbr) (hB.out.trans (hbr.mono hB.out.size)))
        clear hbr cl c1 c2 k1 k2
        generalize grow (redrawn wr dq) osq = w5 at *
        go_wp2
        go_roundw
        case rel =>
          refine ⟨i + 1, T, G, by omega, by go_num, hT0, hT40, HF.out.1, ?_, HF.out.2⟩
          intro t ht
          have h1 := sum_take_succ ps i hlt
          have := hL.out t ht
          omega
        case measure => simp [intOf]; omega
      | 2, _ =>
        by_cases h40 : T.length < 40
        · have hAn : HAt wr gn tn := by rw [HN.out.1, HN.out.2.1]; exact hP.out.hold n HN.out.2.2.2
          have hgl := hAn.lt
          have htl : tn.length ≤ 1048576 := by
            have h1 := hL.out tn (by rw [HN.out.2.1, List.getD_eq_getElem?_getD, List.getElem?_eq_getElem hnT]; exact List.getElem_mem hnT)
            have h2 := sum_take_le ps i
            have := HK.out
            omega
          have hGr : Glob wr := HG.out.below hB.out
          have t40 : (T.length : Int) < 40 := by omega
          have HF := Lib.hid (And.intro hAn (And.intro hGr (And.intro htl (And.intro hnT hnG))))
          obtain ⟨i1, x1, x2, x3, x4⟩ := info_parts info_ptr
          obtain ⟨i2, y1, y2, y3, y4⟩ := info_parts info_str
          have HX := Lib.hid (And.intro x1 (And.intro x2 (And.intro x3 x4)))
          have HY := Lib.hid (And.intro y1 (And.intro y2 (And.intro y3 y4)))
          clear hAn hGr htl hgl h40 x1 x2 x3 x4 y1 y2 y3 y4
          go_wp2_with fail
          refine (clone_any gn tn wr HF.out.1).mono ?_
          rintro e w5 ⟨rfl, hA5, hB5⟩
          have hP5 := hP.out.below hB5
          have hnG5 : wr.heap.size ∉ G := fun hm => by
            obtain ⟨j, hj, e⟩ := List.getElem_of_mem hm
            have := (hP.out.hold j hj).lt
            omega
          have H5 := Lib.hid (And.intro hP5 (And.intro (hB.out.trans (hB5.mono hB.out.size)) (And.intro hA5 hnG5)))
          have hcz : wr.heap.size < w5.heap.size := hA5.lt
          clear hP5 hA5 hB5 hnG5
          obtain ⟨c, ec⟩ : ∃ c, c = wr.heap.size := ⟨_, rfl⟩
          have hcb : w.heap.size ≤ c := by rw [ec]; exact hB.out.size
          rw [← ec] at H5 hcz ⊢
          clear ec
          go_wp2_with (first
            | ((with_reducible refine gate_op (Op.call { callee := .builtin .append, args := #[.tmp 52, .tmp 54], argTypes := #[39, 39] }) rfl ?_)
               refine wpList_append_own _ rfl (.tmp 52) (.tmp 54) 39 rfl w.heap.size 31 i1 (.pointer none) 1 8 Tryd.underlying39 HX.out.1 HX.out.2.1 HX.out.2.2.1 HX.out.2.2.2 rfl (by decide) _ _ _ rfl (H5.out.1.o5.alloc _) ⟨w5.heap.size, 0, none⟩ 1 1 [.pointer (some ⟨c, 0, none⟩)] rfl rfl (cells_new rfl) (by simp [Value.oneCell']) (by unfold maxLen; omega) (by omega) (by have := H5.out.2.1.size; simp; omega) ?_
               intro v' w6 hown6 hg6 _
               have h61 : w6.ownsRow w.heap.size 9 1 (.slice (some ⟨g6, 0, none⟩) T.length c6) T.length (strs T) := (H5.out.1.o6.alloc _).kept hg6 (own_ne_own H5.out.1.o6 H5.out.1.o5 (by decide))
               have r26 : w6.cell? ⟨g6, n, none⟩ = some (.string ⟨tn.toArray⟩) := (by
                 rw [h61.cellAt n (by have := hnT; omega), strs, List.getElem?_map, List.getElem?_eq_getElem hnT, HN.out.2.1, List.getD_eq_getElem?_getD, List.getElem?_eq_getElem hnT]; rfl)
               have hsz6 : w.heap.size ≤ w6.heap.size := (by have h1 := hg6.size; have h2 := H5.out.2.1.size; simp at h1; omega)
               have H6 := Lib.hid (And.intro hown6 (And.intro hg6 h61))
               clear hown6 hg6 h61)
            | ((with_reducible refine gate_op (Op.call { callee := .builtin .append, args := #[.tmp 56, .tmp 61], argTypes := #[40, 40] }) rfl ?_)
               refine wpList_append_own _ rfl (.tmp 56) (.tmp 61) 40 rfl w.heap.size 9 i2 (.string ⟨#[]⟩) 1 16 Tryd.underlying40 HY.out.1 HY.out.2.1 HY.out.2.2.1 HY.out.2.2.2 rfl (by decide) _ _ _ rfl (H6.out.2.2.alloc _) ⟨w6.heap.size, 0, none⟩ 1 1 [.string ⟨tn.toArray⟩] rfl rfl (cells_new rfl) (by simp [Value.oneCell']) (by unfold maxLen; omega) (by omega) (by simp; omega) ?_
               intro v2' w7 hown7 hg7 _))
          have hP5a : PInv w.heap.size (.slice (some ⟨g5, 0, none⟩) T.length c5) (.slice (some ⟨g6, 0, none⟩) T.length c6) (w5.alloc (.cells #[.pointer (some ⟨c, 0, none⟩)] 31)) T G := H5.out.1.below ((Below.refl _ _).alloc (Nat.le_refl _) _)
          have hA5a : HAt (w5.alloc (.cells #[.pointer (some ⟨c, 0, none⟩)] 31)) c tn := H5.out.2.2.1.below ((Below.refl _ _).alloc (Nat.le_refl _) _) hcz
          have hfin := hP5a.cloned hA5a hcb H5.out.2.2.2 H6.out.1 H6.out.2.1 ((Below.refl w6.heap.size w6).alloc (Nat.le_refl _) (.cells #[.string ⟨tn.toArray⟩] 9)) hown7 hg7
          have hB7 : Below w.heap.size w w7 := ((((H5.out.2.1.alloc H5.out.2.1.size _).grown H6.out.2.1 (by have := H5.out.2.1.size; simp; omega) (fun j hj => (H5.out.1.o5.lt j hj).1)).alloc hsz6 _)).grown hg7 (by simp; omega) (fun j hj => (H6.out.2.2.lt j hj).1)
          have HFin := Lib.hid (And.intro hfin hB7)
          clear hP5a hA5a hfin hB7 hown7 hg7
          go_roundw
          case rel =>
            refine ⟨i + 1, T ++ [tn], G ++ [c], by omega, by go_num, by simp, by simp; omega, HFin.out.1, ?_, HFin.out.2⟩
            intro t ht
            have h1 := sum_take_succ ps i hlt
            rcases List.mem_append.1 ht with h2 | h2
            · have := hL.out t h2; omega
            · simp only [List.mem_singleton] at h2
              have h3 := hL.out tn (by rw [HN.out.2.1, List.getD_eq_getElem?_getD, List.getElem?_eq_getElem hnT]; exact List.getElem_mem hnT)
              rw [h2]
              omega
          case measure => simp [intOf]; omega
        · have t40 : ¬ (T.length : Int) < 40 := by omega
          go_wp2_with fail
          go_roundw
          case rel =>
            refine ⟨i + 1, T, G, by omega, by go_num, hT0, hT40, hP.out, ?_, hB.out⟩
            intro t ht
            have h1 := sum_take_succ ps i hlt
            have := hL.out t ht
            omega
          case measure => simp [intOf]; omega
    · obtain rfl : i = ps.length := by omega
      clear HR HW
      go_wp2_with fail
      obtain ⟨wo, rfl⟩ : ∃ wo : World, wo = wr := ⟨_, rfl⟩
      go_loopw [10] (fun v10 w4 => ∃ n : Nat, n ≤ T.length ∧ v10 = .int .i64 n ∧ Hid (Below wo.heap.size wo w4))
        (fun v10 _ => T.length - (intOf v10).toNat)
      case atStart => exact ⟨0, by omega, rfl, Below.refl _ _⟩
      case round =>
        obtain ⟨n, hn, hv10, hBo⟩ := hrel
        subst hv10
        by_cases hnT : n < T.length
        · have hPr := hP.out.below hBo.out
          have hBr := hB.out.trans (hBo.out.mono hB.out.size)
          have hnG : n < G.length := by rw [hPr.len]; exact hnT
          obtain ⟨gn, egn⟩ : ∃ gn, gn = G[n] := ⟨_, rfl⟩
          obtain ⟨tn, etn⟩ : ∃ tn, tn = T.getD n [] := ⟨_, rfl⟩
          have r1 : wr.cell? ⟨g5, n, none⟩ = some (.pointer (some ⟨gn, 0, none⟩)) := by
            rw [hPr.o5.cellAt n (by omega), ptrs, List.getElem?_map, List.getElem?_eq_getElem hnG, egn]; rfl
          have r2 : wr.cell? ⟨g6, n, none⟩ = some (.string ⟨tn.toArray⟩) := by
            rw [hPr.o6.cellAt n (by omega), strs, List.getElem?_map, List.getElem?_eq_getElem hnT, etn, List.getD_eq_getElem?_getD, List.getElem?_eq_getElem hnT]; rfl
          have n0 : 0 ≤ (n : Int) := by omega
          have n1 : (n : Int) < (T.length : Int) := by omega
          have hAn : HAt wr gn tn := by rw [egn, etn]; exact hPr.hold n hnG
          have hgl := hAn.lt
          have htl : tn.length ≤ 1048576 := by
            have h1 := hL.out tn (by rw [etn, List.getD_eq_getElem?_getD, List.getElem?_eq_getElem hnT]; exact List.getElem_mem hnT)
            have h2 := sum_take_le ps ps.length
            have := HK.out
            omega
          have hGr : Glob wr := HG.out.below hBr
          obtain ⟨u, eu⟩ : ∃ u, u = sha tn := ⟨_, rfl⟩
          have k1 := cell_regrown r1
          have k2 := cell_regrown r2
          have cl : ∀ d os, Calls Tryd.prog 24 #[.pointer (some ⟨gn, 0, none⟩)] (grow (redrawn wr d) os) fun e w'' => e = .returned (.int .i64 (tn.length : Int)) ∧ ∃ p : Regrown, w'' = grow (redrawn wr p.d) p.os := fun d os => by
            refine (len_any gn tn _ (hAn.below (below_regrown wr d os) hgl)).mono ?_
            rintro e w'' ⟨rfl, rfl⟩
            exact ⟨rfl, ⟨d, os⟩, rfl⟩
          have c1 : ∀ d os, Calls Tryd.prog 25 #[.pointer (some ⟨gn, 0, none⟩)] (grow (redrawn wr d) os) fun e w'' => e = .returned (.string ⟨u.toArray⟩) ∧ ∃ p : Regrown, w'' = grow (redrawn wr p.d) p.os := fun d os => by
            rw [eu]
            exact Calls.regrown_of (summ_any gn tn _ (hGr.below (below_regrown wr d os)) (hAn.below (below_regrown wr d os) hgl) (by omega))
          have c2 : ∀ d os, Calls Tryd.prog 12 #[.string ⟨tn.toArray⟩] (grow (redrawn wr d) os) fun e w'' => e = .returned (.string ⟨u.toArray⟩) ∧ ∃ p : Regrown, w'' = grow (redrawn wr p.d) p.os := fun d os => by
            rw [eu]
            exact Calls.regrown_of (sum_any tn _ (hGr.below (below_regrown wr d os)) (by omega))
          clear r1 r2 eu hAn hgl htl hGr egn etn hPr hBr hnT hnG
          go_wp2_with fail
          refine wp_region_quiet_below (by kernel_rfl) (by kernel_rfl) ?_
          repeat (first | go_big_quiet_step ((first | (with_reducible exact cl _ _) | (with_reducible exact c1 _ _) | (with_reducible exact c2 _ _))) | quiet_step ((first | (with_reducible exact cl _ _) | (with_reducible exact c1 _ _) | (with_reducible exact c2 _ _))))
          refine wpQuiet_nil ?_
          intro _ hw'
          obtain ⟨⟨dq, osq⟩, hw''⟩ := hw'
          subst hw''
          have HF := Lib.hid (hBo.out.trans ((below_regrown wr dq osq).mono hBo.out.size))
          clear cl c1 c2 k1 k2
          generalize grow (redrawn wr dq) osq = w5 at *
          go_wp2
          go_roundw
          case rel => exact ⟨n + 1, by omega, by go_num, HF.out⟩
          case measure => simp [intOf]; omega
        · obtain rfl : n = T.length := by omega
          go_wp2_with fail
          go_ret
          exact ⟨rfl, hB.out.trans (hBo.out.mono hB.out.size)⟩
end Go.Proofs.YticmnckkhbniaaaDoor
