/- strongboxlaw1.HashCuts: the walk. -/
import Derived.Test.YticmnckkhbniaaaDoorKnown1
import Derived.Test.YticmnckkhbniaaaDoorPick1
import Derived.Test.YticmnckkhbniaaaDoorMem3
import Derived.Test.YticmnckkhbniaaaDoorArgs
import Derived.Lib.QuietBelow
namespace Go.Proofs.YticmnckkhbniaaaDoor
open Go.RowKit Sbx Go.Sort

set_option maxRecDepth 100000 in
set_option maxHeartbeats 2000000 in
theorem hashcuts_any (s : List UInt8) (A : Option Addr) (cap : Nat) (zs : List Int) (w : World) (hG : Glob w) (hs : s.length ≤ 140737488355328) (hz : zs.length ≤ maxLen)
    (hr : Reads w w.heap.size A zs.length (fun i => .int .i64 (zs.getD i 0))) (hwf : ∀ z ∈ zs, (Lit.int .i64 z).wf = true) :
    Calls Tryd.prog 6 #[.string ⟨s.toArray⟩, .slice A zs.length cap] w fun e w' => e = .returned (.bool true) ∧ Below w.heap.size w w' := by
  have hz' : zs.length ≤ 9223372036854775807 := by unfold maxLen at hz; omega
  clear hz
  have HG := Lib.hid hG
  have HR := Lib.hid hr
  have HS := Lib.hid hs
  have HW := Lib.hid hwf
  have hsi : (s.length : Int) ≤ 140737488355328 := by omega
  clear hG hr hs hwf
  go_enter Tryd.func6, Tryd.ntmps6
  go_wp2_with fail
  refine (known_any _ HG.out).mono ?_
  rintro e1 w1 ⟨rfl, hB⟩
  have hG1 := Lib.hid (HG.out.below hB)
  have HB1 := Lib.hid hB
  clear hB
  go_wp2_with fail
  refine (new_any w1 hG1.out).mono ?_
  rintro e w2 ⟨rfl, hw2⟩
  have hA2 : HAt w2 w1.heap.size [] := by rw [hw2]; exact new_holds w1 hG1.out
  have hB2 : Below w1.heap.size w1 w2 := by rw [hw2]; exact (Below.refl _ _).alloc (Nat.le_refl _) _
  have H2 := Lib.hid (And.intro hA2 (And.intro (HB1.out.trans (hB2.mono HB1.out.size)) HB1.out.size))
  clear hw2 hA2 hB2 HB1 hG1
  obtain ⟨g, eg⟩ : ∃ g, g = w1.heap.size := ⟨_, rfl⟩
  rw [← eg] at H2 ⊢
  clear eg
  clear w1
  go_wp2_with fail
  go_loopw [7, 8, 9] (fun v7 v8 v9 wr => ∃ i f : Nat, i ≤ zs.length ∧ f ≤ s.length ∧ v8 = .int .i64 i ∧ v7 = .int .i64 f ∧ Hid (HAt wr g (s.take f)) ∧ Hid (Below w.heap.size w wr))
    (fun _ v8 _ _ => zs.length - (intOf v8).toNat)
  case atStart => exact ⟨0, 0, by omega, by omega, rfl, rfl, H2.out.1, H2.out.2.1⟩
  case round =>
    have HGG := Lib.hid H2.out.2.2
    clear H2
    obtain ⟨i, f, hi, hf, hv8, hv7, hA, hB⟩ := hrel
    subst hv8
    subst hv7
    by_cases hlt : i < zs.length
    · obtain ⟨b, off, rfl, hb, hcell⟩ := (HR.out.below hB.out) i hlt
      obtain ⟨z, ez⟩ : ∃ z, z = zs.getD i 0 := ⟨_, rfl⟩
      have hcell' : wr.cell? ⟨b, off + i, none⟩ = some (.int .i64 (zs.getD i 0)) := hcell
      rw [← ez] at hcell'
      clear hcell
      have hzw : (Lit.int .i64 z).wf = true := HW.out z (by rw [ez, List.getD_eq_getElem?_getD, List.getElem?_eq_getElem hlt]; exact List.getElem_mem hlt)
      obtain ⟨z0, z1⟩ := wf_i64 hzw
      have hp := fun W => pick_any z ((s.length : Int) - (f : Int) + 1) W (by omega) z0 z1
      obtain ⟨n, hn⟩ : ∃ n : Nat, pickI z ((s.length : Int) - (f : Int) + 1) = n := ⟨(pickI z ((s.length : Int) - (f : Int) + 1)).toNat, by have := pickI_nonneg z ((s.length : Int) - (f : Int) + 1) (by omega); omega⟩
      have hnf : f + n ≤ s.length := by have := pickI_lt z ((s.length : Int) - (f : Int) + 1) (by omega); omega
      rw [hn] at hp
      have hsl := fun W => run_slice_str (P := Tryd.prog) Tryd.underlying9 s .i64 .i64 f (f + n) (by omega) hnf (f : Int) ((f : Int) + (n : Int)) rfl (by omega) W
      have e1 : s.take f ++ (s.drop f).take (f + n - f) = s.take (f + n) := by rw [Nat.add_sub_cancel_left, ← List.take_add]
      obtain ⟨q, eq⟩ : ∃ q, q = (s.drop f).take (f + n - f) := ⟨_, rfl⟩
      rw [← eq] at hsl e1
      have HE := Lib.hid (And.intro e1 eq)
      have HP := Lib.hid hp
      have g1 : 0 ≤ (i : Int) := by omega
      have g2 : (i : Int) < (zs.length : Int) := by omega
      have g3 : (f : Int) ≤ (s.length : Int) := by omega
      have g4 : (f : Int) + (n : Int) ≤ (s.length : Int) := by omega
      clear ez hzw hn hp e1 eq z0 z1
      go_wp2_with fail
      refine (HP.out _).mono ?_
      rintro e w3 ⟨rfl, rfl⟩
      go_wp2_with fail
      refine (write_any g (s.take f) q wr (HG.out.below hB.out) hA.out (by have h1 := HS.out; have h2 : q.length ≤ s.length := by (rw [HE.out.2]; simp; omega)
                                                                           simp; omega)).mono ?_
      rintro e w3 ⟨rfl, hA3, hO3⟩
      rw [HE.out.1] at hA3
      have hB3 : Below w.heap.size w w3 := hB.out.trans (below_of_only hO3 hB.out.size HGG.out)
      have hl : ((s.take (f + n)).length : Int) = (f : Int) + (n : Int) := by rw [List.length_take]; omega
      obtain ⟨p, ep⟩ : ∃ p, p = s.take (f + n) := ⟨_, rfl⟩
      obtain ⟨u, eu⟩ : ∃ u, u = sha p := ⟨_, rfl⟩
      have hpl : p.length ≤ 140737488355328 := by rw [ep, List.length_take]; omega
      have hA4 := hA3
      rw [← ep] at hl hA3
      have hgl := hA3.lt
      have hG3 : Glob w3 := HG.out.below hB3
      have cl : ∀ d os, Calls Tryd.prog 24 #[.pointer (some ⟨g, 0, none⟩)] (grow (redrawn w3 d) os) fun e w'' => e = .returned (.int .i64 ((f : Int) + (n : Int))) ∧ ∃ p : Regrown, w'' = grow (redrawn w3 p.d) p.os := fun d os => by
        rw [← hl]
        refine (len_any g p _ (hA3.below (below_regrown w3 d os) hgl)).mono ?_
        rintro e w'' ⟨rfl, rfl⟩
        exact ⟨rfl, ⟨d, os⟩, rfl⟩
      have c1 : ∀ d os, Calls Tryd.prog 25 #[.pointer (some ⟨g, 0, none⟩)] (grow (redrawn w3 d) os) fun e w'' => e = .returned (.string ⟨u.toArray⟩) ∧ ∃ p : Regrown, w'' = grow (redrawn w3 p.d) p.os := fun d os => by
        rw [eu]
        exact Calls.regrown_of (summ_any g p _ (hG3.below (below_regrown w3 d os)) (hA3.below (below_regrown w3 d os) hgl) (by omega))
      have c2 : ∀ d os, Calls Tryd.prog 12 #[.string ⟨p.toArray⟩] (grow (redrawn w3 d) os) fun e w'' => e = .returned (.string ⟨u.toArray⟩) ∧ ∃ p : Regrown, w'' = grow (redrawn w3 p.d) p.os := fun d os => by
        rw [eu]
        exact Calls.regrown_of (sum_any p _ (hG3.below (below_regrown w3 d os)) (by omega))
      have hs2 := fun W => run_slice_to (P := Tryd.prog) Tryd.underlying9 s .i64 (f + n) hnf ((f : Int) + (n : Int)) (by omega) W
      rw [← ep] at hs2
      have HA4 := Lib.hid (And.intro hA4 hB3)
      clear hl ep eu hpl hA3 hA4 hgl hG3 hsl hO3 hB3
      go_wp2_with fail
      refine wp_region_quiet_below (by kernel_rfl) (by kernel_rfl) ?_
      repeat (first | go_big_quiet_step ((first | (with_reducible exact cl _ _) | (with_reducible exact c1 _ _) | (with_reducible exact c2 _ _))) | quiet_step ((first | (with_reducible exact cl _ _) | (with_reducible exact c1 _ _) | (with_reducible exact c2 _ _))))
      refine wpQuiet_nil ?_
      intro _ hw'
      obtain ⟨⟨dq, osq⟩, hw''⟩ := hw'
      subst hw''
      have hbr := below_regrown w3 dq osq
      have HF := Lib.hid (And.intro (HA4.out.1.below hbr HA4.out.1.lt) (HA4.out.2.trans (hbr.mono HA4.out.2.size)))
      clear hbr HA4 cl c1 c2 hs2
      generalize grow (redrawn w3 dq) osq = w4 at *
      go_wp2
      go_roundw
      case rel => exact ⟨i + 1, f + n, by omega, hnf, by go_num, by go_num, HF.out.1, HF.out.2⟩
      case measure => simp [intOf]; omega
    · obtain rfl : i = zs.length := by omega
      have g3 : (f : Int) ≤ (s.length : Int) := by omega
      have g4 : 0 ≤ (f : Int) := by omega
      have hq := fun W => run_slice_from (P := Tryd.prog) Tryd.underlying9 s .i64 f hf (f : Int) rfl W
      have e1 : s.take f ++ s.drop f = s := List.take_append_drop f s
      obtain ⟨q, eq⟩ : ∃ q, q = s.drop f := ⟨_, rfl⟩
      rw [← eq] at hq e1
      have hql : q.length ≤ s.length := by rw [eq]; simp
      have HE := Lib.hid (And.intro e1 hql)
      obtain ⟨u, eu⟩ : ∃ u, u = sha s := ⟨_, rfl⟩
      have HU := Lib.hid eu
      clear e1 eq hql eu
      go_wp2_with fail
      refine (write_any g (s.take f) q wr (HG.out.below hB.out) hA.out (by have h1 := HS.out; have := HE.out.2; simp; omega)).mono ?_
      rintro e w3 ⟨rfl, hA3, hO3⟩
      rw [HE.out.1] at hA3
      have hB3 : Below w.heap.size w w3 := hB.out.trans (below_of_only hO3 hB.out.size HGG.out)
      have H3 := Lib.hid (And.intro hA3 hB3)
      clear hA3 hB3 hO3 hq
      go_wp2_with fail
      have c1 := summ_any g s w3 (HG.out.below H3.out.2) H3.out.1 (by have := HS.out; omega)
      rw [← HU.out] at c1
      refine c1.mono ?_
      clear c1
      rintro e w4 ⟨rfl, hB4⟩
      have H4 := Lib.hid (H3.out.2.trans (hB4.mono H3.out.2.size))
      clear hB4
      go_wp2_with fail
      have c2 := sum_any s w4 (HG.out.below H4.out) (by have := HS.out; omega)
      rw [← HU.out] at c2
      refine c2.mono ?_
      clear c2
      rintro e w5 ⟨rfl, hB5⟩
      have H5 := Lib.hid (H4.out.trans (hB5.mono H4.out.size))
      clear hB5
      go_wp2_with fail
      go_ret
      exact ⟨rfl, H5.out⟩
end Go.Proofs.YticmnckkhbniaaaDoor
