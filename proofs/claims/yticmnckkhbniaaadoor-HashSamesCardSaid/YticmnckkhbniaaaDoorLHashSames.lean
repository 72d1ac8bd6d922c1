/- strongboxlaw1.HashSames: the walk. -/
import Derived.Test.YticmnckkhbniaaaDoorKnown1
import Derived.Test.YticmnckkhbniaaaDoorWSame
namespace Go.Proofs.YticmnckkhbniaaaDoor
open Go.RowKit Sbx Go.Sort

set_option maxRecDepth 100000 in
theorem hashsames_any (s t : List UInt8) (w : World) (hG : Glob w) (hs : s.length ≤ 140737488355328) (ht : t.length ≤ 140737488355328) :
    Calls Tryd.prog 8 #[.string ⟨s.toArray⟩, .string ⟨t.toArray⟩] w fun e w' => e = .returned (.bool true) ∧ Below w.heap.size w w' := by
  have cst := fun W => same_any s t W hs ht
  have cts := fun W => same_any t s W ht hs
  have css := fun W => same_any s s W hs hs
  have cn := fun W (h : Glob W) => summ_nil W h
  have cr := fun W => rsum_any [] W (by simp)
  obtain ⟨u, eu⟩ : ∃ u, u = sha [] := ⟨_, rfl⟩
  rw [← eu] at cn cr
  rw [show (s == s) = true from beq_self_eq_true s] at css
  obtain ⟨r, er⟩ : ∃ r, r = (s == t) := ⟨_, rfl⟩
  have er2 : (t == s) = r := by rw [er, Bool.eq_iff_iff, beq_iff_eq, beq_iff_eq]; exact eq_comm
  rw [← er] at cst
  rw [er2] at cts
  have H := Lib.hid (And.intro cst (And.intro cts (And.intro css (And.intro cn cr))))
  have er3 := er.symm
  have HG := Lib.hid hG
  clear cst cts css cn cr eu er hG hs ht
  cases r
  all_goals
    go_enter Tryd.func8, Tryd.ntmps8
    go_wp2_with fail
    refine (known_any _ HG.out).mono ?_
    rintro e w1 ⟨rfl, hB⟩
    have hG1 := Lib.hid (HG.out.below hB)
    have HB1 := Lib.hid hB
    clear HG hB
    go_wp2_with fail
    refine (write_nil _ _).mono ?_
    rintro e w2 ⟨rfl, rfl⟩
    go_wp2_with fail
    refine (H.out.1 _).mono ?_
    rintro e w2 ⟨rfl, hB⟩
    have hG2 := Lib.hid (hG1.out.below hB)
    have HB2 := Lib.hid (HB1.out.trans (hB.mono HB1.out.size))
    clear HB1 hG1 hB
    go_wp2_with fail
    refine (H.out.2.1 _).mono ?_
    rintro e w3 ⟨rfl, hB⟩
    have hG3 := Lib.hid (hG2.out.below hB)
    have HB3 := Lib.hid (HB2.out.trans (hB.mono HB2.out.size))
    clear HB2 hG2 hB
    go_wp2_with fail
    refine (H.out.2.2.1 _).mono ?_
    rintro e w4 ⟨rfl, hB⟩
    have hG4 := Lib.hid (hG3.out.below hB)
    have HB4 := Lib.hid (HB3.out.trans (hB.mono HB3.out.size))
    clear HB3 hG3 hB
    go_wp2_with fail
    refine (len_nil _).mono ?_
    rintro e w5 ⟨rfl, rfl⟩
    go_wp2_with fail
    refine (clone_nil _).mono ?_
    rintro e w5 ⟨rfl, rfl⟩
    go_wp2_with fail
    refine (H.out.2.2.2.1 _ hG4.out).mono ?_
    rintro e w5 ⟨rfl, hB⟩
    have HB5 := Lib.hid (HB4.out.trans (hB.mono HB4.out.size))
    clear HB4 hG4 hB
    go_wp2_with fail
    refine (H.out.2.2.2.2 _).mono ?_
    rintro e w6 ⟨rfl, hB⟩
    have HB6 := Lib.hid (HB5.out.trans (hB.mono HB5.out.size))
    clear HB5 hB
    go_wp2_with fail
    go_ret
    exact ⟨rfl, HB6.out⟩
end Go.Proofs.YticmnckkhbniaaaDoor
