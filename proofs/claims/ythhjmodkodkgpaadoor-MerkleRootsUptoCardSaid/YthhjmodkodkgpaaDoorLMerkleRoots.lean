/- strongboxlaw19.MerkleRoots: the walk. -/
import Derived.Test.YthhjmodkodkgpaaDoorMRootA
namespace Go.Proofs.YthhjmodkodkgpaaDoor
open Go.RowKit Sbx Go.Sort

set_option maxRecDepth 100000 in
set_option maxHeartbeats 2000000 in
theorem merkleroots_any (s a b : List UInt8) (P : List (List UInt8)) (A : Option Addr) (cap : Nat) (w : World) (hG : Glob w) (hs : s.length ≤ 1048576) (ha : a.length ≤ 1048576) (hb : b.length ≤ 1048576) (hP : P.length ≤ 1048576) (hPs : ∀ s ∈ P, s.length ≤ 1048576) (hcap : P.length ≤ cap) (hmax : cap ≤ maxLen)
    (hR : Reads w w.heap.size A P.length (fun j => .string ⟨(P.getD j []).toArray⟩)) :
    Calls Tryd.prog 5 #[.string ⟨s.toArray⟩, .string ⟨a.toArray⟩, .string ⟨b.toArray⟩, .slice A P.length cap] w fun e w' => e = .returned (.bool true) ∧ Below w.heap.size w w' := by
  have HS := St.start hG
  have c0 := fun W => some_any P.length 5000 A cap W hcap hmax (fun h => by obtain ⟨b, off, e, _⟩ := hR 0 h; exact ⟨b, off, e⟩)
  obtain ⟨l, el⟩ : ∃ l, l = P.take 5000 := ⟨_, rfl⟩
  have hl : l.length = min P.length 5000 := by rw [el, List.length_take, Nat.min_comm]
  have hR' : Reads w w.heap.size A l.length (fun j => .string ⟨(l.getD j []).toArray⟩) := by
    refine hR.front (by omega) (fun i hi => ?_)
    rw [el, List.getD_eq_getElem?_getD, List.getD_eq_getElem?_getD, List.getElem?_take_of_lt (by omega)]
  have hls : ∀ s ∈ l, s.length ≤ 1048576 := fun s h => hPs s (by rw [el] at h; exact List.mem_of_mem_take h)
  rw [← hl] at c0
  have hlc : l.length ≤ cap := by omega
  have hln : l.length ≤ 5000 := by omega
  have hus := unl_le l 1048576 hls
  have hul := unl_length l
  have c1 := fun W h => lent_any l A cap W (by omega) h
  have c2 := fun W (g : Glob W) A' h => root_any l A' (l.length + 8) W (by omega) (by omega) (by unfold maxLen; omega) (fun s h => by have := hls s h; omega) g h
  have c3 := fun W h => rroot_any l A cap W (by omega) hlc hmax (fun s h => by have := hls s h; omega) h
  have c4 := fun W g h k => kept_any l g (l.length + 8) A cap W (by omega) (Nat.le_refl _) h k
  have c5 := fun W h => unlike_any l A cap W (by omega) (fun s h => by have := hls s h; omega) h
  change ∀ W h, Calls _ _ _ W (fun e w' => ∃ v, e = Ending.returned v ∧ Hid (Lst W w' 9 v (strs (unl l)))) at c5
  obtain ⟨u, eu⟩ : ∃ u, u = unl l := ⟨_, rfl⟩
  rw [← eu] at c5 hus hul
  have c6 := fun W (g : Glob W) A' cap' hc hm h => root_any u A' cap' W (by omega) hc hm (fun s h => by have := hus s h; omega) g h
  have c7 := fun W A' cap' hc hm h => rroot_any u A' cap' W (by omega) hc hm (fun s h => by have := hus s h; omega) h
  rw [hul] at c6 c7
  have hov := lent_over l u hul
  have d1 := fun W (g : Glob W) => nodef_any a b W g
  have d2 := fun W => rnodef_any a b W (by omega) (by omega)
  have d3 := fun W (g : Glob W) => leaf_any s W g (by omega)
  have d4 := fun W => rleaf_any s W (by omega)
  obtain ⟨x1, e1⟩ : ∃ x, x = mroot l := ⟨_, rfl⟩
  obtain ⟨x2, e2⟩ : ∃ x, x = mroot u := ⟨_, rfl⟩
  obtain ⟨x3, e3⟩ : ∃ x, x = nodeS a b := ⟨_, rfl⟩
  obtain ⟨x4, e4⟩ : ∃ x, x = nodeE a b := ⟨_, rfl⟩
  obtain ⟨x5, e5⟩ : ∃ x, x = mleaf s := ⟨_, rfl⟩
  rw [← e1] at c2 c3
  rw [← e2] at c6 c7
  rw [← e3, ← e4] at d1 d2
  rw [← e5] at d3 d4
  have H := Lib.hid (And.intro c0 (And.intro c1 (And.intro c2 (And.intro c3 (And.intro c4 (And.intro c5 (And.intro c6 c7)))))))
  have D := Lib.hid (And.intro d1 (And.intro d2 (And.intro d3 d4)))
  have HR := Lib.hid (And.intro hR' (And.intro hG (And.intro hul hov)))
  have hlz : (l.length : Int) ≤ 5000 := by omega
  have hcz : (l.length : Int) ≤ (cap : Int) := by omega
  clear c0 c1 c2 c3 c4 c5 c6 c7 d1 d2 d3 d4 e1 e2 e3 e4 e5 eu el hl hR hR' hls hus hul hov hG hs ha hb hP hPs hcap hmax hlc
  go_enter Tryd.func5, Tryd.ntmps5
  go_wp2_with (first
    | (go_at_call 13; refine (St.callG HS awake_any).mono ?_; clear HS; rintro e w' ⟨rfl, HS⟩)
    | (go_at_call 26; refine (St.callG HS D.out.1).mono ?_; clear HS; rintro e w' ⟨rfl, HS⟩)
    | (go_at_call 27; refine (St.callR HS D.out.2.1).mono ?_; clear HS; rintro e w' ⟨rfl, HS⟩)
    | (go_at_call 14; refine (Kp.still HS (H.out.1 _)).mono ?_; clear HS; rintro e w' ⟨rfl, HS⟩)
    | (go_at_call 15; have hsz := Lib.hid (St.bel HS).size; refine (Kp.listAt HS (H.out.2.1 _ (HR.out.1.belowW (St.bel HS)))).mono ?_; clear HS; rintro e w2 ⟨rfl, HL⟩)
    | (go_at_call 21; refine (Kp.call HL (H.out.2.2.1 _ HL.out.1.1 _ HL.out.2.lentFront)).mono ?_; clear HL; rintro e w3 ⟨rfl, HL⟩)
    | (go_at_call 28; refine (Kp.call HL (H.out.2.2.2.1 _ (HR.out.1.belowW HL.out.1.2))).mono ?_; clear HL; rintro e w3 ⟨rfl, HL⟩)
    | (go_at_call 18; refine (Kp.call HL (H.out.2.2.2.2.1 _ _ HL.out.2.lentReads (HR.out.1.belowW HL.out.1.2))).mono ?_; clear HL; rintro e w4 ⟨rfl, HK⟩)
    | (go_at_call 19; refine (Kp.list HK (H.out.2.2.2.2.2.1 _ (HR.out.1.belowW HK.out.1.2))).mono ?_; clear HK; rintro e w5 ⟨v, rfl, HU⟩
       obtain ⟨A5, c5, rfl, _, _⟩ := Lst.form HU.out.2
       rw [strs_length, HR.out.2.2.1])
    | ((with_reducible refine gate_op (Op.call { callee := .builtin .copy, args := #[.tmp 46, .tmp 48], argTypes := #[22, 22] }) rfl ?_)
       refine lst_copy rfl (.tmp 46) (.tmp 48) 22 9 rfl Tryd.underlying22 size_str1 _ _ _ _ _ _ _ _ rfl rfl _ (strs u) HU.out.1.2 (by rw [strs_length, HR.out.2.2.1]; exact (Nat.min_eq_left (by omega)).symm) (by rw [strs_length, strs_length, HR.out.2.2.1, List.length_append]; omega) (fun j => .string ⟨(u.getD j []).toArray⟩) (fun i hi => strs_getD u i (by rwa [strs_length] at hi)) (by rw [strs_length]; exact Lst.reads_strs HU.out.2) (strs_cell u) ?_
       intro w6 h1 hg6
       rw [HR.out.2.2.2] at h1
       have HM : Hid (And2 (St w) (LstW _ _ _ _) w6) := ⟨St.grown HU.out.1.1 HR.out.2.1 hg6 hsz.out, h1⟩
       clear h1 hg6 HU)
    | (go_at_call 21; refine (Kp.call HM (H.out.2.2.2.2.2.2.1 _ HM.out.1.1 _ _ (by omega) (by unfold maxLen; omega) (by have := Lst.lentFront HM.out.2; rwa [HR.out.2.2.1] at this))).mono ?_; clear HM; rintro e w7 ⟨rfl, HN⟩)
    | (go_at_call 19; refine (Kp.list HN (H.out.2.2.2.2.2.1 _ (HR.out.1.belowW HN.out.1.2))).mono ?_; clear HN; rintro e w8 ⟨v, rfl, HV⟩
       obtain ⟨A6, c6, rfl, hc6, hm6⟩ := Lst.form HV.out.2
       rw [strs_length, HR.out.2.2.1] at hc6 ⊢)
    | (go_at_call 28; refine (Kp.call HV (H.out.2.2.2.2.2.2.2 _ _ _ hc6 hm6 (by have := Lst.reads_strs HV.out.2; rwa [HR.out.2.2.1] at this))).mono ?_; clear HV; rintro e w9 ⟨rfl, HV⟩
       have HS := Lib.hid (And.left (And.left HV.out))
       clear HV)
    | (go_at_call 29; refine (St.callG HS D.out.2.2.1).mono ?_; clear HS; rintro e w' ⟨rfl, HS⟩)
    | (go_at_call 30; refine (St.callR HS D.out.2.2.2).mono ?_; clear HS; rintro e w' ⟨rfl, HS⟩))
  go_ret
  exact ⟨rfl, HS.out.2⟩
end Go.Proofs.YthhjmodkodkgpaaDoor
