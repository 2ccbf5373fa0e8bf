/- A bundle of texts: Rt1, Ru, Rw, Rx, Ry, LawN1. -/
import Derived.Test.YtijhajkakmohnaaGreatDoorB04
import Derived.Test.YtijhajkakmohnaaGreatDoorB05
import Derived.Test.YtijhajkakmohnaaGreatDoorB00
import Derived.Test.YtijhajkakmohnaaGreatDoorB07
import Derived.Test.YtijhajkakmohnaaGreatDoorB03
import Derived.Deep.QuietTactic
import Derived.BigQuiet
/- Walks of the reference's trees: Some, Left, Leaf, Node. -/
set_option linter.unusedVariables false
namespace Go.Proofs.YtijhajkakmohnaaGreatDoor
open Go.RowKit Zp
theorem shownB_no {l : List Int} {a n : Nat} (h : ∀ j (hj : j < l.length), ¬ ((a : Int) ≤ l[j] ∧ l[j] < (a : Int) + n)) : shownB l a n = false := by
  rw [Bool.eq_false_iff]
  intro hs
  rw [shownB, List.any_eq_true] at hs
  obtain ⟨x, hx, h1⟩ := hs
  obtain ⟨j, hj, rfl⟩ := List.mem_iff_getElem.1 hx
  rw [decide_eq_true_eq] at h1
  exact h j hj h1
theorem shownB_yes {l : List Int} {a n j : Nat} (hj : j < l.length) (h : (a : Int) ≤ l[j] ∧ l[j] < (a : Int) + n) : shownB l a n = true := by
  rw [shownB, List.any_eq_true]
  exact ⟨_, List.getElem_mem hj, by rw [decide_eq_true_eq]; exact h⟩
set_option maxHeartbeats 1000000 in
theorem rsome_any (A : Option Addr) (N c : Nat) (l : List Int) (hl : l.length = N) (hN : N ≤ 9223372036854775806) (a n : Nat) (w : World) (hs : SL w A l) :
    Calls Tryz.prog 100 #[.slice A N c, vi a, vi ((a : Int) + (n : Int))] w fun e w' => e = .returned (.bool (shownB l a n)) ∧ w = w' := by
  have HL := Lib.hid hl
  have HS := Lib.hid hs
  clear hl hs
  go_enter Tryz.func100, Tryz.ntmps100
  go_wp2
  go_loop [7] (fun i => ∃ k : Nat, k ≤ N ∧ i = vi k ∧ ∀ j (h : j < l.length), j < k → ¬ ((a : Int) ≤ l[j] ∧ l[j] < (a : Int) + n)) (fun i => N - (intOf i).toNat)
  case atStart => exact ⟨0, Nat.zero_le _, rfl, fun j _ hj => absurd hj (Nat.not_lt_zero _)⟩
  case round =>
    obtain ⟨k, hk, rfl, hb⟩ := hrel
    have HB := Lib.hid hb
    clear hb
    by_cases hlt : k < N
    · have hkl : k < l.length := by rw [HL.out]; exact hlt
      obtain ⟨ad, rfl, had, hcx⟩ := HS.out.at_ hkl
      have i1 : (0 : Int) ≤ k := by omega
      have i2 : (k : Int) < N := by omega
      have i3 : (k : Int) + 1 ≤ 9223372036854775807 := by omega
      by_cases c1 : (a : Int) ≤ l[k]
      · by_cases c2 : l[k] < (a : Int) + n
        · have HR := Lib.hid (shownB_yes hkl ⟨c1, c2⟩)
          generalize l[k] = x at c1 c2 hcx
          go_wp2
          go_ret
          exact ⟨ret_bool HR.out.symm, rfl⟩
        · have HBB : Hid (∀ j (h : j < l.length), j < k + 1 → ¬ ((a : Int) ≤ l[j] ∧ l[j] < (a : Int) + n)) := Lib.hid (fun j h hj => by
            by_cases e : j < k
            · exact HB.out j h e
            · obtain rfl : j = k := by omega
              exact fun g => c2 g.2)
          generalize l[k] = x at c1 c2 hcx
          go_wp2
          go_round
          case rel => exact ⟨k + 1, by omega, by go_num, HBB.out⟩
          case measure => simp [intOf]; omega
      · have HBB : Hid (∀ j (h : j < l.length), j < k + 1 → ¬ ((a : Int) ≤ l[j] ∧ l[j] < (a : Int) + n)) := Lib.hid (fun j h hj => by
          by_cases e : j < k
          · exact HB.out j h e
          · obtain rfl : j = k := by omega
            exact fun g => c1 g.1)
        generalize l[k] = x at c1 hcx
        go_wp2
        go_round
        case rel => exact ⟨k + 1, by omega, by go_num, HBB.out⟩
        case measure => simp [intOf]; omega
    · obtain rfl : k = N := by omega
      have HR : Hid (shownB l a n = false) := Lib.hid (shownB_no fun j hj => HB.out j hj (by rw [← HL.out]; exact hj))
      go_wp2
      go_ret
      exact ⟨ret_bool HR.out.symm, rfl⟩
set_option maxHeartbeats 1000000 in
theorem rleft_any (n : Nat) (hn1 : 2 ≤ n) (hn : n ≤ 65536) (w : World) :
    Calls Tryz.prog 51 #[vi n] w fun e w' => e = .returned (vi (leftN n)) ∧ w = w' := by
  go_enter Tryz.func51, Tryz.ntmps51
  go_wp2
  go_loop [3] (fun v => LeftRel n v) (fun v => n - (intOf v).toNat)
  case atStart => exact ⟨1, rfl, by omega, 0, rfl⟩
  case round =>
    obtain ⟨M, rfl, hM, hpw⟩ := hrel
    have hp := hpw.pos
    have HPW := Lib.hid hpw
    clear hpw
    by_cases h : M * 2 < n
    · go_wp2
      go_round
      case rel => exact ⟨2 * M, by go_num, by omega, HPW.out.dbl⟩
      case measure => simp [intOf]; omega
    · have hl : M = leftN n := HPW.out.left hM (by omega)
      have HLE := Lib.hid hl
      clear hl
      go_wp2
      go_ret
      exact ⟨ret_int (by rw [← HLE.out]), rfl⟩
set_option maxHeartbeats 1000000 in
theorem rleaf_any (p k : Nat) [NeZero p] (K : Pk p k) (A : Option Addr) (n c : Nat) (l : List Int) (hl : l.length = n) (hlI : ∀ x ∈ l, I64 x) (hr : n * 8 ≤ 140737488351232) (w : World) (hs : SL w A l) :
    Calls Tryz.prog 50 #[vi p, .slice A n c] w fun e w' => DigIs p k (0 :: l) w e w' := by
  have hba : Below w.heap.size w (w.alloc (.cells #[vi 0] 3)) := (Below.refl _ _).alloc (Nat.le_refl _) _
  have ho1 : Own (w.alloc (.cells #[vi 0] 3)) w.heap.size (.slice (some ⟨w.heap.size, 0, none⟩) 1 1) [0] := own_lit w w.heap.size [0] (Nat.le_refl _) (by simp [maxLen])
  have hs1 := hs.below hba
  have HH := Lib.hid (fun A n c (L : List Int) (h1 : L.length = n) h2 h3 W hs => rhash_dig p k K.p3 K.pm K.k2 K.kp K.least K.cop A n c L h1 h2 h3 W hs)
  have HI := Lib.hid (show ∀ x ∈ [0] ++ l, I64 x from fun x hx => by
    rcases List.mem_append.1 hx with hx | hx
    · simp at hx; subst hx; constructor <;> omega
    · exact hlI x hx)
  have HL := Lib.hid hl
  have HBA := Lib.hid hba
  have HO1 := Lib.hid ho1
  have HS1 := Lib.hid hs1
  clear hl hlI hs hs1 hba ho1
  go_enter Tryz.func50, Tryz.ntmps50
  go_wp2_with (at_builtin; refine wpList_appA _ rfl _ _ rfl w.heap.size _ [0] A n c l rfl rfl HL.out HO1.out HS1.out (by simp; omega) (by simp) ?_; intro v2 w2 hg2; have ho2 := hg2.own; have hb2 := hg2.below HBA.out HO1.out (Nat.le_refl _) HBA.out.size; clear hg2)
  obtain ⟨A3, n3, c3, rfl, hl3, _, _, hs3⟩ := ho2.shapeN
  have hn3 : n3 = 1 + n := by rw [← hl3]; simp [HL.out]; omega
  have HX := Lib.hid (HH.out A3 n3 c3 _ hl3 HI.out (by omega) w2 hs3)
  have HB2 := Lib.hid hb2
  clear hl3 hs3 ho2 hb2 hn3
  go_wp2_with fail
  refine HX.out.mono ?_
  rintro _ w4 ⟨g, cap, cs, rfl, h1, h2, h3, h4, h5, h6⟩
  have HFIN : Hid (DigIs p k (0 :: l) w (.returned (.slice (some ⟨g, 0, none⟩) 4 cap)) w4) := Lib.hid ⟨g, cap, cs, rfl, h1, h2, h3, h4, Nat.le_trans HB2.out.size h5, HB2.out.trans (h6.mono HB2.out.size)⟩
  clear h1 h2 h3 h4 h5 h6
  go_wp2
  go_ret
  exact HFIN.out
set_option maxRecDepth 100000 in
set_option maxHeartbeats 2000000 in
theorem rnode_any (p k : Nat) [NeZero p] (K : Pk p k) (A B : Option Addr) (n m c d : Nat) (l r : List Int) (hl : l.length = n) (hr : r.length = m) (hn : n ≤ 1000) (hm : m ≤ 1000) (hlI : ∀ x ∈ l, I64 x) (hrI : ∀ x ∈ r, I64 x) (w : World) (hs : SL w A l) (ht : SL w B r) :
    Calls Tryz.prog 52 #[vi p, .slice A n c, .slice B m d] w fun e w' => DigIs p k (1 :: (l ++ r)) w e w' := by
  have hba : Below w.heap.size w (w.alloc (.cells #[vi 1] 3)) := (Below.refl _ _).alloc (Nat.le_refl _) _
  have ho1 : Own (w.alloc (.cells #[vi 1] 3)) w.heap.size (.slice (some ⟨w.heap.size, 0, none⟩) 1 1) [1] := own_lit w w.heap.size [1] (Nat.le_refl _) (by simp [maxLen])
  have hs1 := hs.below hba
  have HH := Lib.hid (fun A n c (L : List Int) (h1 : L.length = n) h2 h3 W hs => rhash_dig p k K.p3 K.pm K.k2 K.kp K.least K.cop A n c L h1 h2 h3 W hs)
  have HI := Lib.hid (show ∀ x ∈ ([1] ++ l) ++ r, I64 x from fun x hx => by
    rcases List.mem_append.1 hx with hx | hx
    · rcases List.mem_append.1 hx with hx | hx
      · simp at hx; subst hx; constructor <;> omega
      · exact hlI x hx
    · exact hrI x hx)
  have HL := Lib.hid hl
  have HR := Lib.hid hr
  have HBA := Lib.hid hba
  have HO1 := Lib.hid ho1
  have HS1 := Lib.hid hs1
  have HT := Lib.hid ht
  clear hl hlI hs hs1 hba ho1 hr hrI ht
  obtain ⟨W, hW⟩ : ∃ W, W = w.alloc (.cells #[vi 1] 3) := ⟨_, rfl⟩
  have HW := Lib.hid hW
  clear hW
  go_enter Tryz.func52, Tryz.ntmps52
  go_wp2_with (first
    | (at_builtin; refine wpList_appA _ rfl _ _ rfl w.heap.size _ [1] A n c l rfl rfl HL.out HO1.out HS1.out (by simp; omega) (by simp) ?_; intro v2 w2 hg2; have ho2 := hg2.own; have hb2 := hg2.below HBA.out HO1.out (Nat.le_refl _) HBA.out.size; have hst2 := HT.out.below hb2; have hmx : ([1] ++ l).length + m ≤ 17592186044416 := (by simp [HL.out]; omega); have hsz2 := hb2.size; clear hg2)
    | (at_builtin; refine wpList_appA w2 rfl _ _ rfl w.heap.size _ ([1] ++ l) B m d r rfl rfl HR.out ho2 hst2 hmx hsz2 ?_; intro v3 w3 hg3; have ho3 := hg3.own; have hb3 := hg3.below hb2 ho2 (Nat.le_refl _) hb2.size; clear hg3))
  obtain ⟨A3, n3, c3, rfl, hl3, _, _, hs3⟩ := ho3.shapeN
  have hn3 : n3 = 1 + n + m := by rw [← hl3]; simp [HL.out, HR.out]; omega
  have HX := Lib.hid (HH.out A3 n3 c3 _ hl3 HI.out (by omega) w3 hs3)
  have HB3 := Lib.hid hb3
  clear hl3 hs3 ho3 hb3 hn3 ho2 hb2 hst2 hmx hsz2
  go_wp2_with fail
  refine HX.out.mono ?_
  rintro _ w4 ⟨g, cap, cs, rfl, h1, h2, h3, h4, h5, h6⟩
  have HFIN : Hid (DigIs p k (1 :: (l ++ r)) w (.returned (.slice (some ⟨g, 0, none⟩) 4 cap)) w4) := Lib.hid ⟨g, cap, cs, rfl, h1, h2, by simpa using h3, h4, Nat.le_trans HB3.out.size h5, HB3.out.trans (h6.mono HB3.out.size)⟩
  clear h1 h2 h3 h4 h5 h6
  go_wp2
  go_ret
  exact HFIN.out
end Go.Proofs.YtijhajkakmohnaaGreatDoor

/- The walk of the reference's Climb.Up. -/
set_option linter.unusedVariables false
namespace Go.Proofs.YtijhajkakmohnaaGreatDoor
open Go.RowKit Zp
/-- what Up hands back, and what it leaves -/
def UpIs (m : Nat) (v0 v1 v2 v3 : Value) (w0 : World) (r : List Int × (Nat × Bool)) (w : World) (e : Ending) (w' : World) : Prop :=
  ∃ g c : Nat, e = .returned (.slice (some ⟨g, 0, none⟩) 4 c) ∧ SL w' (some ⟨g, 0, none⟩) r.1 ∧ r.1.length = 4 ∧ (∀ x ∈ r.1, I64 x) ∧ w.heap.size ≤ g ∧ Blk w' m 85 #[v0, v1, v2, v3, vi (r.2.1 : Int), .bool r.2.2] ∧ Below w0.heap.size w0 w' ∧ w.grownBy w' (some m)
theorem grownOf {w w' : World} {m : Nat} (h : Below w.heap.size w w') : w.grownBy w' (some m) := grown_of_below h _
set_option maxRecDepth 100000 in
set_option maxHeartbeats 1000000 in
theorem up_bad_walk (p k : Nat) [NeZero p] (K : Pk p k) (A0 : Option Addr) (n0 c0 : Nat) (l : List Int) (hl : l.length = n0) (hn0 : n0 ≤ 65536) (v2 : Value) (AN : Option Addr) (nN cN : Nat) (ns : List (List Int)) (hns : ns.length = nN) (hnN : nN ≤ 281474976710656) (w0 : World) (s0 : SL w0 A0 l) (tN : TB w0 AN ns) (m : Nat) (hm : w0.heap.size ≤ m)
    (n a : Nat) (ha : a + n ≤ 65536) (hsh : shownB l a n = false) (t : Nat) (b : Bool) (htN : t ≤ nN) (hbad : ns.length ≤ t ∨ (ns.getD t []).length ≠ 4) (w : World) (hb : Below w0.heap.size w0 w) (hB : Blk w m 85 #[vi p, .slice A0 n0 c0, v2, .slice AN nN cN, vi (t : Int), .bool b]) :
    Calls Tryz.prog 34 #[.pointer (some ⟨m, 0, none⟩), vi a, vi n] w (UpIs m (vi p) (.slice A0 n0 c0) v2 (.slice AN nN cN) w0 ([0, 0, 0, 0], (t, true)) w) := by
  have hml := hB.lt
  have HRS := Lib.hid (rsome_any A0 n0 c0 l hl (by omega) a n w (s0.below hb))
  rw [hsh] at HRS
  have e0 := (hB.cell 0).trans (show _ = some (vi p) from rfl)
  have e1 := (hB.cell 1).trans (show _ = some (.slice A0 n0 c0) from rfl)
  have e3 := (hB.cell 3).trans (show _ = some (.slice AN nN cN) from rfl)
  have e4 := (hB.cell 4).trans (show _ = some (vi (t : Int)) from rfl)
  have f5 := hB.frozen 5
  have e5 := (hB.cell 5).trans (show _ = some (.bool b) from rfl)
  have hB2 := fun nq => (hB.drewN nq).set_ 5 (.bool true)
  have hg2 := fun nq : Nat => grownBy_trans (show w.grownBy (w.drewN nq) (some m) from ⟨rfl, rfl, rfl, Nat.le_refl _, fun _ _ _ => rfl⟩) (blk_grown (w := w.drewN nq) (g := m) (i := 5) (u := .bool true))
  have HFIN : Hid (∀ nq : Nat, UpIs m (vi p) (.slice A0 n0 c0) v2 (.slice AN nN cN) w0 ([0, 0, 0, 0], (t, true)) w (.returned (.slice (some ⟨w.heap.size, 0, none⟩) 4 4)) (((w.drewN nq).setCell ⟨m, 5, none⟩ (.bool true)).alloc (.cells #[vi 0, vi 0, vi 0, vi 0] 3))) := Lib.hid fun nq => by
    have hz : ((w.drewN nq).setCell ⟨m, 5, none⟩ (.bool true)).heap.size = w.heap.size := by rw [World.size_setCell]; rfl
    have ho := own_lit ((w.drewN nq).setCell ⟨m, 5, none⟩ (.bool true)) w.heap.size [0, 0, 0, 0] (by rw [hz]; exact Nat.le_refl _) (by simp [maxLen])
    rw [hz] at ho
    obtain ⟨A', n', c', ev, _, _, _, hs'⟩ := ho.shapeN
    injection ev with ev1 _ _
    subst ev1
    refine ⟨w.heap.size, 4, rfl, hs', rfl, ?_, Nat.le_refl _, ?_, ?_, ?_⟩
    · intro x hx
      simp at hx
      subst hx
      constructor <;> omega
    · exact (hB2 nq).alloc _
    · exact (((below_drewN hb nq).setCell (p := ⟨m, 5, none⟩) hm (.bool true))).alloc (by rw [hz]; exact hb.size) _
    · exact grownBy_trans (hg2 nq) (World.grownBy_alloc _ _ _)
  have t0 : (0 : Int) ≤ (t : Int) := by omega
  by_cases h1 : nN ≤ t
  · have h2 : (nN : Int) ≤ (t : Int) := by omega
    clear hB hB2 hg2 hbad hb s0 tN hl hns
    go_enter Tryz.func34, Tryz.ntmps34
    go_wp2_with fail
    refine HRS.out.mono ?_
    rintro _ _ ⟨rfl, rfl⟩
    go_wp2
    go_quiet (fail)
    go_wp2
    go_ret
    exact HFIN.out nq
  · have htl : t < ns.length := by rw [hns]; omega
    obtain ⟨ad, A1, n1, c1, rfl, hb1, hc1, hl1, hn1, hs1, hi1⟩ := (tN.below hb) t htl
    have h41 : n1 ≠ 4 := by
      rcases hbad with h | h
      · omega
      · rw [List.getD_eq_getElem?_getD, List.getElem?_eq_getElem htl, Option.getD_some] at h
        omega
    have h42 : ((n1 : Int) != 4) = true := by rw [bne_iff_ne]; omega
    have h2 : (t : Int) < (nN : Int) := by omega
    clear hB hB2 hg2 hbad hb s0 tN hl hns hl1 hs1 hi1 hb1 htl
    go_enter Tryz.func34, Tryz.ntmps34
    go_wp2_with fail
    refine HRS.out.mono ?_
    rintro _ _ ⟨rfl, rfl⟩
    go_wp2
    go_quiet (fail)
    go_wp2
    go_ret
    exact HFIN.out nq
set_option maxRecDepth 100000 in
set_option maxHeartbeats 1000000 in
theorem up_no_walk (p k : Nat) [NeZero p] (K : Pk p k) (A0 : Option Addr) (n0 c0 : Nat) (l : List Int) (hl : l.length = n0) (hn0 : n0 ≤ 65536) (v2 : Value) (AN : Option Addr) (nN cN : Nat) (ns : List (List Int)) (hns : ns.length = nN) (hnN : nN ≤ 281474976710656) (w0 : World) (s0 : SL w0 A0 l) (tN : TB w0 AN ns) (m : Nat) (hm : w0.heap.size ≤ m)
    (n a : Nat) (ha : a + n ≤ 65536) (hsh : shownB l a n = false) (t : Nat) (b : Bool) (htN : t < nN) (hok : (ns.getD t []).length = 4) (w : World) (hb : Below w0.heap.size w0 w) (hB : Blk w m 85 #[vi p, .slice A0 n0 c0, v2, .slice AN nN cN, vi (t : Int), .bool b]) :
    Calls Tryz.prog 34 #[.pointer (some ⟨m, 0, none⟩), vi a, vi n] w (UpIs m (vi p) (.slice A0 n0 c0) v2 (.slice AN nN cN) w0 (fvs (els p (ns.getD t [])), (t + 1, b)) w) := by
  have hml := hB.lt
  have HRS := Lib.hid (rsome_any A0 n0 c0 l hl (by omega) a n w (s0.below hb))
  rw [hsh] at HRS
  have htl : t < ns.length := by rw [hns]; omega
  obtain ⟨ad, A1, n1, c1, rfl, hb1, hc1, hl1, hn1, hs1, hi1⟩ := (tN.below hb) t htl
  have ex : ns.getD t [] = ns[t] := by rw [List.getD_eq_getElem?_getD, List.getElem?_eq_getElem htl]; rfl
  rw [ex] at hok ⊢
  have hs1' : SL w A1 ns[t] := hs1
  obtain ⟨adt, e', hbt, hz⟩ := hs1.at_ (k := 0) (by omega)
  clear hz
  subst e'
  obtain ⟨x, hx⟩ : ∃ x, x = ns[t] := ⟨_, rfl⟩
  rw [← hx] at hok hl1 hs1 hi1 hs1' ⊢
  have hn4 : n1 = 4 := by omega
  subst hn4
  have e0 := (hB.cell 0).trans (show _ = some (vi p) from rfl)
  have e1 := (hB.cell 1).trans (show _ = some (.slice A0 n0 c0) from rfl)
  have e3 := (hB.cell 3).trans (show _ = some (.slice (some ad) nN cN) from rfl)
  have e4 := (hB.cell 4).trans (show _ = some (vi (t : Int)) from rfl)
  have f4 := hB.frozen 4
  have hB2 := fun nq => (hB.drewN nq).set_ 4 (vi ((t : Int) + 1))
  have hg2 := fun nq : Nat => grownBy_trans (show w.grownBy (w.drewN nq) (some m) from ⟨rfl, rfl, rfl, Nat.le_refl _, fun _ _ _ => rfl⟩) (blk_grown (w := w.drewN nq) (g := m) (i := 4) (u := vi ((t : Int) + 1)))
  have hbB := fun nq : Nat => (below_drewN hb nq).setCell (p := ⟨m, 4, none⟩) hm (vi ((t : Int) + 1))
  have HX : Hid (∀ nq : Nat, SL ((w.drewN nq).setCell ⟨m, 4, none⟩ (vi ((t : Int) + 1))) (some adt) x) := Lib.hid fun nq => by
    obtain ⟨ad0, A0', n0', c0', r1, r2, r3, r4, r5, r6, r7⟩ := tN t (by omega)
    injection r1 with r1
    subst r1
    have r8 := (hb.cell (p := ad.add t) r2).trans r3
    rw [hc1] at r8
    injection r8 with r8
    injection r8 with r8 _ _
    subst r8
    rw [hx]
    exact SL.keepB (B := w0.heap.size) r6 (hbB nq) (hbB nq).size
  have HALL := Lib.hid (fun nq => rall_any p K.pm (some adt) c1 x hi1 (by omega) _ (HX.out nq))
  rw [hok] at HALL
  have HB2 := Lib.hid hB2
  have HG2 := Lib.hid hg2
  have HBB := Lib.hid hbB
  have HD4 := Lib.hid (show (fvs (els p x)).length = 4 by simp [fvs, els, hok])
  have HDI : Hid (∀ j ∈ fvs (els p x), I64 j) := Lib.hid fun j hj => by
    obtain ⟨t, _, rfl⟩ := List.mem_map.1 hj
    exact i64_fv _ K.pm
  obtain ⟨d, hd⟩ : ∃ d, d = fvs (els p x) := ⟨_, rfl⟩
  rw [← hd] at HALL HD4 HDI ⊢
  have t0 : (0 : Int) ≤ (t : Int) := by omega
  have t1 : (t : Int) < (nN : Int) := by omega
  have hwr : IntKind.i64.wrap ((t : Int) + 1) = (t : Int) + 1 := IntWalk.i64_in _ (by omega)
  clear hB hB2 hg2 hbB hb s0 tN hl hns hl1 hs1 hs1' hi1 hb1 htl ex hx hd hok hsh hn1 hnN hbt hml
  go_enter Tryz.func34, Tryz.ntmps34
  go_wp2_with fail
  refine HRS.out.mono ?_
  rintro _ _ ⟨rfl, rfl⟩
  go_wp2
  go_quiet (fail)
  go_wp2_with fail
  go_quiet (fail)
  go_wp2_with fail
  refine (HALL.out _).mono ?_
  rintro _ w5 ⟨v5, rfl, ho5, hb5⟩
  obtain ⟨g5, c5, rfl, hg51, hg52⟩ := ho5.block (by rw [HD4.out]; omega)
  obtain ⟨A', n', c', ev, _, _, _, hs5⟩ := ho5.shapeN
  injection ev with ev1 ev2 ev3
  subst ev1 ev2 ev3
  rw [HD4.out]
  have hbx : Below w0.heap.size w0 w5 := Below.trans (HBB.out _) (hb5.mono (HBB.out _).size)
  have HFIN : Hid (UpIs m (vi p) (.slice A0 n0 c0) v2 (.slice (some ad) nN cN) w0 (d, (t + 1, b)) w (.returned (.slice (some ⟨g5, 0, none⟩) 4 c5)) w5) := Lib.hid
    ⟨g5, c5, rfl, hs5, HD4.out, HDI.out, by rw [World.size_setCell] at hg51; exact hg51, Blk.below (HB2.out _) hb5 (HB2.out _).lt, hbx, grownBy_trans (HG2.out _) (grownOf hb5)⟩
  clear ho5 hb5 hs5 hg51 hg52 hbx
  go_wp2
  go_ret
  exact HFIN.out
end Go.Proofs.YtijhajkakmohnaaGreatDoor

/- The walk of the reference's Climb.Up: a row that is shown; every group. -/
set_option linter.unusedVariables false
namespace Go.Proofs.YtijhajkakmohnaaGreatDoor
open Go.RowKit Zp
set_option maxRecDepth 100000 in
set_option maxHeartbeats 1000000 in
theorem up_leaf_walk (p k : Nat) [NeZero p] (PK : Pk p k) (A0 : Option Addr) (n0 c0 : Nat) (l : List Int) (hl : l.length = n0) (hn0 : n0 ≤ 65536) (hup : Asc l) (AR : Option Addr) (cR : Nat) (rs : List (List Int)) (hrs : rs.length = n0) (hR : ∀ x ∈ rs, x.length * 8 ≤ 140737488351232) (v3 : Value) (w0 : World) (s0 : SL w0 A0 l) (tR : TB w0 AR rs) (m : Nat) (hm : w0.heap.size ≤ m)
    (n : Nat) (hn1 : n = 1) (a : Nat) (ha : a + n ≤ 65536) (hsh : shownB l a n = true) (t : Nat) (b : Bool) (w : World) (hb : Below w0.heap.size w0 w) (hB : Blk w m 85 #[vi p, .slice A0 n0 c0, .slice AR n0 cR, v3, vi (t : Int), .bool b]) :
    Calls Tryz.prog 34 #[.pointer (some ⟨m, 0, none⟩), vi a, vi n] w (UpIs m (vi p) (.slice A0 n0 c0) (.slice AR n0 cR) v3 w0 (digL p k (0 :: rowAt l rs a), (t, b)) w) := by
  have hml := hB.lt
  have HRS := Lib.hid (rsome_any A0 n0 c0 l hl (by omega) a n w (s0.below hb))
  rw [hsh] at HRS
  obtain ⟨i0, hi0⟩ : ∃ i, i = lowB l a := ⟨_, rfl⟩
  obtain ⟨hil, hia⟩ := shown_one hup a (by rw [hn1] at hsh; exact hsh)
  have hlow : ∀ j, j < lowB l a → ∀ y, l[j]? = some y → y < (a : Int) := fun j hj y hy => by
    obtain ⟨hjl, rfl⟩ := List.getElem?_eq_some_iff.1 hy
    exact lowB_lt (a : Int) l j hj hjl
  rw [← hi0] at hil hia hlow
  have hir : i0 < rs.length := by omega
  obtain ⟨ad, A1, n1, c1, rfl, hb1, hc1, hl1, hn1', hs1, hi1⟩ := (tR.below hb) i0 hir
  have hrl := hR _ (List.getElem_mem hir)
  have ex : rowAt l rs a = rs[i0] := by unfold rowAt; rw [← hi0, List.getD_eq_getElem?_getD, List.getElem?_eq_getElem hir]; rfl
  rw [ex]
  generalize rs[i0] = x at hl1 hs1 hi1 hrl
  have e0 := (hB.cell 0).trans (show _ = some (vi p) from rfl)
  have e1 := (hB.cell 1).trans (show _ = some (.slice A0 n0 c0) from rfl)
  have e2 := (hB.cell 2).trans (show _ = some (.slice (some ad) n0 cR) from rfl)
  have HS0 := Lib.hid (s0.below hb)
  have HBX := Lib.hid hB
  have HBB := Lib.hid hb
  have HIA := Lib.hid hia
  have HLOW := Lib.hid hlow
  have HLL := Lib.hid hl
  have HLF := Lib.hid (fun W (hs : SL W A1 x) => rleaf_any p k PK A1 n1 c1 x hl1 hi1 (by omega) W hs)
  have HS1 := Lib.hid hs1
  have hin : i0 < n0 := by omega
  have t1 : ((n : Int) == 1) = true := by subst hn1; rfl
  have HC1 := Lib.hid hc1
  have HE := Lib.hid (And.intro e0 e2)
  clear hn1 hB hb s0 tR hl hup hrs hR hsh hil hia hlow hir hl1 hn1' hs1 hi1 hrl ex hi0 hb1 hml e0 e2 hc1
  go_enter Tryz.func34, Tryz.ntmps34
  go_wp2_with fail
  refine HRS.out.mono ?_
  rintro _ _ ⟨rfl, rfl⟩
  go_wp2_with fail
  go_loop [9] (fun i => ∃ j : Nat, j ≤ i0 ∧ i = vi j) (fun i => n0 - (intOf i).toNat)
  case atStart => exact ⟨0, Nat.zero_le _, rfl⟩
  case round =>
    obtain ⟨j, hj, rfl⟩ := hrel
    have hjn : j < n0 := by omega
    have hjl : j < l.length := by rw [HLL.out]; exact hjn
    obtain ⟨ad0, rfl, had0, hcx⟩ := HS0.out.at_ hjl
    have j1 : (0 : Int) ≤ (j : Int) := by omega
    have j2 : (j : Int) < (n0 : Int) := by omega
    by_cases hji : j < i0
    · have hx := HLOW.out j hji _ (List.getElem?_eq_getElem hjl)
      obtain ⟨y, hy⟩ : ∃ y, y = l[j] := ⟨_, rfl⟩
      rw [← hy] at hx hcx
      clear hy
      have t2 : (y == (a : Int)) = false := by rw [beq_eq_false_iff_ne]; omega
      have HJ := Lib.hid (And.intro hji hjn)
      clear hjl hj hx
      go_wp2
      go_round
      case rel => exact ⟨j + 1, by have := HJ.out.1; omega, by go_num⟩
      case measure =>
        have := HJ.out.2
        simp [intOf]; omega
    · obtain rfl : j = i0 := by omega
      have hx := HIA.out
      rw [List.getElem?_eq_getElem hjl] at hx
      injection hx with hx
      rw [hx] at hcx
      have KS : Hid (∀ W', Below w.heap.size w W' → W'.cell? ⟨m, 0, none⟩ = some (vi p) ∧ W'.cell? ⟨m, 2, none⟩ = some (.slice (some ad) n0 cR) ∧ W'.cell? (ad.add j) = some (.slice A1 n1 c1)) := Lib.hid fun W' hb => by
        have hq := Blk.below HBX.out hb HBX.out.lt
        exact ⟨(hq.cell 0).trans rfl, (hq.cell 2).trans rfl, (hb.cell (p := ad.add j) (block_lt_of_cell HC1.out)).trans HC1.out⟩
      have hbd : Below w.heap.size w w.drew := below_drewN (Below.refl _ _) 1
      clear hjl hx hj
      go_wp2_with fail
      refine wp_region_held_drew (S := fun W' => W'.cell? ⟨m, 0, none⟩ = some (vi p) ∧ W'.cell? ⟨m, 2, none⟩ = some (.slice (some ad) n0 cR) ∧ W'.cell? (ad.add j) = some (.slice A1 n1 c1)) (by kernel_rfl) (KS.out _ hbd) (fun hHeld => ?_)
      refine wpAnyH_take_at (i := 0) rfl rfl (by kernel_rfl) (by kernel_rfl) (by kernel_rfl) (fun _ _ _ h => h) (Or.inl ⟨by rfl, by (intro w hSw; (try dsimp only at hSw); go_simp; try with_reducible rfl)⟩) (by assumption) ?_
      (try simp only [Act.put, List.setIfInBounds_toArray, List.set_cons_zero, List.set_cons_succ])
      refine wpAnyH_take_at (i := 1) rfl rfl (by kernel_rfl) (by kernel_rfl) (by kernel_rfl) (fun _ _ _ h => h) (Or.inl ⟨by rfl, by (intro w hSw; (try dsimp only at hSw); go_simp; try with_reducible rfl)⟩) (by assumption) ?_
      (try simp only [Act.put, List.setIfInBounds_toArray, List.set_cons_zero, List.set_cons_succ])
      refine wpAnyH_take_at (i := 2) rfl rfl (by kernel_rfl) (by kernel_rfl) (by kernel_rfl) (fun _ _ _ h => h) (Or.inl ⟨by rfl, by (intro w hSw; (try dsimp only at hSw); go_simp; try with_reducible rfl)⟩) (by assumption) ?_
      (try simp only [Act.put, List.setIfInBounds_toArray, List.set_cons_zero, List.set_cons_succ])
      refine wpAnyH_take_at (i := 3) rfl rfl (by kernel_rfl) (by kernel_rfl) (by kernel_rfl) (fun _ _ _ h => h) (Or.inl ⟨by rfl, by (intro w hSw; (try dsimp only at hSw); go_simp; try with_reducible rfl)⟩) (by assumption) ?_
      (try simp only [Act.put, List.setIfInBounds_toArray, List.set_cons_zero, List.set_cons_succ])
      refine wpAnyH_take_at (i := 4) rfl rfl (by kernel_rfl) (by kernel_rfl) (by kernel_rfl) (fun _ _ _ h => h) (Or.inl ⟨by rfl, by (intro w hSw; (try dsimp only at hSw); go_simp; try with_reducible rfl)⟩) (by assumption) ?_
      (try simp only [Act.put, List.setIfInBounds_toArray, List.set_cons_zero, List.set_cons_succ])
      refine wpAnyH_take_at (i := 5) rfl rfl (by kernel_rfl) (by kernel_rfl) (by kernel_rfl) (fun _ _ _ h => h) (Or.inl ⟨by rfl, by (intro w hSw; (try dsimp only at hSw); go_simp; try with_reducible rfl)⟩) (by assumption) ?_
      (try simp only [Act.put, List.setIfInBounds_toArray, List.set_cons_zero, List.set_cons_succ])
      refine wpAnyH_take_at (i := 6) rfl rfl (by kernel_rfl) (by kernel_rfl) (by kernel_rfl) (fun _ _ _ h => h) (Or.inl ⟨by rfl, by (intro w hSw; (try dsimp only at hSw); go_simp; try with_reducible rfl)⟩) (by assumption) ?_
      (try simp only [Act.put, List.setIfInBounds_toArray, List.set_cons_zero, List.set_cons_succ])
      refine wpAnyH_take_at (i := 7) rfl rfl (by kernel_rfl) (by kernel_rfl) (by kernel_rfl) (fun _ _ _ h => h) (Or.inl ⟨by rfl, by (intro w hSw; (try dsimp only at hSw); go_simp; try with_reducible rfl)⟩) (by assumption) ?_
      (try simp only [Act.put, List.setIfInBounds_toArray, List.set_cons_zero, List.set_cons_succ])
      refine wpAnyH_take_at (i := 8) rfl rfl (by kernel_rfl) (by kernel_rfl) (by kernel_rfl) (fun _ _ _ h => h) (Or.inl ⟨by rfl, by (intro w hSw; (try dsimp only at hSw); go_simp; try with_reducible rfl)⟩) (by assumption) ?_
      (try simp only [Act.put, List.setIfInBounds_toArray, List.set_cons_zero, List.set_cons_succ])
      refine wpAnyH_take_at (i := 9) rfl rfl (by kernel_rfl) (by kernel_rfl) (by kernel_rfl) (fun _ _ _ h => h) (Or.inl ⟨by rfl, by (intro w hSw; (try dsimp only at hSw); go_simp; try with_reducible rfl)⟩) (by assumption) ?_
      (try simp only [Act.put, List.setIfInBounds_toArray, List.set_cons_zero, List.set_cons_succ])
      refine wpAnyH_take_at (i := 10) rfl rfl (by kernel_rfl) (by kernel_rfl) (by kernel_rfl) (fun _ _ _ h => h) (Or.inl ⟨by rfl, by (intro w hSw; (try dsimp only at hSw); go_simp; try with_reducible rfl)⟩) (by assumption) ?_
      (try simp only [Act.put, List.setIfInBounds_toArray, List.set_cons_zero, List.set_cons_succ])
      refine wpAnyH_ready (rs := [11]) (by kernel_rfl) (by simp) ?_
      refine AllReadyH.cons rfl (fun K hK => ?_) AllReadyH.nil
      go_simp
      refine (HLF.out _ (HS1.out.below hbd)).mono ?_
      rintro _ w5 ⟨g, cap, cs, rfl, h1, h2, h3, h4, h5, h6⟩
      have hb5 := hbd.trans (h6.mono hbd.size)
      have HFIN : Hid (UpIs m (vi p) (.slice (some ad0) n0 c0) (.slice (some ad) n0 cR) v3 w0 (digL p k (0 :: x), (t, b)) w (.returned (.slice (some ⟨g, 0, none⟩) 4 cap)) w5) := Lib.hid
        ⟨g, cap, rfl, h3, digL_len _ _, i64_digL PK.pm _, h5, Blk.below HBX.out hb5 HBX.out.lt, HBB.out.trans (hb5.mono HBB.out.size), grownOf hb5⟩
      clear h1 h2 h3 h4 h5 h6
      refine hK.out _ _ (by (first | exact KS.out _ (by assumption) | (simp only [Act.put]; exact KS.out _ (by assumption)))) (fun hHeld => ?_)
      clear hK K
      (try simp only [Act.put, List.setIfInBounds_toArray, List.set_cons_zero, List.set_cons_succ])
      refine wpAnyH_ready (rs := [12]) (by kernel_rfl) (by simp) ?_
      refine AllReadyH.cons rfl (fun K hK => ?_) AllReadyH.nil
      go_simp
      refine hK.out _ _ (KS.out _ hb5) (fun hHeld => ?_)
      clear hK K
      (try simp only [Act.put, List.setIfInBounds_toArray, List.set_cons_zero, List.set_cons_succ])
      refine wpAnyH_done (by kernel_rfl) ?_ _
      clear hHeld
      go_wp2
      go_ret
      exact HFIN.out
end Go.Proofs.YtijhajkakmohnaaGreatDoor

/- The walk of the reference's Climb.Up, at every group. -/
set_option linter.unusedVariables false
namespace Go.Proofs.YtijhajkakmohnaaGreatDoor
open Go.RowKit Zp
theorem up_le {H E : List Int → List Int} {row : Nat → List Int} {places : List Int} {nodes : List (List Int)} : ∀ (n a : Nat) (st : Nat × Bool), st.1 ≤ nodes.length → (upD H E row places nodes a n st).2.1 ≤ nodes.length := by
  intro n
  induction n using Nat.strongRecOn with
  | ind n ih =>
    intro a st h
    by_cases hs : shownB places a n = true
    · by_cases h2 : 2 ≤ n
      · have hl := leftN_lt h2
        rw [upD_two H E row places nodes st hs h2]
        exact ih _ (by omega) _ _ (ih _ (by omega) _ _ h)
      · rw [upD_one H E row places nodes st hs h2]; exact h
    · have hs' : shownB places a n = false := by simpa using hs
      by_cases hb : nodes.length ≤ st.1 ∨ (nodes.getD st.1 []).length ≠ 4
      · rw [upD_bad H E row places nodes st hs' hb]; exact h
      · rw [upD_no H E row places nodes st hs' hb]
        show st.1 + 1 ≤ nodes.length
        omega
set_option maxRecDepth 100000 in
set_option maxHeartbeats 1000000 in
theorem up_any (p k : Nat) [NeZero p] (PK : Pk p k) (A0 : Option Addr) (n0 c0 : Nat) (l : List Int) (hl : l.length = n0) (hn0 : n0 ≤ 65536) (hup : Asc l) (AR : Option Addr) (cR : Nat) (rs : List (List Int)) (hrs : rs.length = n0) (hR : ∀ x ∈ rs, x.length * 8 ≤ 140737488351232)
    (AN : Option Addr) (nN cN : Nat) (ns : List (List Int)) (hns : ns.length = nN) (hnN : nN ≤ 281474976710656) (w0 : World) (s0 : SL w0 A0 l) (tR : TB w0 AR rs) (tN : TB w0 AN ns) (m : Nat) (hm : w0.heap.size ≤ m) :
    ∀ (n a : Nat), 1 ≤ n → a + n ≤ 65536 → ∀ (t : Nat) (b : Bool), t ≤ nN → ∀ (w : World), Below w0.heap.size w0 w → Blk w m 85 #[vi p, .slice A0 n0 c0, .slice AR n0 cR, .slice AN nN cN, vi (t : Int), .bool b] →
    Calls Tryz.prog 34 #[.pointer (some ⟨m, 0, none⟩), vi a, vi n] w (UpIs m (vi p) (.slice A0 n0 c0) (.slice AR n0 cR) (.slice AN nN cN) w0 (upD (digL p k) (fun x => fvs (els p x)) (rowAt l rs) l ns a n (t, b)) w) := by
  intro n
  induction n using Nat.strongRecOn with
  | ind n ih =>
    intro a h1 ha t b ht w hb hB
    by_cases hsh : shownB l a n = true
    · by_cases h2 : 2 ≤ n
      · have hlf := leftN_lt h2
        have hml := hB.lt
        obtain ⟨r1, hr1⟩ : ∃ r1, r1 = upD (digL p k) (fun x => fvs (els p x)) (rowAt l rs) l ns a (leftN n) (t, b) := ⟨_, rfl⟩
        obtain ⟨r2, hr2⟩ : ∃ r2, r2 = upD (digL p k) (fun x => fvs (els p x)) (rowAt l rs) l ns (a + leftN n) (n - leftN n) r1.2 := ⟨_, rfl⟩
        have ht1 : r1.2.1 ≤ nN := by rw [hr1, ← hns]; exact up_le _ _ _ (by rw [hns]; exact ht)
        rw [upD_two _ _ _ _ _ _ hsh h2, ← hr1, ← hr2]
        obtain ⟨j, hj⟩ : ∃ j, j = leftN n := ⟨_, rfl⟩
        have HRS := Lib.hid (rsome_any A0 n0 c0 l hl (by omega) a n w (s0.below hb))
        rw [hsh] at HRS
        have hlc := fun w => rleft_any n h2 (by omega) w
        rw [← hj] at hlc
        have HLC := Lib.hid hlc
        have hi1 := ih (leftN n) (by omega) a (by omega) (by omega) t b ht w hb hB
        rw [← hr1, ← hj] at hi1
        have HI1 := Lib.hid hi1
        have HI2 : Hid (∀ w, Below w0.heap.size w0 w → Blk w m 85 #[vi p, .slice A0 n0 c0, .slice AR n0 cR, .slice AN nN cN, vi (r1.2.1 : Int), .bool r1.2.2] →
            Calls Tryz.prog 34 #[.pointer (some ⟨m, 0, none⟩), vi ((a : Int) + (j : Int)), vi ((n : Int) - (j : Int))] w (UpIs m (vi p) (.slice A0 n0 c0) (.slice AR n0 cR) (.slice AN nN cN) w0 r2 w)) := Lib.hid (fun W hb hB => by
          have h := ih (n - leftN n) (by omega) (a + leftN n) (by omega) (by omega) r1.2.1 r1.2.2 ht1 W hb hB
          rw [show ((r1.2.1, r1.2.2) : Nat × Bool) = r1.2 from rfl, ← hr2, ← hj, show ((n - j : Nat) : Int) = (n : Int) - (j : Int) by omega, Int.natCast_add] at h
          exact h)
        have e0 := (hB.cell 0).trans (show _ = some (vi p) from rfl)
        have e1 := (hB.cell 1).trans (show _ = some (.slice A0 n0 c0) from rfl)
        have HB := Lib.hid hB
        have HBW := Lib.hid hb
        have t1 : ((n : Int) == 1) = false := by simp; omega
        rw [← hj] at hlf
        obtain ⟨hj1, hj2, hj3⟩ := hlf
        clear hr1 hr2 hj hlc hi1 ih hB hb s0 tR tN hl hup hrs hR hns hnN hsh ht ht1
        go_enter Tryz.func34, Tryz.ntmps34
        go_wp2_with fail
        refine HRS.out.mono ?_
        rintro _ _ ⟨rfl, rfl⟩
        go_wp2_with fail
        refine (HLC.out _).mono ?_
        rintro _ _ ⟨rfl, rfl⟩
        go_wp2_with fail
        refine HI1.out.mono ?_
        rintro _ w1 ⟨g1, c1, rfl, s1, l1, i1, n1, B1, b1, gr1⟩
        have HX1 := Lib.hid (And.intro s1 (And.intro l1 i1))
        have HR2 := Lib.hid (HI2.out w1 b1 B1)
        have hgm : g1 ≠ m := by omega
        have HG1 := Lib.hid (And.intro gr1 n1)
        clear e0 e1 s1 l1 i1 n1 B1 b1 gr1
        go_wp2_with fail
        refine HR2.out.mono ?_
        rintro _ w2 ⟨g2, c2, rfl, s2, l2, i2, n2, B2, b2, gr2⟩
        have hs1 := HX1.out.1.far gr2 hgm
        have HN := Lib.hid (rnode_any p k PK (some ⟨g1, 0, none⟩) (some ⟨g2, 0, none⟩) 4 4 c1 c2 r1.1 r2.1 HX1.out.2.1 l2 (by omega) (by omega) HX1.out.2.2 i2 w2 hs1 s2)
        have e0 := (B2.cell 0).trans (show _ = some (vi p) from rfl)
        have HX2 := Lib.hid (And.intro B2 (And.intro b2 (grownBy_trans HG1.out.1 gr2)))
        clear hs1 s2 l2 i2 n2 B2 b2 gr2
        go_wp2_with fail
        refine HN.out.mono ?_
        rintro _ w3 ⟨g, cap, cs, rfl, h1, h2, h3, h4, h5, h6⟩
        have HFIN : Hid (UpIs m (vi p) (.slice A0 n0 c0) (.slice AR n0 cR) (.slice AN nN cN) w0 (digL p k (1 :: (r1.1 ++ r2.1)), r2.2) w (.returned (.slice (some ⟨g, 0, none⟩) 4 cap)) w3) := Lib.hid
          ⟨g, cap, rfl, h3, digL_len _ _, i64_digL PK.pm _, Nat.le_trans HX2.out.2.2.size h5, Blk.below HX2.out.1 h6 HX2.out.1.lt, HX2.out.2.1.trans (h6.mono HX2.out.2.1.size), grownBy_trans HX2.out.2.2 (grownOf h6)⟩
        clear h1 h2 h3 h4 h5 h6 e0
        go_wp2
        go_ret
        exact HFIN.out
      · have e : n = 1 := by omega
        rw [upD_one _ _ _ _ _ _ hsh h2]
        exact up_leaf_walk p k PK A0 n0 c0 l hl hn0 hup AR cR rs hrs hR (.slice AN nN cN) w0 s0 tR m hm n e a ha hsh t b w hb hB
    · have hs' : shownB l a n = false := by simpa using hsh
      by_cases hbad : ns.length ≤ t ∨ (ns.getD t []).length ≠ 4
      · rw [upD_bad _ _ _ _ _ _ hs' hbad]
        exact up_bad_walk p k PK A0 n0 c0 l hl hn0 (.slice AR n0 cR) AN nN cN ns hns hnN w0 s0 tN m hm n a ha hs' t b ht hbad w hb hB
      · rw [upD_no _ _ _ _ _ _ hs' hbad]
        exact up_no_walk p k PK A0 n0 c0 l hl hn0 (.slice AR n0 cR) AN nN cN ns hns hnN w0 s0 tN m hm n a ha hs' t b (by omega) (by omega) w hb hB
end Go.Proofs.YtijhajkakmohnaaGreatDoor

/- Plain: the document's check of an Opening is the program's. And the walk of the reference's Check. -/
set_option linter.unusedVariables false
namespace Go.Proofs.YtijhajkakmohnaaGreatDoor
open Go.RowKit Zp
theorem digL_congr {p k : Nat} [NeZero p] {l m : List Int} (h : els p l = els p m) : digL p k l = digL p k m := by
  have hl : l.length = m.length := by simpa [els] using congrArg List.length h
  unfold digL digE padE
  rw [h, hl]
theorem digL_row {p k : Nat} [NeZero p] (x : List Int) : digL p k (0 :: fvs (els p x)) = digL p k (0 :: x) := digL_congr (by
  show el p 0 :: els p (fvs (els p x)) = el p 0 :: els p x
  rw [els_fvs])
theorem climb_rows {H E : List Int → List Int} {r r' : Nat → List Int} (h : ∀ a, H (0 :: r a) = H (0 :: r' a)) (places : List Int) : ∀ (n a : Nat) (ns : List (List Int)), climbD H E r places a n ns = climbD H E r' places a n ns := by
  intro n
  induction n using Nat.strongRecOn with
  | ind n ih =>
    intro a ns
    by_cases hs : shownB places a n = true
    · by_cases h2 : 2 ≤ n
      · have hl := leftN_lt h2
        rw [climb_two H E r places ns hs h2, climb_two H E r' places ns hs h2, ih _ (by omega), ih _ (by omega)]
      · rw [climbD, if_pos hs, dif_neg h2, climbD, if_pos hs, dif_neg h2, h a]
    · rw [climbD, if_neg hs, climbD, if_neg hs]
/-- numbers that are elements -/
def Canon (p : Nat) [NeZero p] (l : List Int) : Prop := fvs (els p l) = l
theorem canon_fvs {p : Nat} [NeZero p] (l : List (Fin p)) : Canon p (fvs l) := by unfold Canon; rw [els_fvs]
theorem canon_digL {p k : Nat} [NeZero p] (l : List Int) : Canon p (digL p k l) := by
  have e : digL p k l = fvs ((List.range 4).map fun j => digE p k l j) := by simp [digL, fvs]
  rw [e]; exact canon_fvs _
theorem climb_canon {p k : Nat} [NeZero p] (r : Nat → List Int) (places : List Int) (n a : Nat) (ns : List (List Int)) : Canon p (climbD (digL p k) (fun x => fvs (els p x)) r places a n ns).1 := by
  rw [climbD]
  split
  · split
    · exact canon_digL _
    · exact canon_digL _
  · exact canon_fvs _
/-- what the document says of an Opening, its places in order -/
def refOk (p k : Nat) [NeZero p] (l : List Int) (rs ns : List (List Int)) (top : List Int) (n : Nat) : Bool :=
  sameE p (upD (digL p k) (fun x => fvs (els p x)) (rowAt l rs) l ns 0 n (0, false)).1 top && !(upD (digL p k) (fun x => fvs (els p x)) (rowAt l rs) l ns 0 n (0, false)).2.2 && decide ((upD (digL p k) (fun x => fvs (els p x)) (rowAt l rs) l ns 0 n (0, false)).2.1 = ns.length)
theorem refOk_taken {p k : Nat} [NeZero p] {l : List Int} {rs ns : List (List Int)} {top : List Int} {n : Nat} (h1 : 1 ≤ n) (h2 : n ≤ 65536) (ht : top.length = 4) (hr : rs.length = l.length) (ho : OkP l n) : refOk p k l rs ns top n = takenB p k l rs ns top n := by
  unfold refOk
  rw [up_taken (digL p k) (fun x => fvs (els p x)) (rowAt l rs) l ns (fun d => sameE p d top) n h1]
  have hc : climbD (digL p k) (fun x => fvs (els p x)) (fun i => fvs (els p (rowAt l rs i))) l 0 n ns = climbD (digL p k) (fun x => fvs (els p x)) (rowAt l rs) l 0 n ns := climb_rows (fun a => digL_row _) l n 0 ns
  have hk := climb_canon (k := k) (rowAt l rs) l n 0 ns (p := p)
  rw [Bool.eq_iff_iff, takenB_iff]
  unfold TakenP
  rw [Int.toNat_natCast, hc]
  generalize (climbD (digL p k) (fun x => fvs (els p x)) (rowAt l rs) l 0 n ns).1 = d at hk
  simp only [Bool.and_eq_true, decide_eq_true_eq, List.all_eq_true, sameE, eqB]
  rw [hk]
  constructor
  · rintro ⟨⟨h3, h4⟩, h5⟩
    exact ⟨⟨by omega, by omega⟩, ht, hr, ho, h3, h4, h5⟩
  · rintro ⟨_, _, _, _, h3, h4, h5⟩
    exact ⟨⟨h3, h4⟩, h5⟩
set_option maxHeartbeats 1000000 in
theorem rcheck_no (p : Int) (AT : Option Addr) (nT cT : Nat) (n : Int) (A0 : Option Addr) (n0 c0 : Nat) (AR : Option Addr) (nR cR : Nat) (v3 : Value) (hT : nT ≤ 9223372036854775807) (h0 : n0 ≤ 9223372036854775807) (hR : nR ≤ 9223372036854775807)
    (h : ¬ (1 ≤ n ∧ n ≤ 65536) ∨ nT ≠ 4 ∨ nR ≠ n0) (w : World) :
    Calls Tryz.prog 10 #[vi p, .slice AT nT cT, vi n, .slice A0 n0 c0, .slice AR nR cR, v3] w fun e w' => e = .returned (.bool false) ∧ w = w' := by
  by_cases h1 : 1 ≤ n
  · by_cases h2 : n ≤ 65536
    · by_cases h3 : nR = n0
      · have h4 : nT ≠ 4 := by
          rcases h with h | h | h
          · exact absurd ⟨h1, h2⟩ h
          · exact h
          · exact absurd h3 h
        have t1 : ((nT : Int) != 4) = true := by rw [bne_iff_ne]; omega
        subst h3
        clear h h4
        go_enter Tryz.func10, Tryz.ntmps10
        go_wp2
        go_ret
        exact ⟨rfl, rfl⟩
      · have t1 : ((nR : Int) != (n0 : Int)) = true := by rw [bne_iff_ne]; omega
        clear h h3
        go_enter Tryz.func10, Tryz.ntmps10
        go_wp2
        go_ret
        exact ⟨rfl, rfl⟩
    · have t1 : 65536 < n := by omega
      clear h h2
      go_enter Tryz.func10, Tryz.ntmps10
      go_wp2
      go_ret
      exact ⟨rfl, rfl⟩
  · have t1 : n < 1 := by omega
    clear h h1
    go_enter Tryz.func10, Tryz.ntmps10
    go_wp2
    go_ret
    exact ⟨rfl, rfl⟩
/-- what the document's check says -/
def RCheckIs (b : Bool) (w : World) (e : Ending) (w' : World) : Prop := e = .returned (.bool b) ∧ Below w.heap.size w w'
set_option maxRecDepth 100000 in
set_option maxHeartbeats 2000000 in
theorem rcheck_yes (p k : Nat) [NeZero p] (PK : Pk p k) (AT : Option Addr) (cT : Nat) (top : List Int) (hT : top.length = 4) (hTI : ∀ x ∈ top, I64 x) (N : Nat) (hN1 : 1 ≤ N) (hN2 : N ≤ 65536)
    (A0 : Option Addr) (n0 c0 : Nat) (l : List Int) (hl : l.length = n0) (hn0 : n0 ≤ 281474976710656) (AR : Option Addr) (cR : Nat) (rs : List (List Int)) (hrs : rs.length = n0) (hR : ∀ x ∈ rs, x.length * 8 ≤ 140737488351232)
    (AN : Option Addr) (nN cN : Nat) (ns : List (List Int)) (hns : ns.length = nN) (hnN2 : nN ≤ 281474976710656)
    (w : World) (sT : SL w AT top) (s0 : SL w A0 l) (tR : TB w AR rs) (tN : TB w AN ns) :
    Calls Tryz.prog 10 #[vi p, .slice AT 4 cT, vi N, .slice A0 n0 c0, .slice AR n0 cR, .slice AN nN cN] w (RCheckIs (takenB p k l rs ns top N) w) := by
  have HL := Lib.hid hl
  have HT := Lib.hid (And.intro hT hTI)
  have HRS := Lib.hid (And.intro hrs hR)
  have HNS := Lib.hid (And.intro hns hnN2)
  have HST := Lib.hid sT
  have HS0 := Lib.hid s0
  have HTR := Lib.hid tR
  have HTN := Lib.hid tN
  have hn1' : (1 : Int) ≤ (N : Int) := by omega
  have hn2' : (N : Int) ≤ 65536 := by omega
  have HN0 := Lib.hid hn0
  clear hl hT hTI hrs hR hns hnN2 sT s0 tR tN hn0
  go_enter Tryz.func10, Tryz.ntmps10
  go_wp2
  go_loopw [13] (fun i wr => ∃ j nq : Nat, j ≤ n0 ∧ i = vi j ∧ PreOk l N j ∧ wr = w.drewN nq) (fun i _ => n0 - (intOf i).toNat)
  case atStart => exact ⟨0, 0, Nat.zero_le _, rfl, PreOk.zero _ _, rfl⟩
  case round =>
    obtain ⟨j, nq, hj, rfl, hok, rfl⟩ := hrel
    have HOK := Lib.hid hok
    clear hok
    by_cases hlt : j < n0
    · have hjl : j < l.length := by rw [HL.out]; exact hlt
      obtain ⟨ad, rfl, had, hcx⟩ := (HS0.out.drewN nq).at_ hjl
      have j1 : (0 : Int) ≤ (j : Int) := by omega
      have j2 : (j : Int) < (n0 : Int) := by omega
      rw [World.cell?_drewN] at hcx
      by_cases c1 : l[j] < 0
      · have HNO : Hid (¬ TakenP p k l rs ns top N) := Lib.hid (fun g => not_okP_low hjl c1 g.2.2.2.1)
        generalize l[j] = x at c1 hcx
        have t1 : decide (x < 0) = true := decide_eq_true c1
        clear hjl had c1
        go_wp2
        go_big_quiet (fail)
        go_wp2
        go_ret
        exact ⟨ret_bool (takenB_false HNO.out).symm, below_drewN (below_drewN (Below.refl _ _) _) _⟩
      · by_cases c2 : (N : Int) ≤ l[j]
        · have HNO : Hid (¬ TakenP p k l rs ns top N) := Lib.hid (fun g => not_okP_high hjl c2 g.2.2.2.1)
          generalize l[j] = x at c1 c2 hcx
          have t1 : decide (x < 0) = false := decide_eq_false c1
          have t2 : decide ((N : Int) ≤ x) = true := decide_eq_true c2
          clear hjl had c1 c2
          go_wp2
          go_big_quiet (fail)
          go_wp2
          go_ret
          exact ⟨ret_bool (takenB_false HNO.out).symm, below_drewN (below_drewN (Below.refl _ _) _) _⟩
        · cases j with
          | zero =>
            have HOK2 := Lib.hid (HOK.out.first hjl ⟨by omega, by omega⟩)
            rw [show ad.add 0 = ad by simp [Addr.add]] at hcx
            generalize l[0] = x at c1 c2 hcx
            have t1 : decide (x < 0) = false := decide_eq_false c1
            have t2 : decide ((N : Int) ≤ x) = false := decide_eq_false c2
            clear hjl had c1 c2
            go_wp2
            go_big_quiet (fail)
            go_wp2
            go_roundw
            case rel => exact ⟨1, _, by omega, by go_num, HOK2.out, rfl⟩
            case measure => simp [intOf]; omega
          | succ j =>
            have hjl2 : j < l.length := by omega
            rw [show ((j + 1 : Nat) : Int) = (j : Int) + 1 from rfl]
            obtain ⟨ad2, e2, _, hcy⟩ := (HS0.out.drewN nq).at_ hjl2
            rw [World.cell?_drewN] at hcy
            injection e2 with e2
            subst e2
            rw [show ad.add (j + 1) = ⟨ad.block, ad.off + (j + 1), none⟩ by simp [Addr.add]] at hcx
            have j3 : (j : Int) < (n0 : Int) := by omega
            have j4 : (0 : Int) ≤ (j : Int) := by omega
            have j6 : (0 : Int) ≤ (j : Int) + 1 := by omega
            have j7 : (j : Int) + 1 < (n0 : Int) := by omega
            have j8 : (0 : Int) < (j : Int) + 1 := by omega
            have hwr : IntKind.i64.wrap ((j : Int) + 1) = (j : Int) + 1 := IntWalk.i64_in _ (by have := HN0.out; omega)
            have hw6 : wrap64 (j : Int) = (j : Int) := IntWalk.wrap64_in _ (by have := HN0.out; omega)
            have hw7 : wrap64 ((j : Int) + 1 + 1) = (j : Int) + 1 + 1 := IntWalk.wrap64_in _ (by have := HN0.out; omega)
            have hw8 : IntKind.i64.wrap ((j : Int) + 1 + 1) = (j : Int) + 1 + 1 := IntWalk.i64_in _ (by have := HN0.out; omega)
            have HJ2 := Lib.hid (And.intro hjl (And.intro hj hlt))
            by_cases c3 : l[j + 1] ≤ l[j]
            · have HNO : Hid (¬ TakenP p k l rs ns top N) := Lib.hid (fun g => not_okP_step hjl c3 g.2.2.2.1)
              generalize l[j + 1] = x at c1 c2 c3 hcx
              generalize l[j] = x' at c3 hcy
              have t1 : decide (x < 0) = false := decide_eq_false c1
              have t2 : decide ((N : Int) ≤ x) = false := decide_eq_false c2
              have t3 : decide ((0 : Int) < (j : Int) + 1) = true := decide_eq_true j8
              have t4 : decide (x ≤ x') = true := decide_eq_true c3
              clear hjl hjl2 j1 j2 hj hlt had c1 c2 c3
              go_wp2
              go_big_quiet (fail)
              go_wp2
              go_ret
              exact ⟨ret_bool (takenB_false HNO.out).symm, below_drewN (below_drewN (Below.refl _ _) _) _⟩
            · have HOK2 := Lib.hid (HOK.out.next hjl ⟨by omega, by omega⟩ (by omega))
              generalize l[j + 1] = x at c1 c2 c3 hcx
              generalize l[j] = x' at c3 hcy
              have t1 : decide (x < 0) = false := decide_eq_false c1
              have t2 : decide ((N : Int) ≤ x) = false := decide_eq_false c2
              have t3 : decide ((0 : Int) < (j : Int) + 1) = true := decide_eq_true j8
              have t4 : decide (x ≤ x') = false := decide_eq_false c3
              clear hjl hjl2 j1 j2 hj hlt had c1 c2 c3
              go_wp2
              go_big_quiet (fail)
              go_wp2
              go_roundw
              case rel => exact ⟨j + 1 + 1, _, by have := HJ2.out; omega, by go_num, HOK2.out, rfl⟩
              case measure =>
                have := HJ2.out
                simp [intOf]; omega
    · obtain rfl : j = n0 := by omega
      have HUP := Lib.hid (HOK.out.done (by rw [HL.out]; exact Nat.le_refl _))
      have hlN := HUP.out.1.len HUP.out.2
      have hjN : j ≤ 65536 := by rw [← HL.out]; omega
      have hb1 : Below w.heap.size w ((w.drewN nq).alloc (.cells #[vi p, .slice A0 j c0, .slice AR j cR, .slice AN nN cN, vi 0, .bool false] 85)) := (below_drewN (Below.refl _ _) nq).alloc (Nat.le_refl _) _
      have hB1 : Blk ((w.drewN nq).alloc (.cells #[vi p, .slice A0 j c0, .slice AR j cR, .slice AN nN cN, vi 0, .bool false] 85)) w.heap.size 85 #[vi p, .slice A0 j c0, .slice AR j cR, .slice AN nN cN, vi 0, .bool false] := Blk.new (w.drewN nq) _ _
      have hup := up_any p k PK A0 j c0 l HL.out hjN HUP.out.1 AR cR rs HRS.out.1 HRS.out.2 AN nN cN ns HNS.out.1 HNS.out.2 w HS0.out HTR.out HTN.out w.heap.size (Nat.le_refl _) N 0 hN1 (by omega) 0 false (Nat.zero_le _) _ hb1 hB1
      have href := refOk_taken (p := p) (k := k) (ns := ns) hN1 hN2 HT.out.1 (show rs.length = l.length by rw [HRS.out.1, HL.out]) HUP.out
      unfold refOk at href
      obtain ⟨⟨d, ⟨t, b⟩⟩, hr⟩ : ∃ r, r = upD (digL p k) (fun x => fvs (els p x)) (rowAt l rs) l ns 0 N (0, false) := ⟨_, rfl⟩
      rw [← hr] at hup href
      have HUPC := Lib.hid hup
      have HREF := Lib.hid href
      have HBB := Lib.hid hb1
      clear hup href hr hb1 hB1 hlN hjN hj hlt
      go_wp2_with fail
      refine HUPC.out.mono ?_
      rintro _ w1 ⟨g, c, rfl, s1, l1, i1, n1, B1, b1, gr1⟩
      have hsm := rsame_any p PK.pm (some ⟨g, 0, none⟩) AT 4 4 c cT d top l1 HT.out.1 (by omega) (by omega) i1 HT.out.2 w1 s1 (HST.out.below b1)
      have e4 := (B1.cell 4).trans (show _ = some (vi (t : Int)) from rfl)
      have e5 := (B1.cell 5).trans (show _ = some (.bool b) from rfl)
      have HSM := Lib.hid hsm
      have HB1 := Lib.hid b1
      have hnsl := HNS.out.1
      obtain ⟨sm, hsmE⟩ : ∃ sm, sm = sameE p d top := ⟨_, rfl⟩
      rw [← hsmE] at HSM HREF
      rw [hnsl] at HREF
      clear hsm b1 s1 l1 i1 n1 B1 gr1 hsmE hnsl
      cases sm
      · have HR : Hid (takenB p k l rs ns top N = false) := Lib.hid (by rw [← HREF.out]; simp)
        go_wp2_with fail
        refine HSM.out.mono ?_
        rintro _ _ ⟨rfl, rfl⟩
        go_wp2
        go_ret
        exact ⟨ret_bool HR.out.symm, HB1.out⟩
      · cases b
        · by_cases htn : t = nN
          · have HR : Hid (takenB p k l rs ns top N = true) := Lib.hid (by rw [← HREF.out]; simp [htn])
            subst htn
            go_wp2_with fail
            refine HSM.out.mono ?_
            rintro _ _ ⟨rfl, rfl⟩
            go_wp2
            go_ret
            exact ⟨ret_bool HR.out.symm, HB1.out⟩
          · have HR : Hid (takenB p k l rs ns top N = false) := Lib.hid (by rw [← HREF.out]; simp [htn])
            have t1 : ((t : Int) == (nN : Int)) = false := by rw [beq_eq_false_iff_ne]; omega
            clear htn
            go_wp2_with fail
            refine HSM.out.mono ?_
            rintro _ _ ⟨rfl, rfl⟩
            go_wp2
            go_ret
            exact ⟨ret_bool HR.out.symm, HB1.out⟩
        · have HR : Hid (takenB p k l rs ns top N = false) := Lib.hid (by rw [← HREF.out]; simp)
          go_wp2_with fail
          refine HSM.out.mono ?_
          rintro _ _ ⟨rfl, rfl⟩
          go_wp2
          go_ret
          exact ⟨ret_bool HR.out.symm, HB1.out⟩
end Go.Proofs.YtijhajkakmohnaaGreatDoor

/- The walk of the law TreeChecks. -/
set_option linter.unusedVariables false
namespace Go.Proofs.YtijhajkakmohnaaGreatDoor
open Go.RowKit Zp
/-- whatever Opening comes in -/
theorem follow_any (p S b s k z : Nat) [NeZero p] (oo : Nat → Nat → Fin p) (AT : Option Addr) (nT cT : Nat) (top : List Int) {w0 : World} (hT : ArgS w0 AT nT cT top) (n : Int)
    {A0 : Option Addr} {n0 c0 : Nat} {l : List Int} {AR : Option Addr} {nR cR : Nat} {rs : List (List Int)} {AN : Option Addr} {nN cN : Nat} {ns : List (List Int)} (w : World) (F : Fld w S b p) (G : Spg w s b k z oo) (sT : SL w AT top) (hx : OpnAt w A0 n0 c0 l AR nR cR rs AN nN cN ns) :
    Calls Tryz.prog 33 #[.pointer (some ⟨s, 0, none⟩), .slice AT nT cT, vi n, .agg #[.slice A0 n0 c0, .slice AR nR cR, .slice AN nN cN]] w (FollowIs p k l rs ns top n w) := by
  have hTl := hT.len
  have hTr := hT.reach
  have hTc := hT.cap
  have hb0 := hx.b0
  have hbR := hx.bR
  have hbN := hx.bN
  by_cases h : (1 ≤ n ∧ n ≤ 65536) ∧ nT = 4 ∧ nR = n0
  · obtain ⟨⟨h1, h2⟩, rfl, rfl⟩ := h
    obtain ⟨N, rfl⟩ := Int.eq_ofNat_of_zero_le (a := n) (by omega)
    exact follow_yes p S b s k z oo AT cT top hTl hT.i64 N (by omega) (by omega) A0 nR c0 l hx.l0 (by omega) AR cR rs hx.lR (fun x hx' => by have := hx.rR x hx'; omega) AN nN cN ns hx.lN hx.hN (by omega) w F G sT hx.s0 hx.tR hx.tN
  · have hno : ¬ TakenP p k l rs ns top n := fun g => h ⟨g.1, by rw [← hTl]; exact g.2.1, by rw [← hx.lR, ← hx.l0]; exact g.2.2.1⟩
    refine (follow_no s AT nT cT n A0 n0 c0 AR nR cR (.slice AN nN cN) (by omega) (by omega) (by omega) ?_ w).mono fun e w' h => h.is hno
    by_cases c1 : 1 ≤ n ∧ n ≤ 65536
    · by_cases c2 : nT = 4
      · exact .inr (.inr fun c3 => h ⟨c1, c2, c3⟩)
      · exact .inr (.inl c2)
    · exact .inl c1
set_option maxHeartbeats 1000000 in
theorem tcheck_any (p S b s k z : Nat) [NeZero p] (oo : Nat → Nat → Fin p) (AT : Option Addr) (nT cT : Nat) (top : List Int) {w0 : World} (hT : ArgS w0 AT nT cT top) (n : Int)
    {A0 : Option Addr} {n0 c0 : Nat} {l : List Int} {AR : Option Addr} {nR cR : Nat} {rs : List (List Int)} {AN : Option Addr} {nN cN : Nat} {ns : List (List Int)} (w : World) (F : Fld w S b p) (G : Spg w s b k z oo) (sT : SL w AT top) (hx : OpnAt w A0 n0 c0 l AR nR cR rs AN nN cN ns) :
    Calls Tryz.prog 9 #[.pointer (some ⟨s, 0, none⟩), .slice AT nT cT, vi n, .agg #[.slice A0 n0 c0, .slice AR nR cR, .slice AN nN cN]] w fun e w' => SaysW (.bool (takenB p k l rs ns top n)) w e w' := by
  have hb0 : Below w.heap.size w (w.alloc (.cells #[.slice A0 n0 c0, .slice AR nR cR, .slice AN nN cN] 25)) := (Below.refl _ _).alloc (Nat.le_refl _) _
  have hB7 := Blk.new w 25 #[.slice A0 n0 c0, .slice AR nR cR, .slice AN nN cN]
  have d0 := (hB7.cell 0).trans (show _ = some (.slice A0 n0 c0) from rfl)
  have d1 := (hB7.cell 1).trans (show _ = some (.slice AR nR cR) from rfl)
  have d2 := (hB7.cell 2).trans (show _ = some (.slice AN nN cN) from rfl)
  have HFO := Lib.hid (follow_any p S b s k z oo AT nT cT top hT n _ (F.below hb0 F.le) (G.below hb0 (block_lt_of_cell G.c0)) (sT.below hb0) (hx.below hb0))
  have HB0 := Lib.hid hb0
  clear hb0 hB7 hT F G sT hx
  go_enter Tryz.func9, Tryz.ntmps9
  go_wp2_with fail
  refine HFO.out.mono ?_
  rintro _ w1 ⟨v, rfl, _, hb1⟩
  have HB1 := Lib.hid (HB0.out.trans (hb1.mono HB0.out.size))
  clear hb1 d0 d1 d2
  go_wp2
  go_ret
  exact ⟨rfl, HB1.out⟩
/-- the document's check, of whatever Opening -/
theorem rcheck_any (p k : Nat) [NeZero p] (PK : Pk p k) (AT : Option Addr) (nT cT : Nat) (top : List Int) {w0 : World} (hT : ArgS w0 AT nT cT top) (n : Int)
    {A0 : Option Addr} {n0 c0 : Nat} {l : List Int} {AR : Option Addr} {nR cR : Nat} {rs : List (List Int)} {AN : Option Addr} {nN cN : Nat} {ns : List (List Int)} (w : World) (sT : SL w AT top) (hx : OpnAt w A0 n0 c0 l AR nR cR rs AN nN cN ns) :
    Calls Tryz.prog 10 #[vi p, .slice AT nT cT, vi n, .slice A0 n0 c0, .slice AR nR cR, .slice AN nN cN] w (RCheckIs (takenB p k l rs ns top n) w) := by
  have hTl := hT.len
  have hTr := hT.reach
  have hTc := hT.cap
  have hb0 := hx.b0
  have hbR := hx.bR
  have hbN := hx.bN
  by_cases h : (1 ≤ n ∧ n ≤ 65536) ∧ nT = 4 ∧ nR = n0
  · obtain ⟨⟨h1, h2⟩, rfl, rfl⟩ := h
    obtain ⟨N, rfl⟩ := Int.eq_ofNat_of_zero_le (a := n) (by omega)
    exact rcheck_yes p k PK AT cT top hTl hT.i64 N (by omega) (by omega) A0 nR c0 l hx.l0 (by omega) AR cR rs hx.lR hx.rR AN nN cN ns hx.lN (by omega) w sT hx.s0 hx.tR hx.tN
  · have hno : ¬ TakenP p k l rs ns top n := fun g => h ⟨g.1, by rw [← hTl]; exact g.2.1, by rw [← hx.lR, ← hx.l0]; exact g.2.2.1⟩
    rw [takenB_false hno]
    refine (rcheck_no p AT nT cT n A0 n0 c0 AR nR cR (.slice AN nN cN) (by omega) (by omega) (by omega) ?_ w).mono fun e w' h => ⟨h.1, by rw [h.2]; exact Below.refl _ _⟩
    by_cases c1 : 1 ≤ n ∧ n ≤ 65536
    · by_cases c2 : nT = 4
      · exact .inr (.inr fun c3 => h ⟨c1, c2, c3⟩)
      · exact .inr (.inl c2)
    · exact .inl c1
theorem opnAt_args {w : World} {A0 : Option Addr} {n0 c0 : Nat} {l : List Int} {AR : Option Addr} {nR cR : Nat} {rs : List (List Int)} {AN : Option Addr} {nN cN : Nat} {ns : List (List Int)} (h0 : ArgS w A0 n0 c0 l) (hR : ArgMS w AR nR cR rs) (hN : ArgMS w AN nN cN ns) : OpnAt w A0 n0 c0 l AR nR cR rs AN nN cN ns :=
  ⟨h0.len, hR.m.len, hN.m.len, by have := h0.reach; have := h0.cap; omega, hR.n24, hN.n24, hN.m.cap, h0.i64, hR.r8, hN.r8, h0.sl, hR.m.tb, hN.m.tb⟩
theorem eqO_same (l : List Int) (rs ns : List (List Int)) : eqO l l rs rs ns ns = true := by unfold eqO; rw [eqB_true rfl, eqR_true rfl, eqR_true rfl]; rfl
set_option maxRecDepth 100000 in
set_option maxHeartbeats 2000000 in
theorem tchecks_walk (w : World) (p : Int) (hp : I64 p) (AT : Option Addr) (nT cT : Nat) (top : List Int) (hT : ArgS w AT nT cT top) (n : Int) (hn : I64 n)
    (A0 : Option Addr) (n0 c0 : Nat) (l : List Int) (h0 : ArgS w A0 n0 c0 l) (AR : Option Addr) (nR cR : Nat) (rs : List (List Int)) (hR : ArgMS w AR nR cR rs) (AN : Option Addr) (nN cN : Nat) (ns : List (List Int)) (hN : ArgMS w AN nN cN ns) (hTy : Typed w) :
    Calls Tryz.prog 3 #[vi p, .slice AT nT cT, vi n, .agg #[.slice A0 n0 c0, .slice AR nR cR, .slice AN nN cN]] w fun e w' => SaysW (.bool true) w e w' := by
  have hb0 : Below w.heap.size w (w.alloc (.cells #[.slice A0 n0 c0, .slice AR nR cR, .slice AN nN cN] 25)) := (Below.refl _ _).alloc (Nat.le_refl _) _
  have hB7 := Blk.new w 25 #[.slice A0 n0 c0, .slice AR nR cR, .slice AN nN cN]
  by_cases hs : HasSponge p
  · obtain ⟨q, rfl, h23, hqm, hpr⟩ := hasSponge_nat hs
    haveI := hpr.ne
    have HSP := Lib.hid (ssponge_yes q h23 hqm hpr _ (hTy.below hb0))
    have HOP := Lib.hid (opnAt_args h0 hR hN)
    have HB0 := Lib.hid hb0
    have HB7 := Lib.hid hB7
    have HTT := Lib.hid hT
    clear hs hpr hT h0 hR hN hTy hb0 hB7 hp hn
    go_enter Tryz.func3, Tryz.ntmps3
    go_wp2_with fail
    refine HSP.out.mono ?_
    rintro _ w1 ⟨s, b, k, z, oo, rfl, F, G, hsw, hs1, hb1⟩
    have hPK : Pk q k := ⟨by omega, hqm, G.k2, G.klt (by omega), G.least, G.cop⟩
    have hb01 := HB0.out.trans (hb1.mono HB0.out.size)
    have hB71 := Blk.below HB7.out hb1 HB7.out.lt
    have d0 := (hB71.cell 0).trans (show _ = some (.slice A0 n0 c0) from rfl)
    have d1 := (hB71.cell 1).trans (show _ = some (.slice AR nR cR) from rfl)
    have d2 := (hB71.cell 2).trans (show _ = some (.slice AN nN cN) from rfl)
    have HB01 := Lib.hid hb01
    have HB71 := Lib.hid hB71
    have HF := Lib.hid F
    have HG := Lib.hid G
    have HPK := Lib.hid hPK
    have HOD := Lib.hid (opened_any w1 (HOP.out.below hb01))
    clear hb1 hb01 hB71 F G hPK hsw
    go_wp2_with fail
    refine HOD.out.mono ?_
    rintro _ w2 ⟨A0', n0', c0', AR', nR', cR', AN', nN', cN', rfl, hop, hb2⟩
    clear d0 d1 d2
    go_wp2_with fail
    have hb23 : Below w2.heap.size w2 (w2.alloc (.cells #[.slice A0' n0' c0', .slice AR' nR' cR', .slice AN' nN' cN'] 25)) := (Below.refl _ _).alloc (Nat.le_refl _) _
    have hB11 := Blk.new w2 25 #[.slice A0' n0' c0', .slice AR' nR' cR', .slice AN' nN' cN']
    obtain ⟨W3, hW3⟩ : ∃ W3, W3 = w2.alloc (.cells #[.slice A0' n0' c0', .slice AR' nR' cR', .slice AN' nN' cN'] 25) := ⟨_, rfl⟩
    rw [← hW3] at hb23 hB11 ⊢
    have hb13 := hb2.trans (hb23.mono hb2.size)
    have hop3 := hop.below hb23
    have hb03 := HB01.out.trans (hb13.mono HB01.out.size)
    have HTC := Lib.hid (tcheck_any q w1.heap.size b s k z oo AT nT cT top HTT.out n W3 (HF.out.below hb13 (Nat.le_refl _)) (HG.out.below hb13 hs1) (HTT.out.sl.below hb03) hop3)
    have HB13 := Lib.hid hb13
    have HB03 := Lib.hid hb03
    have HOP3 := Lib.hid hop3
    have HB11 := Lib.hid hB11
    clear hb23 hB11 hW3 hb13 hop3 hb03 hop hb2
    refine HTC.out.mono ?_
    rintro _ w4 ⟨rfl, hb4⟩
    have hb04 := HB03.out.trans (hb4.mono HB03.out.size)
    have hB74 := (Blk.below (Blk.below HB71.out HB13.out HB71.out.lt) hb4 (Blk.below HB71.out HB13.out HB71.out.lt).lt)
    have d0 := (hB74.cell 0).trans (show _ = some (.slice A0 n0 c0) from rfl)
    have d1 := (hB74.cell 1).trans (show _ = some (.slice AR nR cR) from rfl)
    have d2 := (hB74.cell 2).trans (show _ = some (.slice AN nN cN) from rfl)
    have HRC := Lib.hid (rcheck_any q k HPK.out AT nT cT top HTT.out n w4 (HTT.out.sl.below hb04) (HOP.out.below hb04))
    have HB4 := Lib.hid hb4
    have HB04 := Lib.hid hb04
    have HB74 := Lib.hid hB74
    clear hb4 hb04 hB74
    go_wp2_with fail
    refine HRC.out.mono ?_
    rintro _ w5 ⟨rfl, hb5⟩
    have hb35 := HB4.out.trans (hb5.mono HB4.out.size)
    have hb05 := HB04.out.trans (hb5.mono HB04.out.size)
    have hB115 := Blk.below HB11.out hb35 HB11.out.lt
    have hB75 := Blk.below HB74.out hb5 HB74.out.lt
    have d0 := (hB75.cell 0).trans (show _ = some (.slice A0 n0 c0) from rfl)
    have d1 := (hB75.cell 1).trans (show _ = some (.slice AR nR cR) from rfl)
    have d2 := (hB75.cell 2).trans (show _ = some (.slice AN nN cN) from rfl)
    have g0 := (hB115.cell 0).trans (show _ = some (.slice A0' n0' c0') from rfl)
    have g1 := (hB115.cell 1).trans (show _ = some (.slice AR' nR' cR') from rfl)
    have g2 := (hB115.cell 2).trans (show _ = some (.slice AN' nN' cN') from rfl)
    have hoo := openings_any w5 (HOP3.out.below hb35) (HOP.out.below hb05)
    rw [eqO_same] at hoo
    have HOO := Lib.hid hoo
    have HB05 := Lib.hid hb05
    clear hoo hb35 hb05 hB115 hB75 hb5
    generalize takenB q k l rs ns top n = tk
    go_wp2_with fail
    refine HOO.out.mono ?_
    rintro _ w6 ⟨rfl, hb6⟩
    have HB06 := Lib.hid (HB05.out.trans (hb6.mono HB05.out.size))
    clear hb6 d0 d1 d2 g0 g1 g2
    cases tk <;> (go_wp2; go_ret; exact ⟨rfl, HB06.out⟩)
  · have HN := Lib.hid (ssponge_no p hp hs _ (hTy.below hb0))
    have HB0 := Lib.hid hb0
    clear hs hT h0 hR hN hTy hb0 hB7 hp hn
    go_enter Tryz.func3, Tryz.ntmps3
    go_wp2_with fail
    refine HN.out.mono ?_
    rintro _ w1 ⟨rfl, hb1⟩
    have HB1 := Lib.hid (HB0.out.trans (hb1.mono HB0.out.size))
    clear hb1
    go_wp2
    go_ret
    exact ⟨rfl, HB1.out⟩
end Go.Proofs.YtijhajkakmohnaaGreatDoor
