/- A bundle of texts: Pd3, Pe1, Tc, Eq, Pe2, Ta2. -/
import Derived.Test.YteceghbjjnknbaaGreatQ16
import Derived.Test.YteceghbjjnknbaaGreatQ08
import Derived.Test.YteceghbjjnknbaaGreatQ09
import Derived.Test.YteceghbjjnknbaaGreatQ04
import Derived.Test.YteceghbjjnknbaaGreatQ14
import Derived.Test.YteceghbjjnknbaaGreatQ13
import Derived.Test.YteceghbjjnknbaaGreatQ05
set_option linter.unusedVariables false
set_option linter.unusedSimpArgs false
namespace Go.Proofs.YteceghbjjnknbaaGreat
open Go.RowKit Zp
abbrev NoPledge (e : Ending) : Prop := ∃ j : Int, e = .returned (.tuple #[.agg #[.slice none 0 0, .slice none 0 0, .slice none 0 0, .slice none 0 0, .slice none 0 0, .slice none 0 0], vi 0, .iface 71 (vi j)])
set_option maxRecDepth 100000 in
set_option maxHeartbeats 4000000 in
theorem popen_no1 (b Dd v nd : Nat) (hv : v ≤ 12) (hn : nd ≤ 65536) (hroom : ¬ 2 ^ (v - v / 2) ≤ nd / 2) (sp hp : Value) (A : Option Addr) (n cA : Nat) (hne : n = 2 ^ v) (B : Option Addr) (cB : Nat) (asked : Int) (w : World) (c0 : w.cell? ⟨Dd, 0, none⟩ = some (.pointer (some ⟨b, 0, none⟩))) (c1 : w.cell? ⟨Dd, 1, none⟩ = some (vi nd)) :
    Calls Tryz.prog 13 #[sp, hp, .pointer (some ⟨Dd, 0, none⟩), .slice A n cA, .slice B v cB, vi asked] w fun e w' => NoPledge e ∧ Below w.heap.size w w' := by
  have HR := Lib.hid (show decide (2 ^ (v - v / 2) ≤ nd / 2) = false from decide_eq_false hroom)
  clear hroom
  obtain ⟨W0, hW0⟩ : ∃ W0, W0 = (w.alloc (.cells #[.slice B v cB] 25)).alloc (.cells #[.slice none 0 0, .slice none 0 0, .slice none 0 0, .slice none 0 0, .slice none 0 0, .slice none 0 0] 53) := ⟨_, rfl⟩
  have hb0 : Below w.heap.size w W0 := by rw [hW0]; exact ((Below.refl _ _).alloc (Nat.le_refl _) _).alloc (by simp) _
  have hs0 : W0.heap.size = w.heap.size + 2 := by rw [hW0]; simp
  have hBa : Blk W0 w.heap.size 25 #[.slice B v cB] := by rw [hW0]; exact (Blk.new _ _ _).alloc _
  have hBz : Blk W0 (w.heap.size + 1) 53 #[.slice none 0 0, .slice none 0 0, .slice none 0 0, .slice none 0 0, .slice none 0 0, .slice none 0 0] := by
    rw [hW0]
    have h := Blk.new (w.alloc (.cells #[.slice B v cB] 25)) 53 #[.slice none 0 0, .slice none 0 0, .slice none 0 0, .slice none 0 0, .slice none 0 0, .slice none 0 0]
    rw [World.size_alloc] at h
    exact h
  have HO := Lib.hid (of_yes b Dd v nd hv hn A n cA hne W0 ((hb0.cell (block_lt_of_cell c0)).trans c0) ((hb0.cell (block_lt_of_cell c1)).trans c1))
  have HW0 := Lib.hid hW0
  have H0 := Lib.hid (And.intro hb0 (And.intro hs0 (And.intro hBa hBz)))
  clear hb0 hs0 hBa hBz hW0 c0 c1 hne
  go_enter Tryz.func13, Tryz.ntmps13
  go_upto_region 1 with (fail)
  rw [← HW0.out]
  go_wp2_with fail
  refine HO.out.mono ?_
  rintro _ w2 ⟨x, rfl, hx, hX, hb⟩
  rw [HR.out]
  have HX2 := Lib.hid (And.intro hX hb)
  clear hX hb
  go_upto_region 2 with (fail)
  obtain ⟨W3, hW3⟩ : ∃ W3, W3 = w2.alloc (.cells #[.pointer (some ⟨x, 0, none⟩)] 97) := ⟨_, rfl⟩
  rw [← hW3]
  have hb03 : Below W0.heap.size W0 W3 := HX2.out.2.trans (by rw [hW3]; exact ((Below.refl _ _).alloc (Nat.le_refl _) _).mono HX2.out.2.size)
  have hb3 : Below w.heap.size w W3 := H0.out.1.trans (hb03.mono H0.out.1.size)
  have hA3 : Blk W3 w.heap.size 25 #[.slice B v cB] := H0.out.2.2.1.below hb03 H0.out.2.2.1.lt
  have hZ3 := H0.out.2.2.2.below hb03 H0.out.2.2.2.lt
  have hx3 : Blk W3 w2.heap.size 97 #[.pointer (some ⟨x, 0, none⟩)] := by rw [hW3]; exact Blk.new _ _ _
  have hX3 : ShapeAt W3 x b Dd v := Blk.below HX2.out.1 (by rw [hW3]; exact (Below.refl _ _).alloc (Nat.le_refl _) _) (Blk.lt HX2.out.1)
  have e0 := (hA3.cell 0).trans (show _ = some (.slice B v cB) from rfl)
  have e1 := (hx3.cell 0).trans (show _ = some (.pointer (some ⟨x, 0, none⟩)) from rfl)
  have e2 := (Blk.cell hX3 2).trans (show _ = some (vi ((v / 2 : Nat) : Int)) from rfl)
  have e3 := (Blk.cell hX3 3).trans (show _ = some (vi ((v - v / 2 : Nat) : Int)) from rfl)
  have HB3 := Lib.hid hb3
  have HZ3 := Lib.hid hZ3
  clear hW3 hb03 hb3 hA3 hZ3 hx3 hX3 hx
  go_quiet (fail)
  have hZ4 : Blk (W3.drewN nq) (w.heap.size + 1) 53 #[.slice none 0 0, .slice none 0 0, .slice none 0 0, .slice none 0 0, .slice none 0 0, .slice none 0 0] := HZ3.out
  have y0 := (hZ4.cell 0).trans (show _ = some (.slice none 0 0) from rfl)
  have y1 := (hZ4.cell 1).trans (show _ = some (.slice none 0 0) from rfl)
  have y2 := (hZ4.cell 2).trans (show _ = some (.slice none 0 0) from rfl)
  have y3 := (hZ4.cell 3).trans (show _ = some (.slice none 0 0) from rfl)
  have y4 := (hZ4.cell 4).trans (show _ = some (.slice none 0 0) from rfl)
  have y5 := (hZ4.cell 5).trans (show _ = some (.slice none 0 0) from rfl)
  have z0 := hZ4.frozen 0
  have z1 := hZ4.frozen 1
  have z2 := hZ4.frozen 2
  have z3 := hZ4.frozen 3
  have z4 := hZ4.frozen 4
  have z5 := hZ4.frozen 5
  clear hZ4
  go_wp2
  obtain ⟨w9, hw9⟩ : ∃ w9, w9 = ((((((W3.drewN nq).setCell ⟨w.heap.size + 1, 0, none⟩ (.slice none 0 0)).setCell ⟨w.heap.size + 1, 1, none⟩ (.slice none 0 0)).setCell ⟨w.heap.size + 1, 2, none⟩ (.slice none 0 0)).setCell ⟨w.heap.size + 1, 3, none⟩ (.slice none 0 0)).setCell ⟨w.heap.size + 1, 4, none⟩ (.slice none 0 0)).setCell ⟨w.heap.size + 1, 5, none⟩ (.slice none 0 0) := ⟨_, rfl⟩
  rw [← hw9]
  have hZ9 : Blk w9 (w.heap.size + 1) 53 #[.slice none 0 0, .slice none 0 0, .slice none 0 0, .slice none 0 0, .slice none 0 0, .slice none 0 0] := by
    rw [hw9]; exact ((((((Blk.drewN HZ3.out nq).set_ 0 _).set_ 1 _).set_ 2 _).set_ 3 _).set_ 4 _).set_ 5 _
  have hB9 : Below w.heap.size w w9 := by
    rw [hw9]
    have h := below_drewN HB3.out nq
    have hk : w.heap.size ≤ w.heap.size + 1 := by omega
    exact (((((h.setCell (p := ⟨w.heap.size + 1, 0, none⟩) hk _).setCell (p := ⟨w.heap.size + 1, 1, none⟩) hk _).setCell (p := ⟨w.heap.size + 1, 2, none⟩) hk _).setCell (p := ⟨w.heap.size + 1, 3, none⟩) hk _).setCell (p := ⟨w.heap.size + 1, 4, none⟩) hk _).setCell (p := ⟨w.heap.size + 1, 5, none⟩) hk _
  have v0 := (hZ9.cell 0).trans (show _ = some (.slice none 0 0) from rfl)
  have v1 := (hZ9.cell 1).trans (show _ = some (.slice none 0 0) from rfl)
  have v2 := (hZ9.cell 2).trans (show _ = some (.slice none 0 0) from rfl)
  have v3 := (hZ9.cell 3).trans (show _ = some (.slice none 0 0) from rfl)
  have v4 := (hZ9.cell 4).trans (show _ = some (.slice none 0 0) from rfl)
  have v5 := (hZ9.cell 5).trans (show _ = some (.slice none 0 0) from rfl)
  have HFB := Lib.hid hB9
  clear hw9 hZ9 hB9 y0 y1 y2 y3 y4 y5 z0 z1 z2 z3 z4 z5
  exact bodyPost_ret (v := .tuple #[.agg #[.slice none 0 0, .slice none 0 0, .slice none 0 0, .slice none 0 0, .slice none 0 0, .slice none 0 0], vi 0, .iface 71 (vi 2)]) (by simp [results, Tryz.results13, go_sem, v0, v1, v2, v3, v4, v5]) rfl ⟨⟨_, rfl⟩, HFB.out⟩
set_option maxRecDepth 100000 in
set_option maxHeartbeats 4000000 in
theorem popen_no2 (b Dd v nd : Nat) (hv : v ≤ 12) (hn : nd ≤ 65536) (hroom : 2 ^ (v - v / 2) ≤ nd / 2) (sp hp : Value) (A : Option Addr) (n cA : Nat) (hne : n = 2 ^ v) (B : Option Addr) (cB : Nat) (asked : Int) (hai : I64 asked) (hask : ¬ (1 ≤ asked ∧ asked ≤ 64)) (w : World) (c0 : w.cell? ⟨Dd, 0, none⟩ = some (.pointer (some ⟨b, 0, none⟩))) (c1 : w.cell? ⟨Dd, 1, none⟩ = some (vi nd)) :
    Calls Tryz.prog 13 #[sp, hp, .pointer (some ⟨Dd, 0, none⟩), .slice A n cA, .slice B v cB, vi asked] w fun e w' => NoPledge e ∧ Below w.heap.size w w' := by
  have HR := Lib.hid (show decide (2 ^ (v - v / 2) ≤ nd / 2) = true from decide_eq_true hroom)
  have HASK := Lib.hid (fun W => asks_any asked hai W)
  have HASK1 := Lib.hid (show decide (1 ≤ asked ∧ asked ≤ 64) = false from decide_eq_false hask)
  obtain ⟨va, hva⟩ : ∃ va, va = v / 2 := ⟨_, rfl⟩
  obtain ⟨vb, hvb⟩ : ∃ vb, vb = v - va := ⟨_, rfl⟩
  have hwab : IntKind.i64.wrap ((va : Int) + (vb : Int)) = (v : Int) := by rw [IntWalk.i64_in _ (by constructor <;> omega)]; omega
  have tab0 : ((v : Int) != (v : Int)) = false := by simp
  have HVA := Lib.hid (And.intro hva hvb)
  clear hroom hask hva hvb hai
  obtain ⟨W0, hW0⟩ : ∃ W0, W0 = (w.alloc (.cells #[.slice B v cB] 25)).alloc (.cells #[.slice none 0 0, .slice none 0 0, .slice none 0 0, .slice none 0 0, .slice none 0 0, .slice none 0 0] 53) := ⟨_, rfl⟩
  have hb0 : Below w.heap.size w W0 := by rw [hW0]; exact ((Below.refl _ _).alloc (Nat.le_refl _) _).alloc (by simp) _
  have hs0 : W0.heap.size = w.heap.size + 2 := by rw [hW0]; simp
  have hBa : Blk W0 w.heap.size 25 #[.slice B v cB] := by rw [hW0]; exact (Blk.new _ _ _).alloc _
  have hBz : Blk W0 (w.heap.size + 1) 53 #[.slice none 0 0, .slice none 0 0, .slice none 0 0, .slice none 0 0, .slice none 0 0, .slice none 0 0] := by
    rw [hW0]
    have h := Blk.new (w.alloc (.cells #[.slice B v cB] 25)) 53 #[.slice none 0 0, .slice none 0 0, .slice none 0 0, .slice none 0 0, .slice none 0 0, .slice none 0 0]
    rw [World.size_alloc] at h
    exact h
  have HO := Lib.hid (of_yes b Dd v nd hv hn A n cA hne W0 ((hb0.cell (block_lt_of_cell c0)).trans c0) ((hb0.cell (block_lt_of_cell c1)).trans c1))
  have HW0 := Lib.hid hW0
  have H0 := Lib.hid (And.intro hb0 (And.intro hs0 (And.intro hBa hBz)))
  clear hb0 hs0 hBa hBz hW0 c0 c1 hne
  go_enter Tryz.func13, Tryz.ntmps13
  go_upto_region 1 with (fail)
  rw [← HW0.out]
  go_wp2_with fail
  refine HO.out.mono ?_
  rintro _ w2 ⟨x, rfl, hx, hX, hb⟩
  rw [HR.out]
  have HX2 := Lib.hid (And.intro hX hb)
  clear hX hb
  go_upto_region 2 with (fail)
  obtain ⟨W3, hW3⟩ : ∃ W3, W3 = w2.alloc (.cells #[.pointer (some ⟨x, 0, none⟩)] 97) := ⟨_, rfl⟩
  rw [← hW3]
  have hb03 : Below W0.heap.size W0 W3 := HX2.out.2.trans (by rw [hW3]; exact ((Below.refl _ _).alloc (Nat.le_refl _) _).mono HX2.out.2.size)
  have hb3 : Below w.heap.size w W3 := H0.out.1.trans (hb03.mono H0.out.1.size)
  have hA3 : Blk W3 w.heap.size 25 #[.slice B v cB] := H0.out.2.2.1.below hb03 H0.out.2.2.1.lt
  have hZ3 := H0.out.2.2.2.below hb03 H0.out.2.2.2.lt
  have hx3 : Blk W3 w2.heap.size 97 #[.pointer (some ⟨x, 0, none⟩)] := by rw [hW3]; exact Blk.new _ _ _
  have hX3 : ShapeAt W3 x b Dd v := Blk.below HX2.out.1 (by rw [hW3]; exact (Below.refl _ _).alloc (Nat.le_refl _) _) (Blk.lt HX2.out.1)
  have e0 := (hA3.cell 0).trans (show _ = some (.slice B v cB) from rfl)
  have e1 := (hx3.cell 0).trans (show _ = some (.pointer (some ⟨x, 0, none⟩)) from rfl)
  have e2 := (Blk.cell hX3 2).trans (show _ = some (vi ((v / 2 : Nat) : Int)) from rfl)
  have e3 := (Blk.cell hX3 3).trans (show _ = some (vi ((v - v / 2 : Nat) : Int)) from rfl)
  have HB3 := Lib.hid hb3
  have HZ3 := Lib.hid hZ3
  clear hW3 hb03 hb3 hA3 hZ3 hx3 hX3 hx
  rw [← HVA.out.1] at e2 e3
  rw [← HVA.out.2] at e3
  go_quiet (fail)
  clear hwab tab0
  go_wp2_with fail
  refine (HASK.out _).mono ?_
  rintro _ _ ⟨rfl, rfl⟩
  rw [HASK1.out]
  have hZ4 : Blk (W3.drewN nq) (w.heap.size + 1) 53 #[.slice none 0 0, .slice none 0 0, .slice none 0 0, .slice none 0 0, .slice none 0 0, .slice none 0 0] := HZ3.out
  have y0 := (hZ4.cell 0).trans (show _ = some (.slice none 0 0) from rfl)
  have y1 := (hZ4.cell 1).trans (show _ = some (.slice none 0 0) from rfl)
  have y2 := (hZ4.cell 2).trans (show _ = some (.slice none 0 0) from rfl)
  have y3 := (hZ4.cell 3).trans (show _ = some (.slice none 0 0) from rfl)
  have y4 := (hZ4.cell 4).trans (show _ = some (.slice none 0 0) from rfl)
  have y5 := (hZ4.cell 5).trans (show _ = some (.slice none 0 0) from rfl)
  have z0 := hZ4.frozen 0
  have z1 := hZ4.frozen 1
  have z2 := hZ4.frozen 2
  have z3 := hZ4.frozen 3
  have z4 := hZ4.frozen 4
  have z5 := hZ4.frozen 5
  clear hZ4
  go_wp2
  obtain ⟨w9, hw9⟩ : ∃ w9, w9 = ((((((W3.drewN nq).setCell ⟨w.heap.size + 1, 0, none⟩ (.slice none 0 0)).setCell ⟨w.heap.size + 1, 1, none⟩ (.slice none 0 0)).setCell ⟨w.heap.size + 1, 2, none⟩ (.slice none 0 0)).setCell ⟨w.heap.size + 1, 3, none⟩ (.slice none 0 0)).setCell ⟨w.heap.size + 1, 4, none⟩ (.slice none 0 0)).setCell ⟨w.heap.size + 1, 5, none⟩ (.slice none 0 0) := ⟨_, rfl⟩
  rw [← hw9]
  have hZ9 : Blk w9 (w.heap.size + 1) 53 #[.slice none 0 0, .slice none 0 0, .slice none 0 0, .slice none 0 0, .slice none 0 0, .slice none 0 0] := by
    rw [hw9]; exact ((((((Blk.drewN HZ3.out nq).set_ 0 _).set_ 1 _).set_ 2 _).set_ 3 _).set_ 4 _).set_ 5 _
  have hB9 : Below w.heap.size w w9 := by
    rw [hw9]
    have h := below_drewN HB3.out nq
    have hk : w.heap.size ≤ w.heap.size + 1 := by omega
    exact (((((h.setCell (p := ⟨w.heap.size + 1, 0, none⟩) hk _).setCell (p := ⟨w.heap.size + 1, 1, none⟩) hk _).setCell (p := ⟨w.heap.size + 1, 2, none⟩) hk _).setCell (p := ⟨w.heap.size + 1, 3, none⟩) hk _).setCell (p := ⟨w.heap.size + 1, 4, none⟩) hk _).setCell (p := ⟨w.heap.size + 1, 5, none⟩) hk _
  have v0 := (hZ9.cell 0).trans (show _ = some (.slice none 0 0) from rfl)
  have v1 := (hZ9.cell 1).trans (show _ = some (.slice none 0 0) from rfl)
  have v2 := (hZ9.cell 2).trans (show _ = some (.slice none 0 0) from rfl)
  have v3 := (hZ9.cell 3).trans (show _ = some (.slice none 0 0) from rfl)
  have v4 := (hZ9.cell 4).trans (show _ = some (.slice none 0 0) from rfl)
  have v5 := (hZ9.cell 5).trans (show _ = some (.slice none 0 0) from rfl)
  have HFB := Lib.hid hB9
  clear hw9 hZ9 hB9 y0 y1 y2 y3 y4 y5 z0 z1 z2 z3 z4 z5
  exact bodyPost_ret (v := .tuple #[.agg #[.slice none 0 0, .slice none 0 0, .slice none 0 0, .slice none 0 0, .slice none 0 0, .slice none 0 0], vi 0, .iface 71 (vi 3)]) (by simp [results, Tryz.results13, go_sem, v0, v1, v2, v3, v4, v5]) rfl ⟨⟨_, rfl⟩, HFB.out⟩
end Go.Proofs.YteceghbjjnknbaaGreat

namespace Go.Proofs.YteceghbjjnknbaaGreat
open Go.RowKit Zp
set_option maxRecDepth 100000 in
set_option maxHeartbeats 1000000 in
theorem indexRC_any (K : Nat) (hK : ∀ (args : Array Value) (w : World), (callFunc K args).run Tryz.prog w = .ok (.enter K args) w) (caps : Array Value) (P : List Int → Bool) (A : Option Addr) (N c : Nat) (ts : List (List Int)) (hN : ts.length = N) (hN2 : N ≤ 9223372036854775806)
    (w : World) (hY : ∀ (A1 : Option Addr) (n1 c1 : Nat) (x : List Int), x.length = n1 → n1 ≤ 9223372036854775807 → SL w A1 x → Calls Tryz.prog K (#[.slice A1 n1 c1] ++ caps) w fun e w' => e = .returned (.bool (P x)) ∧ w = w') (hT : TB w A ts) :
    Calls Tryz.prog 95 #[.slice A N c, .func (.func K) #[] caps] w fun e w' => e = .returned (vi (idxR P ts)) ∧ w = w' := by
  have HN := Lib.hid hN
  have HT := Lib.hid hT
  have HY := Lib.hid hY
  clear hN hT hY
  go_enter Tryz.func95, Tryz.ntmps95
  go_wp2
  go_loop [8] (fun i => ∃ k : Nat, k ≤ N ∧ i = vi k ∧ ∀ j (h : j < ts.length), j < k → P ts[j] = false) (fun i => N - (intOf i).toNat)
  case atStart => exact ⟨0, Nat.zero_le _, rfl, fun j _ hj => absurd hj (Nat.not_lt_zero _)⟩
  case round =>
    obtain ⟨k, hk, rfl, hb⟩ := hrel
    have HB := Lib.hid hb
    clear hb
    by_cases hlt : k < N
    · have hkt : k < ts.length := by rw [HN.out]; exact hlt
      obtain ⟨ad, A1, n1, c1, rfl, hb1, hc1, hl1, hn1, hs1, _⟩ := HT.out k hkt
      have i1 : (0 : Int) ≤ k := by omega
      have i2 : (k : Int) < N := by omega
      have i3 : (k : Int) + 1 ≤ 9223372036854775807 := by omega
      have hyk := HY.out A1 n1 c1 _ hl1 (by omega) hs1
      obtain ⟨x, hx⟩ : ∃ x, x = ts[k] := ⟨_, rfl⟩
      rw [← hx] at hyk
      have HYK := Lib.hid hyk
      have HX := Lib.hid hx
      clear hl1 hs1 hx hyk
      by_cases hp : P x = true
      · have HR : Hid (idxR P ts = k) := Lib.hid (by
          have hpk : P ts[k] = true := by rw [← HX.out]; exact hp
          exact idxR_yes (List.any_eq_true.2 ⟨_, List.getElem_mem hkt, hpk⟩) (by
            rw [List.findIdx_eq hkt]
            exact ⟨hpk, fun j hj => by simpa using HB.out j (by omega) hj⟩))
        have HP := Lib.hid hp
        clear hp
        go_wp2_with fail
        refine HYK.out.mono ?_
        rintro _ _ ⟨rfl, rfl⟩
        rw [HP.out]
        go_wp2
        go_ret
        exact ⟨ret_int HR.out.symm, rfl⟩
      · have HP := Lib.hid (show P x = false by simpa using hp)
        have HBB : Hid (∀ j (h : j < ts.length), j < k + 1 → P ts[j] = false) := Lib.hid (fun j h hj => by
          by_cases e : j < k
          · exact HB.out j h e
          · obtain rfl : j = k := by omega
            rw [← HX.out]; exact HP.out)
        clear hp
        go_wp2_with fail
        refine HYK.out.mono ?_
        rintro _ _ ⟨rfl, rfl⟩
        rw [HP.out]
        go_wp2
        go_round
        case rel => exact ⟨k + 1, by omega, by go_num, HBB.out⟩
        case measure => simp [intOf]; omega
    · obtain rfl : k = N := by omega
      have HR : Hid (idxR P ts = -1) := Lib.hid (idxR_no (by
        rw [Bool.eq_false_iff]
        intro h
        obtain ⟨x, hx, hp⟩ := List.any_eq_true.1 h
        obtain ⟨j, hj, rfl⟩ := List.mem_iff_getElem.1 hx
        rw [HB.out j hj (by rw [← HN.out]; exact hj)] at hp
        cases hp))
      go_wp2
      go_ret
      exact ⟨ret_int HR.out.symm, rfl⟩
theorem containsRC_any (K : Nat) (hK : ∀ (args : Array Value) (w : World), (callFunc K args).run Tryz.prog w = .ok (.enter K args) w) (caps : Array Value) (P : List Int → Bool) (A : Option Addr) (N c : Nat) (ts : List (List Int)) (hN : ts.length = N) (hN2 : N ≤ 9223372036854775806)
    (w : World) (hY : ∀ (A1 : Option Addr) (n1 c1 : Nat) (x : List Int), x.length = n1 → n1 ≤ 9223372036854775807 → SL w A1 x → Calls Tryz.prog K (#[.slice A1 n1 c1] ++ caps) w fun e w' => e = .returned (.bool (P x)) ∧ w = w') (hT : TB w A ts) :
    Calls Tryz.prog 51 #[.slice A N c, .func (.func K) #[] caps] w fun e w' => e = .returned (.bool (ts.any P)) ∧ w = w' := by
  have HI := Lib.hid (indexRC_any K hK caps P A N c ts hN hN2 w hY hT)
  clear hY hT hN
  cases hb : ts.any P
  · rw [idxR_no hb] at HI
    clear hb
    go_enter Tryz.func51, Tryz.ntmps51
    go_wp2_with fail
    refine HI.out.mono ?_
    rintro _ _ ⟨rfl, rfl⟩
    go_wp2
    go_ret
    exact ⟨by simp, rfl⟩
  · obtain ⟨t, ht⟩ : ∃ t, ts.findIdx P = t := ⟨_, rfl⟩
    rw [idxR_yes hb ht] at HI
    have h0 : (0 : Int) ≤ (t : Int) := by omega
    clear hb ht
    go_enter Tryz.func51, Tryz.ntmps51
    go_wp2_with fail
    refine HI.out.mono ?_
    rintro _ _ ⟨rfl, rfl⟩
    go_wp2
    go_ret
    exact ⟨by simp, rfl⟩
end Go.Proofs.YteceghbjjnknbaaGreat

namespace Go.Proofs.YteceghbjjnknbaaGreat
open Go.RowKit Zp
structure ArgW (n : Nat) (xs : List Int) : Prop where
  len : xs.length = n
  i64 : ∀ x ∈ xs, I64 x
  max : n ≤ 9223372036854775807
theorem ArgS.w {w : World} {A : Option Addr} {n c : Nat} {xs : List Int} (h : ArgS w A n c xs) : ArgW n xs := ⟨h.len, h.i64, by have := h.reach; have := h.cap; omega⟩
theorem follow_w (p S b s k z : Nat) [NeZero p] (oo : Nat → Nat → Fin p) (AT : Option Addr) (nT cT : Nat) (top : List Int) (hT : ArgW nT top) (n : Int)
    {A0 : Option Addr} {n0 c0 : Nat} {l : List Int} {AR : Option Addr} {nR cR : Nat} {rs : List (List Int)} {AN : Option Addr} {nN cN : Nat} {ns : List (List Int)} (w : World) (F : Fld w S b p) (G : Spg w s b k z oo) (sT : SL w AT top) (hx : OpnAt w A0 n0 c0 l AR nR cR rs AN nN cN ns) :
    Calls Tryz.prog 94 #[.pointer (some ⟨s, 0, none⟩), .slice AT nT cT, vi n, .agg #[.slice A0 n0 c0, .slice AR nR cR, .slice AN nN cN]] w (FollowIs p k l rs ns top n w) := by
  have hTl := hT.len
  have hTm := hT.max
  have hb0 := hx.b0
  have hbR := hx.bR
  have hbN := hx.bN
  by_cases h : (1 ≤ n ∧ n ≤ 65536) ∧ nT = 4 ∧ nR = n0
  · obtain ⟨⟨h1, h2⟩, rfl, rfl⟩ := h
    obtain ⟨N, rfl⟩ := Int.eq_ofNat_of_zero_le (a := n) (by omega)
    exact follow_yes p S b s k z oo AT cT top hTl hT.i64 N (by omega) (by omega) A0 nR c0 l hx.l0 (by omega) AR cR rs hx.lR (fun x hx' => by have := hx.rR x hx'; omega) AN nN cN ns hx.lN hx.hN (by omega) w F G sT hx.s0 hx.tR hx.tN
  · have hno : ¬ TakenP p k l rs ns top n := fun g => h ⟨g.1, by rw [← hTl]; exact g.2.1, by rw [← hx.lR, ← hx.l0]; exact g.2.2.1⟩
    refine (follow_no s AT nT cT n A0 n0 c0 AR nR cR (.slice AN nN cN) (by omega) (by omega) (by omega) ?_ w).mono fun e w' h => h.is hno
    by_cases c1 : 1 ≤ n ∧ n ≤ 65536
    · by_cases c2 : nT = 4
      · exact .inr (.inr fun c3 => h ⟨c1, c2, c3⟩)
      · exact .inr (.inl c2)
    · exact .inl c1
set_option maxHeartbeats 1000000 in
theorem tcheck_w (p S b s k z : Nat) [NeZero p] (oo : Nat → Nat → Fin p) (AT : Option Addr) (nT cT : Nat) (top : List Int) (hT : ArgW nT top) (n : Int)
    {A0 : Option Addr} {n0 c0 : Nat} {l : List Int} {AR : Option Addr} {nR cR : Nat} {rs : List (List Int)} {AN : Option Addr} {nN cN : Nat} {ns : List (List Int)} (w : World) (F : Fld w S b p) (G : Spg w s b k z oo) (sT : SL w AT top) (hx : OpnAt w A0 n0 c0 l AR nR cR rs AN nN cN ns) :
    Calls Tryz.prog 50 #[.pointer (some ⟨s, 0, none⟩), .slice AT nT cT, vi n, .agg #[.slice A0 n0 c0, .slice AR nR cR, .slice AN nN cN]] w fun e w' => SaysW (.bool (takenB p k l rs ns top n)) w e w' := by
  have hb0 : Below w.heap.size w (w.alloc (.cells #[.slice A0 n0 c0, .slice AR nR cR, .slice AN nN cN] 51)) := (Below.refl _ _).alloc (Nat.le_refl _) _
  have hB7 := Blk.new w 51 #[.slice A0 n0 c0, .slice AR nR cR, .slice AN nN cN]
  have d0 := (hB7.cell 0).trans (show _ = some (.slice A0 n0 c0) from rfl)
  have d1 := (hB7.cell 1).trans (show _ = some (.slice AR nR cR) from rfl)
  have d2 := (hB7.cell 2).trans (show _ = some (.slice AN nN cN) from rfl)
  have HFO := Lib.hid (follow_w p S b s k z oo AT nT cT top hT n _ (F.below hb0 F.le) (G.below hb0 (block_lt_of_cell G.c0)) (sT.below hb0) (hx.below hb0))
  have HB0 := Lib.hid hb0
  clear hb0 hB7 hT F G sT hx
  go_enter Tryz.func50, Tryz.ntmps50
  go_wp2_with fail
  refine HFO.out.mono ?_
  rintro _ w1 ⟨v, rfl, _, hb1⟩
  have HB1 := Lib.hid (HB0.out.trans (hb1.mono HB0.out.size))
  clear hb1 d0 d1 d2
  go_wp2
  go_ret
  exact ⟨rfl, HB1.out⟩
end Go.Proofs.YteceghbjjnknbaaGreat

namespace Go.Proofs.YteceghbjjnknbaaGreat
open Go.RowKit
def EqualRel (xs ys : List Int) (w : World) (i : Value) (wr : World) : Prop := ∃ k : Nat, k ≤ xs.length ∧ i = vi k ∧ xs.take k = ys.take k ∧ ∃ j, wr = w.drewN j
set_option maxHeartbeats 1000000 in
theorem equal_any (A B : Option Addr) (c d : Nat) (xs ys : List Int) (hx : xs.length ≤ 9223372036854775807) (hy : ys.length ≤ 9223372036854775807) (w : World) (hsx : SL w A xs) (hsy : SL w B ys) :
    Calls Tryz.prog 49 #[.slice A xs.length c, .slice B ys.length d] w fun e w' => e = .returned (.bool (eqB xs ys)) ∧ ∃ k, w' = w.drewN k := by
  obtain ⟨n, hn⟩ : ∃ n, n = xs.length := ⟨_, rfl⟩
  obtain ⟨m, hm⟩ : ∃ m, m = ys.length := ⟨_, rfl⟩
  rw [← hn, ← hm]
  rw [← hn] at hx
  rw [← hm] at hy
  have HN := Lib.hid hn
  have HM := Lib.hid hm
  clear hn hm
  by_cases hnm : n = m
  · have t1 : ((n : Int) != (m : Int)) = false := by rw [bne_eq_false_iff_eq]; omega
    have HNM := Lib.hid hnm
    clear hnm
    go_enter Tryz.func49, Tryz.ntmps49
    go_wp2
    go_loopw [13] (fun i wr => EqualRel xs ys w i wr) (fun i _ => n - (intOf i).toNat)
    case atStart => exact ⟨0, Nat.zero_le _, rfl, by simp, 0, rfl⟩
    case round =>
      obtain ⟨k, hk, rfl, heq, j, rfl⟩ := hrel
      rw [← HN.out] at hk
      have HEQ := Lib.hid heq
      clear heq
      by_cases hlt : k < n
      · have hkm : k < m := by rw [← HNM.out]; exact hlt
        have hkx : k < xs.length := by rw [← HN.out]; exact hlt
        have hky : k < ys.length := by rw [← HM.out]; exact hkm
        obtain ⟨ad, rfl, _, hc1⟩ := (hsx.drewN j).at_ hkx
        obtain ⟨bd, rfl, _, hc2⟩ := (hsy.drewN j).at_ hky
        have i1 : (0 : Int) ≤ k := by omega
        have i2 : (k : Int) < n := by omega
        have i3 : (k : Int) < m := by omega
        have htk : xs.take (k + 1) = xs.take k ++ [xs[k]] := List.take_succ_eq_append_getElem hkx
        have hty : ys.take (k + 1) = ys.take k ++ [ys[k]] := List.take_succ_eq_append_getElem hky
        obtain ⟨x, hxk⟩ : ∃ x, x = xs[k] := ⟨_, rfl⟩
        obtain ⟨y, hyk⟩ : ∃ y, y = ys[k] := ⟨_, rfl⟩
        rw [← hxk] at hc1 htk
        rw [← hyk] at hc2 hty
        rw [World.cell?_drewN] at hc1 hc2
        by_cases hxy : x = y
        · have t2 : (x != y) = false := by rw [hxy]; simp
          have h2 : xs.take (k + 1) = ys.take (k + 1) := by rw [htk, hty, HEQ.out, hxy]
          have H2 := Lib.hid h2
          clear h2 hxy htk hty hxk hyk
          go_wp2
          go_quiet (fail)
          go_wp2
          go_roundw
          case rel => exact ⟨k + 1, by rw [← HN.out]; omega, by go_num, H2.out, _, rfl⟩
          case measure => simp [intOf]; omega
        · have t2 : (x != y) = true := by rw [bne_iff_ne]; exact hxy
          have h2 : eqB xs ys = false := eqB_false fun e => by
            subst e
            exact hxy (by rw [hxk, hyk])
          have H2 := Lib.hid h2
          clear h2 hxy htk hty hxk hyk
          go_wp2
          go_quiet (fail)
          go_wp2
          go_ret
          exact ⟨ret_bool H2.out.symm, _, World.drewN_drewN _ _ _⟩
      · obtain rfl : k = n := by omega
        have h2 : eqB xs ys = true := eqB_true (by
          have := HEQ.out
          rwa [List.take_of_length_le (by rw [← HN.out]; exact Nat.le_refl _), List.take_of_length_le (by rw [← HM.out, ← HNM.out]; exact Nat.le_refl _)] at this)
        have H2 := Lib.hid h2
        clear h2
        go_wp2
        go_ret
        exact ⟨ret_bool H2.out.symm, _, rfl⟩
  · have t1 : ((n : Int) != (m : Int)) = true := by rw [bne_iff_ne]; omega
    have h2 : eqB xs ys = false := eqB_false fun e => hnm (by rw [HN.out, HM.out, e])
    have H2 := Lib.hid h2
    clear h2 hnm
    go_enter Tryz.func49, Tryz.ntmps49
    go_wp2
    go_ret
    exact ⟨ret_bool H2.out.symm, 0, rfl⟩
end Go.Proofs.YteceghbjjnknbaaGreat

namespace Go.Proofs.YteceghbjjnknbaaGreat
open Go.RowKit Zp
section
variable {p kk : Nat} [NeZero p] {T : Nat → Fin p} {a b n : Nat} {s r : Fin p} {D at_ : List Int} {asked : Nat}
theorem shown_col {L : List Int} (hin : ∀ x ∈ L, 0 ≤ x ∧ x < (n : Int)) {i : Nat} (h : i < L.length) : (openR p (pcols p T a b n s r) L)[i]'(by rw [openR_len]; exact h) = pcol p T a b s r (L[i]).toNat := by
  have hx := hin _ (List.getElem_mem h)
  simp only [openR, List.getElem_map]
  rw [rowF_pcols (by omega), els_pcol]
theorem shown_width {L : List Int} (hin : ∀ x ∈ L, 0 ≤ x ∧ x < (n : Int)) : (openR p (pcols p T a b n s r) L).any (fun l => decide (l.length ≠ 2 ^ a)) = false := by
  rw [List.any_eq_false]
  intro l hl
  obtain ⟨i, hi, rfl⟩ := List.mem_iff_getElem.1 hl
  rw [openR_len] at hi
  rw [shown_col hin hi, pcol_length]
  simp
theorem col_agrees (w : Nat → Fin p) {x : Int} (hx : 0 ≤ x ∧ x < (n : Int)) : decide (sumT (2 ^ a) (agE (pcol p T a b s r x.toNat) w) = ev (els p (fvs (tab (2 ^ b) (mixE T (2 ^ a) (2 ^ b) w)))) (s * pw r (x % (n : Int)).toNat)) = true := by
  rw [els_fvs, Int.emod_eq_of_lt hx.1 hx.2]
  exact decide_eq_true (agrees_ok w x.toNat)
end
set_option maxRecDepth 100000 in
set_option maxHeartbeats 4000000 in
theorem pcheck_any (p S b s kk zz c Dd v nd : Nat) [NeZero p] (s0 : Fin p) (oo : Nat → Nat → Fin p) (hv : v ≤ 12) (hroom : 2 ^ (v - v / 2) ≤ nd / 2) (T : Nat → Fin p)
    (B : Option Addr) (cB : Nat) (xs : List Int) (hxl : xs.length = v) (hcB : v ≤ cB) (hcB9 : cB ≤ 9223372036854775807) (hxI : ∀ x ∈ xs, I64 x) (asked : Nat) (ha1 : 1 ≤ asked) (ha2 : asked ≤ 64) (D : List Int) (wc w : World) (hbc : Below wc.heap.size wc w) (hcc : wc.heap.size ≤ c) (hD : Dom wc S Dd b p nd s0) (G : Spg wc s b kk zz oo) (hx : SL wc B xs) (hC : Chn w c s D)
    (g : Nat) (Am : Option Addr) (cm : Nat) (Ap : Option Addr) (cp : Nat) (A0 : Option Addr) (n0 c0 : Nat) (AR : Option Addr) (nR cR : Nat) (AN : Option Addr) (nN cN : Nat)
    (hP : ∀ W, Safe w W → SL W (some ⟨g, 0, none⟩) (proot p kk T (v / 2) (v - v / 2) nd s0 (rootI p nd)) ∧
    SL W Am (pmix p kk T (v / 2) (v - v / 2) nd s0 (rootI p nd) D xs) ∧ SL W Ap (ppnt p T (v / 2) (v - v / 2) xs) ∧
    OpnAt W A0 n0 c0 (ppl p kk T (v / 2) (v - v / 2) nd s0 (rootI p nd) D xs asked) AR nR cR (openR p (pcols p T (v / 2) (v - v / 2) nd s0 (rootI p nd)) (ppl p kk T (v / 2) (v - v / 2) nd s0 (rootI p nd) D xs asked)) AN nN cN ((hidL (ppl p kk T (v / 2) (v - v / 2) nd s0 (rootI p nd) D xs asked) 0 nd).map fun g => rootD (digL p kk) (rowF (pcols p T (v / 2) (v - v / 2) nd s0 (rootI p nd))) g.1 g.2)) :
    Calls Tryz.prog 14 #[.pointer (some ⟨s, 0, none⟩), .pointer (some ⟨c, 0, none⟩), .pointer (some ⟨Dd, 0, none⟩), vi v, .slice B v cB, vi asked, .agg #[.slice (some ⟨g, 0, none⟩) 4 4, .slice Am (2 ^ (v - v / 2)) cm, .slice Ap (2 ^ (v - v / 2)) cp, .slice A0 n0 c0, .slice AR nR cR, .slice AN nN cN]] w
      fun e w' => e = .returned (.tuple #[vi (fv (extF T (els p xs))), .bool true]) ∧ w.grownBy w' (some c) := by
  have hnp := hD.size.pos
  have hn2 := hD.size.le
  have hp2 := hD.fld.max
  have hp1 := hD.fld.two
  have hcw : c < w.heap.size := hC.lt
  have hSc : S ≤ c := Nat.le_trans hD.fld.le hcc
  have hsc : s < c := Nat.lt_of_lt_of_le (block_lt_of_cell G.c0) hcc
  have HB0 : Hid (∀ W, w.grownBy W (some c) → Below wc.heap.size wc W) := Lib.hid fun W hg => hbc.grown hg hbc.size (fun j hj => by injection hj with hj; omega)
  have HK : Hid (∀ W, w.grownBy W (some c) → Dom W S Dd b p nd s0 ∧ Spg W s b kk zz oo ∧ SL W B xs) := Lib.hid fun W hg => by
    have h := HB0.out W hg
    exact ⟨hD.below h hD.le, G.below h (block_lt_of_cell G.c0), hx.below h⟩
  obtain ⟨cv, hcv⟩ := hC.obj
  have HSF : Hid (∀ W, w.grownBy W (some c) → Safe w W) := Lib.hid fun W hg => Safe.one hg hcv ⟨by decide, by decide, by decide⟩
  -- names
  obtain ⟨root, hroot⟩ : ∃ root, root = proot p kk T (v / 2) (v - v / 2) nd s0 (rootI p nd) := ⟨_, rfl⟩
  obtain ⟨M1, hM1⟩ : ∃ M1, M1 = pmix p kk T (v / 2) (v - v / 2) nd s0 (rootI p nd) D xs := ⟨_, rfl⟩
  obtain ⟨M2, hM2⟩ : ∃ M2, M2 = ppnt p T (v / 2) (v - v / 2) xs := ⟨_, rfl⟩
  obtain ⟨L, hL⟩ : ∃ L, L = ppl p kk T (v / 2) (v - v / 2) nd s0 (rootI p nd) D xs asked := ⟨_, rfl⟩
  rw [← hroot, ← hM1, ← hM2, ← hL] at hP
  obtain ⟨vb, hvb⟩ : ∃ vb, vb = v - v / 2 := ⟨_, rfl⟩
  obtain ⟨wd, hwd⟩ : ∃ wd, wd = 2 ^ vb := ⟨_, rfl⟩
  have hb6 : vb ≤ 12 := by omega
  have hw2 : wd ≤ 4096 := by rw [hwd]; exact Nat.pow_le_pow_right (n := 2) (by omega) hb6
  have hc2 : 2 ^ (v / 2) ≤ 4096 := Nat.pow_le_pow_right (n := 2) (by omega) (show v / 2 ≤ 12 by omega)
  have hpw : ((2 : Int) ^ vb) = (wd : Int) := by rw [hwd, Int.natCast_pow]; rfl
  have hmin : min vb 64 = vb := by omega
  have hww : IntKind.i64.wrap (wd : Int) = (wd : Int) := IntWalk.i64_in _ (by constructor <;> omega)
  have hrl : root.length = 4 := by rw [hroot]; exact rootD_len _ _ _ _ _
  have hri : ∀ y ∈ root, I64 y := by
    rw [hroot, proot, ← els_rootD]
    exact i64_fvs _ hp2
  have hM1l : M1.length = wd := by rw [hM1, hwd, hvb, pmix]; simp only [fvs, List.length_map]; exact tab_length _ _
  have hM1i : ∀ y ∈ M1, I64 y := by rw [hM1, pmix]; exact i64_fvs _ hp2
  have hM2l : M2.length = wd := by rw [hM2, hwd, hvb, ppnt]; simp only [fvs, List.length_map]; exact tab_length _ _
  have hM2i : ∀ y ∈ M2, I64 y := by rw [hM2, ppnt]; exact i64_fvs _ hp2
  have hin : ∀ x ∈ L, 0 ≤ x ∧ x < (nd : Int) := by rw [hL]; exact ppl_in hnp
  have htk : TakenP p kk L (openR p (pcols p T (v / 2) vb nd s0 (rootI p nd)) L) ((hidL L 0 nd).map fun g => rootD (digL p kk) (rowF (pcols p T (v / 2) vb nd s0 (rootI p nd))) g.1 g.2) root nd := by
    have h := taken_opened (p := p) (k := kk) (pcols p T (v / 2) vb nd s0 (rootI p nd)) L nd hnp hn2 hin
    rw [show onceL L = L by rw [hL, ppl]; exact onceL_asc (asc_onceL _)] at h
    rw [hroot, proot, ← hvb]
    exact h
  rw [← hvb, ← hwd]
  rw [← hvb] at hP
  have hL5 : L = onceL (placesL p kk (pd5 p kk T (v / 2) vb nd s0 (rootI p nd) D xs) (nd : Int) asked) := by rw [hL, ← hvb]; rfl
  have hL64 : L.length ≤ nd := Asc.len (by rw [hL, ppl]; exact asc_onceL _) hin
  rw [← hvb] at hroot hM1 hM2
  clear hL
  have hval : sumT wd (isE M2 (els p (xs.drop (v / 2)))) = extF T (els p xs) := by
    rw [← pledge_is (p := p) (T := T) (a := v / 2) (b := vb) (at_ := xs) (by rw [hxl, hvb]; omega), hwd, hM2]
    rfl
  have HR := Lib.hid (show decide (2 ^ (v - v / 2) ≤ nd / 2) = true from decide_eq_true hroom)
  have HASK := Lib.hid (fun W => asks_any (asked : Int) (by constructor <;> omega) W)
  have HASK1 := Lib.hid (show decide ((1 : Int) ≤ (asked : Int) ∧ (asked : Int) ≤ 64) = true from decide_eq_true (by omega))
  have HNM := Lib.hid (And.intro hroot (And.intro hM1 (And.intro hM2 (And.intro hL5 hval))))
  have HRT := Lib.hid (And.intro hrl hri)
  have HM1 := Lib.hid (And.intro hM1l hM1i)
  have HM2 := Lib.hid (And.intro hM2l hM2i)
  have HIN := Lib.hid (And.intro hin hL64)
  have HTKN := Lib.hid htk
  have HX := Lib.hid (And.intro hxl hxI)
  have HP := Lib.hid hP
  have HC := Lib.hid hC
  have HVB := Lib.hid (And.intro hvb (And.intro hwd hc2))
  obtain ⟨W0, hW0⟩ : ∃ W0, W0 = (w.alloc (.cells #[.slice B v cB] 25)).alloc (.cells #[.slice (some ⟨g, 0, none⟩) 4 4, .slice Am wd cm, .slice Ap wd cp, .slice A0 n0 c0, .slice AR nR cR, .slice AN nN cN] 53) := ⟨_, rfl⟩
  have hb0 : Below w.heap.size w W0 := by rw [hW0]; exact ((Below.refl _ _).alloc (Nat.le_refl _) _).alloc (by simp) _
  have hs0 : W0.heap.size = w.heap.size + 2 := by rw [hW0]; simp
  have hBa : Blk W0 w.heap.size 25 #[.slice B v cB] := by rw [hW0]; exact (Blk.new _ _ _).alloc _
  have hBz : Blk W0 (w.heap.size + 1) 53 #[.slice (some ⟨g, 0, none⟩) 4 4, .slice Am wd cm, .slice Ap wd cp, .slice A0 n0 c0, .slice AR nR cR, .slice AN nN cN] := by
    rw [hW0]
    have h := Blk.new (w.alloc (.cells #[.slice B v cB] 25)) 53 #[.slice (some ⟨g, 0, none⟩) 4 4, .slice Am wd cm, .slice Ap wd cp, .slice A0 n0 c0, .slice AR nR cR, .slice AN nN cN]
    rw [World.size_alloc] at h
    exact h
  have hg0 := grown_of_below hb0 (some c)
  have HSH := Lib.hid (shaped_any b Dd v nd hv hn2 W0 (HK.out _ hg0).1.c0 (HK.out _ hg0).1.c1)
  have a0 := (hBa.cell 0).trans (show _ = some (.slice B v cB) from rfl)
  have HW0 := Lib.hid hW0
  have H0 := Lib.hid (And.intro hb0 (And.intro hs0 (And.intro hBa hBz)))
  have tab0 : ((v : Int) != (v : Int)) = false := by simp
  have tab1 : ((wd : Int) != (wd : Int)) = false := by simp
  have n1 : ¬ (v : Int) < 0 := by omega
  have n2 : ¬ (12 : Int) < (v : Int) := by omega
  clear hroom hroot hM1 hM2 hL5 hL64 hrl hri hM1l hM1i hM2l hM2i hin htk hxl hxI hP hC hvb hwd hc2 hb0 hs0 hBa hBz hg0 hW0 hcv hD G hx hbc hval
  go_enter Tryz.func14, Tryz.ntmps14
  go_upto_region 1 with (fail)
  rw [← HW0.out]
  go_wp2_with fail
  refine (HASK.out _).mono ?_
  rintro _ _ ⟨rfl, rfl⟩
  rw [HASK1.out]
  go_wp2_with fail
  refine HSH.out.mono ?_
  rintro _ w2 ⟨x, rfl, hx, hX, hb⟩
  rw [HR.out]
  have HX2 := Lib.hid (And.intro hX hb)
  clear hX hb a0 n1 n2
  go_upto_region 4 with (fail)
  obtain ⟨W3, hW3⟩ : ∃ W3, W3 = w2.alloc (.cells #[.pointer (some ⟨x, 0, none⟩)] 97) := ⟨_, rfl⟩
  rw [← hW3]
  obtain ⟨kA, hkA⟩ : ∃ kA, kA = w.heap.size := ⟨_, rfl⟩
  obtain ⟨kx, hkx⟩ : ∃ kx, kx = w2.heap.size := ⟨_, rfl⟩
  rw [← hkA, ← hkx]
  have hb03 : Below W0.heap.size W0 W3 := HX2.out.2.trans (by rw [hW3]; exact ((Below.refl _ _).alloc (Nat.le_refl _) _).mono HX2.out.2.size)
  have hb3 : Below w.heap.size w W3 := H0.out.1.trans (hb03.mono H0.out.1.size)
  have hA3 : Blk W3 kA 25 #[.slice B v cB] := by rw [hkA]; exact H0.out.2.2.1.below hb03 H0.out.2.2.1.lt
  have hZ3 : Blk W3 (kA + 1) 53 #[.slice (some ⟨g, 0, none⟩) 4 4, .slice Am wd cm, .slice Ap wd cp, .slice A0 n0 c0, .slice AR nR cR, .slice AN nN cN] := by rw [hkA]; exact H0.out.2.2.2.below hb03 H0.out.2.2.2.lt
  have hx3 : Blk W3 kx 97 #[.pointer (some ⟨x, 0, none⟩)] := by rw [hW3, hkx]; exact Blk.new _ _ _
  have hX3 : ShapeAt W3 x b Dd v := Blk.below HX2.out.1 (by rw [hW3]; exact (Below.refl _ _).alloc (Nat.le_refl _) _) (Blk.lt HX2.out.1)
  have e0 := (hZ3.cell 1).trans (show _ = some (.slice Am wd cm) from rfl)
  have e1 := (hx3.cell 0).trans (show _ = some (.pointer (some ⟨x, 0, none⟩)) from rfl)
  have e2 := (hZ3.cell 2).trans (show _ = some (.slice Ap wd cp) from rfl)
  have e3 := (Blk.cell hX3 3).trans (show _ = some (vi ((v - v / 2 : Nat) : Int)) from rfl)
  rw [← HVB.out.1] at e3
  have K3 : Hid (∀ W, W3.grownBy W (some c) → w.grownBy W (some c) ∧ Blk W kA 25 #[.slice B v cB] ∧ Blk W (kA + 1) 53 #[.slice (some ⟨g, 0, none⟩) 4 4, .slice Am wd cm, .slice Ap wd cp, .slice A0 n0 c0, .slice AR nR cR, .slice AN nN cN] ∧ Blk W kx 97 #[.pointer (some ⟨x, 0, none⟩)] ∧ ShapeAt W x b Dd v) := Lib.hid fun W hg => by
    have key : ∀ {k : Nat} {t : TypeId} {cs : Array Value}, Blk W3 k t cs → c < k → Blk W k t cs := fun h hk => h.grown hg (by intro e; injection e with e; omega)
    have h1 := H0.out.2.1
    have h2 := HX2.out.2.size
    exact ⟨grownBy_trans (grown_of_below hb3 _) hg, key hA3 (by omega), key hZ3 (by omega), key hx3 (by omega), key hX3 (by omega)⟩
  have HC3 := Lib.hid (HC.out.below hb3)
  have HKA := Lib.hid (show c < kA by omega)
  clear hW3 hkA hkx hb03 hb3 hA3 hZ3 hx3 hX3 hx
  go_quiet (fail)
  clear e0 e1 e2 e3 hpw hmin hww tab0 tab1
  obtain ⟨w4, hw4⟩ : ∃ w4, w4 = W3.drewN nq := ⟨_, rfl⟩
  rw [← hw4]
  have hg4 : W3.grownBy w4 (some c) := by rw [hw4]; exact grown_of_below (below_drewN (Below.refl _ _) _) _
  have hC4 : Chn w4 c s D := by rw [hw4]; exact HC3.out.drewN _
  clear hw4
  have HTK := Lib.hid (fun (D' : List Int) A' n' c' l' hl' hI' hr' (W : World) (hg : W3.grownBy W (some c)) hC hs => chtake_any p S b s kk zz c oo D' A' n' c' l' hl' hI' hr' W (HK.out W (K3.out W hg).1).1.fld (HK.out W (K3.out W hg).1).2.1 hSc hsc hC hs)
  have HDR := Lib.hid (fun (D' : List Int) (W : World) (hg : W3.grownBy W (some c)) hC => chdraw_any p S b s kk zz c oo D' W (HK.out W (K3.out W hg).1).1.fld (HK.out W (K3.out W hg).1).2.1 hSc hsc hC)
  have KP : Hid (∀ W, W3.grownBy W (some c) → SL W (some ⟨g, 0, none⟩) root ∧ SL W Am M1 ∧ SL W Ap M2 ∧ OpnAt W A0 n0 c0 L AR nR cR (openR p (pcols p T (v / 2) vb nd s0 (rootI p nd)) L) AN nN cN ((hidL L 0 nd).map fun g => rootD (digL p kk) (rowF (pcols p T (v / 2) vb nd s0 (rootI p nd))) g.1 g.2)) := Lib.hid fun W hg => HP.out W (HSF.out W (K3.out W hg).1)
  have a1 := ((K3.out w4 hg4).2.2.1.cell 0).trans (show _ = some (.slice (some ⟨g, 0, none⟩) 4 4) from rfl)
  have HT4 := Lib.hid (HTK.out D (some ⟨g, 0, none⟩) 4 4 root HRT.out.1 HRT.out.2 (by omega) w4 hg4 hC4 (KP.out w4 hg4).1)
  have HG4 := Lib.hid hg4
  clear hg4 hC4
  go_wp2_with fail
  refine HT4.out.mono ?_
  rintro _ w7 ⟨⟨r7, rfl⟩, hC7, hg7, -⟩
  obtain ⟨D1, hD1⟩ : ∃ D1, D1 = digL p kk (3 :: (D ++ root)) := ⟨_, rfl⟩
  rw [← hD1] at hC7
  have hG7 := grownBy_trans HG4.out hg7
  have HD1 := Lib.hid hD1
  have HG7 := Lib.hid hG7
  have a0 := ((K3.out w7 hG7).2.1.cell 0).trans (show _ = some (.slice B v cB) from rfl)
  have HT7 := Lib.hid (HTK.out D1 B v cB xs HX.out.1 HX.out.2 (by omega) w7 hG7 hC7 (HK.out w7 (K3.out w7 hG7).1).2.2)
  clear hC7 hg7 hD1 hG7 a1
  go_wp2_with fail
  refine HT7.out.mono ?_
  rintro _ w8 ⟨⟨r8, rfl⟩, hC8, hg8, -⟩
  obtain ⟨D2, hD2⟩ : ∃ D2, D2 = digL p kk (3 :: (D1 ++ xs)) := ⟨_, rfl⟩
  rw [← hD2] at hC8
  have hG8 := grownBy_trans HG7.out hg8
  have HD2 := Lib.hid hD2
  have HG8 := Lib.hid hG8
  have HT8 := Lib.hid (HDR.out D2 w8 hG8 hC8)
  clear hC8 hg8 hD2 hG8 a0
  go_wp2_with fail
  refine HT8.out.mono ?_
  rintro _ w10 ⟨rfl, hC10, hg10, -⟩
  obtain ⟨D3, hD3⟩ : ∃ D3, D3 = drawnL p kk D2 := ⟨_, rfl⟩
  rw [← hD3] at hC10
  rw [← hD3]
  obtain ⟨r, hr⟩ : ∃ r, r = D3.getD 0 0 := ⟨_, rfl⟩
  have hrI : I64 r := by
    obtain ⟨y, hy⟩ := digL_bounds (p := p) (k := kk) (4 :: D2) (j := 0) (by omega)
    rw [hr, hD3]
    rw [show (drawnL p kk D2).getD 0 0 = fv y from hy]
    exact i64_fv _ hp2
  have hd3 : D3 = pd3 p kk T (v / 2) vb nd s0 (rootI p nd) D xs := by
    rw [hD3, HD2.out, HD1.out, HNM.out.1]; rfl
  have hm1 : M1 = fvs (tab (2 ^ vb) (mixE T (2 ^ (v / 2)) (2 ^ vb) fun i => pw (el p r) i)) := by
    rw [HNM.out.2.1, hr, hd3]; rfl
  rw [← hr]
  have HD3 := Lib.hid (And.intro hd3 (And.intro hm1 hrI))
  have hG10 := grownBy_trans HG8.out hg10
  have HG10 := Lib.hid (And.intro hG10 hC10)
  clear hC10 hg10 hD3 hr hrI hd3 hm1 hG10
  go_upto_region 9 with (fail)
  obtain ⟨kr, hkr⟩ : ∃ kr, kr = w10.heap.size := ⟨_, rfl⟩
  rw [← hkr]
  obtain ⟨w11, hw11⟩ : ∃ w11, w11 = w10.alloc (.cells #[vi r] 3) := ⟨_, rfl⟩
  rw [← hw11]
  have hb11 : Below w10.heap.size w10 w11 := by rw [hw11]; exact (Below.refl _ _).alloc (Nat.le_refl _) _
  have hR11 : Blk w11 kr 3 #[vi r] := by rw [hw11, hkr]; exact Blk.new _ _ _
  have hG11 := grownBy_trans HG10.out.1 (grown_of_below hb11 (some c))
  have hC11 := HG10.out.2.below hb11
  have hckr : c < kr := by rw [hkr]; exact HG10.out.2.lt
  have KR : Hid (∀ W, w11.grownBy W (some c) → Blk W kr 3 #[vi r]) := Lib.hid fun W hg => hR11.grown hg (by intro e; injection e with e; omega)
  have HG11 := Lib.hid hG11
  have a1 := ((K3.out w11 hG11).2.2.1.cell 1).trans (show _ = some (.slice Am wd cm) from rfl)
  have HT11 := Lib.hid (HTK.out D3 Am wd cm M1 HM1.out.1 HM1.out.2 (by omega) w11 hG11 hC11 (KP.out w11 hG11).2.1)
  clear hkr hw11 hb11 hR11 hG11 hC11 hckr
  go_wp2_with fail
  refine HT11.out.mono ?_
  rintro _ w12 ⟨⟨r12, rfl⟩, hC12, hg12, -⟩
  obtain ⟨D4, hD4⟩ : ∃ D4, D4 = digL p kk (3 :: (D3 ++ M1)) := ⟨_, rfl⟩
  rw [← hD4] at hC12
  have hG12 := grownBy_trans HG11.out hg12
  have HD4 := Lib.hid hD4
  have HG12 := Lib.hid (And.intro hG12 hg12)
  have a2 := ((K3.out w12 hG12).2.2.1.cell 2).trans (show _ = some (.slice Ap wd cp) from rfl)
  have HT12 := Lib.hid (HTK.out D4 Ap wd cp M2 HM2.out.1 HM2.out.2 (by omega) w12 hG12 hC12 (KP.out w12 hG12).2.2.1)
  clear hC12 hg12 hD4 hG12 a1
  go_wp2_with fail
  refine HT12.out.mono ?_
  rintro _ w13 ⟨⟨r13, rfl⟩, hC13, hg13, -⟩
  obtain ⟨D5, hD5⟩ : ∃ D5, D5 = digL p kk (3 :: (D4 ++ M2)) := ⟨_, rfl⟩
  rw [← hD5] at hC13
  have hd5 : D5 = pd5 p kk T (v / 2) vb nd s0 (rootI p nd) D xs := by
    rw [hD5, HD4.out, HD3.out.1, HNM.out.2.1, HNM.out.2.2.1]; rfl
  have hl5 : onceL (placesL p kk D5 (nd : Int) asked) = L := by rw [HNM.out.2.2.2.1, hd5]
  have hG13 := grownBy_trans HG12.out.1 hg13
  have hg113 := grownBy_trans HG12.out.2 hg13
  have HG13 := Lib.hid (And.intro hG13 hg113)
  have hd1 := (HK.out w13 (K3.out w13 hG13).1).1.c1
  have HSZ := Lib.hid (size_any Dd nd w13 hd1)
  have hdw := pdrawn_any p S b s kk zz c oo D5 (nd : Int) (by omega) (by omega) asked ha1 ha2 w13 hSc hsc (fun W hg => by
    have h := HK.out W (K3.out W (grownBy_trans hG13 hg)).1
    exact ⟨h.1.fld, h.2.1⟩) hC13
  unfold DrawnOnce at hdw
  rw [hl5] at hdw
  have HDW := Lib.hid hdw
  clear hC13 hg13 hD5 hd5 hl5 hG13 hg113 hd1 hdw a2
  go_wp2_with fail
  refine HSZ.out.mono ?_
  rintro _ _ ⟨rfl, rfl⟩
  go_wp2_with fail
  refine HDW.out.mono ?_
  rintro _ w14 ⟨A14, m14, c14, rfl, ho14, -, hg14⟩
  obtain ⟨_, _, _, e14, hl14, _, _, hs14⟩ := ho14.shapeN
  injection e14 with q1 q2 q3
  subst q1 q2 q3
  have hG14 := grownBy_trans HG13.out.1 hg14
  have hg114 := grownBy_trans HG13.out.2 hg14
  have HG14 := Lib.hid (And.intro hG14 (And.intro hg114 (And.intro hl14 hs14)))
  clear ho14 hl14 hs14 hg14 hG14 hg114
  clear HTK HDR HT4 HT7 HT8 HT11 HT12 HDW HSZ HASK HASK1 HSH HR
  go_upto_region 13 with (fail)
  have KX : Hid (∀ W, Below w14.heap.size w14 W → W3.grownBy W (some c) ∧ w11.grownBy W (some c) ∧ SL W A14 L) := Lib.hid fun W hb =>
    ⟨grownBy_trans HG14.out.1 (grown_of_below hb _), grownBy_trans HG14.out.2.1 (grown_of_below hb _), HG14.out.2.2.2.below hb⟩
  have KS : Hid (∀ W, Below w14.heap.size w14 W → W.cell? ⟨kA + 1, 0, none⟩ = some (.slice (some ⟨g, 0, none⟩) 4 4) ∧ W.cell? ⟨kA + 1, 3, none⟩ = some (.slice A0 n0 c0) ∧ W.cell? ⟨kA + 1, 4, none⟩ = some (.slice AR nR cR) ∧ W.cell? ⟨kA + 1, 5, none⟩ = some (.slice AN nN cN)) := Lib.hid fun W hb => by
    have h := (K3.out W (KX.out W hb).1).2.2.1
    exact ⟨(h.cell 0).trans rfl, (h.cell 3).trans rfl, (h.cell 4).trans rfl, (h.cell 5).trans rfl⟩
  have HEQ : Hid (∀ W, Below w14.heap.size w14 W → Calls Tryz.prog 49 #[.slice A0 n0 c0, .slice A14 m14 c14] W fun e w' => e = .returned (.bool true) ∧ ∃ k, w' = W.drewN k) := Lib.hid fun W hb => by
    have hop := (KP.out W (KX.out W hb).1).2.2.2
    have hl := HIN.out.2
    have h := equal_any A0 A14 c0 c14 L L (by omega) (by omega) W hop.s0 (KX.out W hb).2.2
    rw [eqB_true rfl, HG14.out.2.2.1] at h
    rw [show n0 = m14 by rw [← hop.l0]; exact HG14.out.2.2.1]
    exact h
  have HSZ := Lib.hid (fun (W : World) (hb : Below w14.heap.size w14 W) => size_any Dd nd W (HK.out W (K3.out W (KX.out W hb).1).1).1.c1)
  have HTC : Hid (∀ W, Below w14.heap.size w14 W → Calls Tryz.prog 50 #[.pointer (some ⟨s, 0, none⟩), .slice (some ⟨g, 0, none⟩) 4 4, vi (nd : Int), .agg #[.slice A0 n0 c0, .slice AR nR cR, .slice AN nN cN]] W fun e w' => SaysW (.bool true) W e w') := Lib.hid fun W hb => by
    have hk := HK.out W (K3.out W (KX.out W hb).1).1
    have hp := KP.out W (KX.out W hb).1
    have h := tcheck_w p S b s kk zz oo (some ⟨g, 0, none⟩) 4 4 root ⟨HRT.out.1, HRT.out.2, by omega⟩ (nd : Int) W hk.1.fld hk.2.1 hp.1 hp.2.2.2
    rw [takenB_true HTKN.out] at h
    exact h
  have HCT : Hid (∀ W, Below w14.heap.size w14 W → Calls Tryz.prog 51 #[.slice AR nR cR, .func (.func 48) #[] #[.pointer (some ⟨kx, 0, none⟩)]] W fun e w' => e = .returned (.bool false) ∧ W = w') := Lib.hid fun W hb => by
    have hk := K3.out W (KX.out W hb).1
    have hp := (KP.out W (KX.out W hb).1).2.2.2
    have hnr : nR ≤ 9223372036854775806 := by have := hp.bR; omega
    have h := containsRC_any 48 (enters_of Tryz.func48 (by kernel_rfl) rfl) #[.pointer (some ⟨kx, 0, none⟩)] (fun l => decide (l.length ≠ 2 ^ (v / 2))) AR nR cR _ hp.lR hnr W (fun A1 n1 c1 y hy1 hy2 _ => wide_any x kx (v / 2) (by omega) A1 n1 c1 y hy1 hy2 W ((hk.2.2.2.1.cell 0).trans rfl) ((Blk.cell hk.2.2.2.2 2).trans rfl)) hp.tR
    rw [shown_width HIN.out.1] at h
    exact h
  refine wp_region_held_drew (S := fun W => W.cell? ⟨kA + 1, 0, none⟩ = some (.slice (some ⟨g, 0, none⟩) 4 4) ∧ W.cell? ⟨kA + 1, 3, none⟩ = some (.slice A0 n0 c0) ∧ W.cell? ⟨kA + 1, 4, none⟩ = some (.slice AR nR cR) ∧ W.cell? ⟨kA + 1, 5, none⟩ = some (.slice AN nN cN)) (by kernel_rfl) (KS.out w14 (Below.refl _ _)) (fun hHeld => ?_)
  have d0 : Below w14.heap.size w14 w14.drew := below_drewN (Below.refl _ _) 1
  refine tkH 0 ?_
  refine tkH 1 ?_
  refine tkH 2 ?_
  refine tkH 3 ?_
  refine stH 4 (fun K hK => ?_)
  go_simp
  refine (HEQ.out _ d0).mono ?_
  rintro _ w15 ⟨rfl, k15, h15⟩
  have d1 : Below w14.heap.size w14 w15 := by rw [h15]; exact below_drewN d0 _
  clear h15 d0
  refine hK.out _ _ (KS.out _ d1) (fun hHeld => ?_)
  clear hK K
  (try simp only [Act.put, List.setIfInBounds_toArray, List.set_cons_zero, List.set_cons_succ])
  refine tkH 5 ?_
  refine tkH 6 ?_
  refine tkH 7 ?_
  refine tkH 8 ?_
  refine tkH 9 ?_
  refine tkH 10 ?_
  refine tkH 12 ?_
  refine tkH 13 ?_
  refine stH 11 (fun K hK => ?_)
  go_simp
  refine (HSZ.out _ d1).mono ?_
  rintro _ _ ⟨rfl, rfl⟩
  refine hK.out _ _ (KS.out _ d1) (fun hHeld => ?_)
  clear hK K
  (try simp only [Act.put, List.setIfInBounds_toArray, List.set_cons_zero, List.set_cons_succ])
  refine stH 14 (fun K hK => ?_)
  go_simp
  refine (HTC.out _ d1).mono ?_
  rintro _ w16 ⟨rfl, hb16⟩
  have d2 := d1.trans (hb16.mono d1.size)
  clear d1 hb16
  refine hK.out _ _ (KS.out _ d2) (fun hHeld => ?_)
  clear hK K
  (try simp only [Act.put, List.setIfInBounds_toArray, List.set_cons_zero, List.set_cons_succ])
  refine tkH 15 ?_
  refine tkH 16 ?_
  refine tkH 17 ?_
  refine tkH 18 ?_
  refine tkH 19 ?_
  refine tkH 20 ?_
  refine tkH 21 ?_
  refine stH 22 (fun K hK => ?_)
  go_simp
  refine (HCT.out _ d2).mono ?_
  rintro _ _ ⟨rfl, rfl⟩
  refine hK.out _ _ (KS.out _ d2) (fun hHeld => ?_)
  clear hK K
  (try simp only [Act.put, List.setIfInBounds_toArray, List.set_cons_zero, List.set_cons_succ])
  refine tkH 23 ?_
  refine wpAnyH_done (by kernel_rfl) ?_ _
  have HD2x := Lib.hid d2
  clear hHeld d2 HEQ HSZ HTC HCT
  go_wp2
  have hm14 : m14 ≤ 65536 := by
    have h1 := HIN.out.2
    have h2 := HG14.out.2.2.1
    omega
  go_loopw [121] (fun i wr => ∃ t : Nat, t ≤ m14 ∧ i = vi t ∧ Below w14.heap.size w14 wr) (fun i _ => m14 - (intOf i).toNat)
  case atStart => exact ⟨0, Nat.zero_le _, rfl, HD2x.out⟩
  case round =>
    rename World => w17
    obtain ⟨t, ht, rfl, hb⟩ := hrel
    by_cases htm : t < m14
    · have hx17 := KX.out w17 hb
      have hk17 := K3.out w17 hx17.1
      have hK17 := HK.out w17 hk17.1
      have hp17 := KP.out w17 hx17.1
      have htL : t < L.length := by rw [HG14.out.2.2.1]; exact htm
      obtain ⟨ad, rfl, _, cpl⟩ := hx17.2.2.at_ htL
      have htO : t < (openR p (pcols p T (v / 2) vb nd s0 (rootI p nd)) L).length := by rw [openR_len]; exact htL
      have hnR : nR = m14 := by rw [← hp17.2.2.2.lR, openR_len]; exact HG14.out.2.2.1
      obtain ⟨ar, A1, n1, c1, rfl, har, hcr, hl1, hn1, hs1, hi1⟩ := hp17.2.2.2.tR t htO
      have hcol := shown_col (p := p) (T := T) (a := v / 2) (b := vb) (n := nd) (s := s0) (r := rootI p nd) HIN.out.1 htL
      rw [hcol] at hl1 hs1 hi1
      have hn1e : n1 = 2 ^ (v / 2) := by rw [← hl1, pcol_length]
      have hpl := HIN.out.1 _ (List.getElem_mem htL)
      obtain ⟨pl, hple⟩ : ∃ pl, pl = L[t] := ⟨_, rfl⟩
      rw [← hple] at cpl hl1 hs1 hi1 hpl
      have hn14 : n1 ≤ 4096 := by rw [hn1e]; exact HVB.out.2.2
      have hpl64 : I64 pl := by constructor <;> omega
      have f0 := (hk17.2.2.2.1.cell 0).trans (show _ = some (.pointer (some ⟨x, 0, none⟩)) from rfl)
      have f1 := (Blk.cell hk17.2.2.2.2 0).trans (show _ = some (.pointer (some ⟨b, 0, none⟩)) from rfl)
      have f2 := ((KR.out w17 hx17.2.1).cell 0).trans (show _ = some (vi r) from rfl)
      have f3 := (Blk.cell hk17.2.2.2.2 2).trans (show _ = some (vi ((v / 2 : Nat) : Int)) from rfl)
      have f4 := (hk17.2.1.cell 0).trans (show _ = some (.slice B v cB) from rfl)
      have hfb := hK17.1.fld.c0
      have HA1 : Hid (∀ W, Below w17.heap.size w17 W → Calls Tryz.prog 52 #[.pointer (some ⟨x, 0, none⟩), .slice Am wd cm, vi pl, .slice A1 n1 c1, .func (.func 53) #[] #[.pointer (some ⟨kx, 0, none⟩), .pointer (some ⟨kr, 0, none⟩)]] W fun e w' => e = .returned (.bool true) ∧ Below W.heap.size W w') := Lib.hid fun W hbW => by
        have h := agrees_any p S b x Dd v nd s0 53 kx kr (enters_of Tryz.func53 (by kernel_rfl) rfl) (fun i => pw (el p r) i) Am wd cm M1 HM1.out.1 hw2 HM1.out.2 pl hpl64 A1 n1 c1 _ hl1 hn14 hi1 W (hK17.1.below hbW hK17.1.le) (Blk.below hk17.2.2.2.2 hbW (Blk.lt hk17.2.2.2.2)) (hp17.2.1.below hbW) (hs1.below hbW)
          (fun W' hb' i hi => by
            have hb2 := hbW.trans (hb'.mono hbW.size)
            exact powC_any p b x kx kr hp1 hp2 r HD3.out.2.2 i (by omega) W' ((hb2.cell (block_lt_of_cell f0)).trans f0) ((hb2.cell (block_lt_of_cell f2)).trans f2) ((hb2.cell (block_lt_of_cell f1)).trans f1) ((hb2.cell (block_lt_of_cell hfb)).trans hfb))
        rw [HD3.out.2.1, hn1e, col_agrees (p := p) (T := T) (a := v / 2) (b := vb) (n := nd) (s := s0) (r := rootI p nd) _ hpl] at h
        rw [hn1e]
        exact h
      have HA2 : Hid (∀ W, Below w17.heap.size w17 W → Calls Tryz.prog 52 #[.pointer (some ⟨x, 0, none⟩), .slice Ap wd cp, vi pl, .slice A1 n1 c1, .func (.func 54) #[] #[.pointer (some ⟨kx, 0, none⟩), .pointer (some ⟨kA, 0, none⟩)]] W fun e w' => e = .returned (.bool true) ∧ Below W.heap.size W w') := Lib.hid fun W hbW => by
        have h := agrees_any p S b x Dd v nd s0 54 kx kA (enters_of Tryz.func54 (by kernel_rfl) rfl) (wtL (els p (xs.take (v / 2)))) Ap wd cp M2 HM2.out.1 hw2 HM2.out.2 pl hpl64 A1 n1 c1 _ hl1 hn14 hi1 W (hK17.1.below hbW hK17.1.le) (Blk.below hk17.2.2.2.2 hbW (Blk.lt hk17.2.2.2.2)) (hp17.2.2.1.below hbW) (hs1.below hbW)
          (fun W' hb' i hi => by
            have hb2 := hbW.trans (hb'.mono hbW.size)
            exact untC_any p b x kx kA (v / 2) hp1 hp2 B v cB xs HX.out.1 hv (by omega) hcB hcB9 HX.out.2 i (by omega) W' ((hb2.cell (block_lt_of_cell f0)).trans f0) ((hb2.cell (block_lt_of_cell f4)).trans f4) ((hb2.cell (block_lt_of_cell f1)).trans f1) ((hb2.cell (block_lt_of_cell f3)).trans f3) ((hb2.cell (block_lt_of_cell hfb)).trans hfb) (hK17.2.2.below hb2))
        rw [HNM.out.2.2.1, ppnt, hn1e, col_agrees (p := p) (T := T) (a := v / 2) (b := vb) (n := nd) (s := s0) (r := rootI p nd) _ hpl] at h
        rw [hn1e]
        exact h
      have i1 : (0 : Int) ≤ (t : Int) := by omega
      have i2 : (t : Int) < (m14 : Int) := by omega
      have i3 : (t : Int) < (nR : Int) := by omega
      have g1 := (hk17.2.2.1.cell 1).trans (show _ = some (.slice Am wd cm) from rfl)
      have g4 := (hk17.2.2.1.cell 4).trans (show _ = some (.slice (some ar) nR cR) from rfl)
      have HB17 := Lib.hid hb
      clear hb hx17 hk17 hK17 hp17 htO hcol hn1e hple hn14 hpl64 hl1 hs1 hi1 f1 f2 f3 f4 hfb hnR hn1
      go_wp2_with fail
      refine (HA1.out w17 (Below.refl _ _)).mono ?_
      rintro _ w18 ⟨rfl, hb18⟩
      have hb18' := HB17.out.trans (hb18.mono HB17.out.size)
      have hk18 := K3.out w18 (KX.out w18 hb18').1
      have f0 := (hk18.2.2.2.1.cell 0).trans (show _ = some (.pointer (some ⟨x, 0, none⟩)) from rfl)
      have g2 := (hk18.2.2.1.cell 2).trans (show _ = some (.slice Ap wd cp) from rfl)
      have HA2' := Lib.hid (HA2.out w18 hb18)
      have HB18 := Lib.hid hb18'
      clear hb18 hb18' hk18 g1 g4 cpl hcr
      go_wp2_with fail
      refine HA2'.out.mono ?_
      rintro _ w19 ⟨rfl, hb19⟩
      have hb19' := HB18.out.trans (hb19.mono HB18.out.size)
      clear hb19
      go_wp2
      go_roundw
      case rel => exact ⟨t + 1, by omega, by go_num, hb19'⟩
      case measure => simp only [intOf, Int.toNat_natCast]; omega
    · obtain rfl : t = m14 := by omega
      have hx17 := KX.out w17 hb
      have hk17 := K3.out w17 hx17.1
      have hK17 := HK.out w17 hk17.1
      have hp17 := KP.out w17 hx17.1
      have f0 := (hk17.2.2.2.1.cell 0).trans (show _ = some (.pointer (some ⟨x, 0, none⟩)) from rfl)
      have g2 := (hk17.2.2.1.cell 2).trans (show _ = some (.slice Ap wd cp) from rfl)
      have f4 := (hk17.2.1.cell 0).trans (show _ = some (.slice B v cB) from rfl)
      have his := is_any p S b x Dd v hv Ap wd cp M2 HM2.out.1 hw2 HM2.out.2 B cB hcB hcB9 xs HX.out.1 HX.out.2 w17 hK17.1.fld hk17.2.2.2.2 hp17.2.2.1 hK17.2.2
      rw [HNM.out.2.2.2.2] at his
      have HIS := Lib.hid his
      have HGW := Lib.hid hk17.1
      clear hb hx17 hk17 hK17 hp17 his
      go_wp2_with fail
      refine HIS.out.mono ?_
      rintro _ w18 ⟨rfl, hb18⟩
      have HF := Lib.hid (grownBy_trans HGW.out (grown_of_below hb18 (some c)))
      clear hb18
      go_wp2
      go_ret2
      exact ⟨rfl, HF.out⟩
end Go.Proofs.YteceghbjjnknbaaGreat

namespace Go.Proofs.YteceghbjjnknbaaGreat
open Go.RowKit Zp
inductive DnewT (p b : Nat) [NeZero p] (size t : Int) (w : World) (e : Ending) (w' : World) : Prop
  | no (k : Int) (he : e = NoDom k) (hw : w = w')
  | yes (n : Nat) (hn : size = n) (D S : Nat) (he : e = .returned (.tuple #[.pointer (some ⟨D, 0, none⟩), .nilIface])) (hD : Dom w' S D b p n (el p t)) (hw : Below w.heap.size w w')
theorem dnewT_any (p S b : Nat) [NeZero p] (size t : Int) (ht : I64 t) (w : World) (F : Fld w S b p) :
    Calls Tryz.prog 7 #[.pointer (some ⟨b, 0, none⟩), vi size, vi t] w fun e w' => DnewT p b size t w e w' := by
  have hp1 := F.two
  have hp2 := F.max
  by_cases h1 : size < 1 ∨ 65536 < size
  · exact (dnew_size1 b size t h1 w).mono fun e w' ⟨h, hw⟩ => .no 2 h hw
  · obtain ⟨n, rfl⟩ := Int.eq_ofNat_of_zero_le (a := size) (by omega)
    by_cases h2 : SizeOk p n
    · by_cases h3 : el p t = 0
      · exact (dnew_shift p b n t ht hp1 hp2 h2 h3 w F.c0).mono fun e w' ⟨h, hw⟩ => .no 3 h hw
      · refine (dnew_ok p S b n t ht h2 h3 w F).mono fun e w' h => ?_
        obtain ⟨D, h4, h5, h6⟩ := h
        exact .yes n rfl D _ h4 h5 h6.1
    · exact (dnew_size2 p b n t (by omega) (by omega) hp1 hp2 h2 w F.c0).mono fun e w' ⟨h, hw⟩ => .no 2 h hw
set_option maxRecDepth 100000 in
set_option maxHeartbeats 4000000 in
theorem tgates_walk (w : World) (p : Int) (hp : I64 p) (size : Int) (hsz : I64 size) (shift : Int) (hsh : I64 shift) (wide : Int) (hwI : I64 wide) (AL : Option Addr) (nL cL : Nat) (Ls : List (List GateR)) (hLn : Ls.length = nL) (hL2 : nL ≤ 5864062014805) (hLT : LT w AL Ls) (AI : Option Addr) (nI cI : Nat) (inp : List Int) (hin : ArgS w AI nI cI inp) (AB : Option Addr) (nB cB : Nat) (lab : List Int) (hlab : ArgS w AB nB cB lab) (asked : Int) (hai : I64 asked) :
    Calls Tryz.prog 3 #[vi p, vi size, vi shift, .agg #[vi wide, .slice AL nL cL], .slice AI nI cI, .slice AB nB cB, vi asked] w fun e w' => SaysW (.bool true) w e w' := by
  obtain ⟨W0, hW0⟩ : ∃ W0, W0 = w.alloc (.cells #[vi wide, .slice AL nL cL] 24) := ⟨_, rfl⟩
  obtain ⟨kC, hkC⟩ : ∃ kC, kC = w.heap.size := ⟨_, rfl⟩
  have hb0 : Below w.heap.size w W0 := by rw [hW0]; exact (Below.refl _ _).alloc (Nat.le_refl _) _
  have hC0 : Blk W0 kC 24 #[vi wide, .slice AL nL cL] := by rw [hW0, hkC]; exact Blk.new _ _ _
  have HSH := Lib.hid (shown_any W0)
  have HW0 := Lib.hid hW0
  have HKC := Lib.hid hkC
  have H0 := Lib.hid (And.intro hb0 hC0)
  have HLN := Lib.hid (And.intro hLn hL2)
  have HLT := Lib.hid hLT
  have HIN := Lib.hid hin
  have HLB := Lib.hid hlab
  have HAI := Lib.hid hai
  have HSZ := Lib.hid hsz
  have HSF := Lib.hid hsh
  have HWI := Lib.hid hwI
  clear hW0 hkC hb0 hC0 hLn hL2 hLT hin hlab hai hsz hsh hwI hp
  go_enter Tryz.func3, Tryz.ntmps3
  go_upto_region 1 with (fail)
  rw [← HW0.out, ← HKC.out]
  go_wp2_with fail
  refine HSH.out.mono ?_
  rintro _ w1 ⟨rfl, hb1⟩
  have hb01 := H0.out.1.trans (hb1.mono H0.out.1.size)
  have H1 := Lib.hid (And.intro hb01 (H0.out.2.below hb1 H0.out.2.lt))
  clear hb1 hb01 HSH
  go_wp2_with fail
  refine (sponged_any p w1).mono ?_
  intro e w2 h
  cases h with
  | no _ he hw =>
    subst he
    have HB := Lib.hid (H1.out.1.trans (hw.mono H1.out.1.size))
    clear hw
    go_wp2
    go_ret
    exact ⟨rfl, HB.out⟩
  | yes q hq h23 hm hpr hw hF =>
    subst hq
    haveI := hpr.ne
    obtain ⟨S, s, b, kk, zz, oo, rfl, F, G, hs1, hs2⟩ := hF inferInstance
    have hb02 := H1.out.1.trans (hw.mono H1.out.1.size)
    have H2 := Lib.hid (And.intro F (And.intro G (And.intro hb02 (H1.out.2.below hw H1.out.2.lt))))
    have HPR := Lib.hid hpr
    have HFD := Lib.hid (sfield_s s b kk zz oo w2 G)
    have HDN := Lib.hid (dnewT_any q S b size shift HSF.out w2 F)
    clear hF F G hs1 hs2 hw hb02 hpr H1 H0
    go_wp2_with fail
    refine HFD.out.mono ?_
    rintro _ _ ⟨rfl, rfl⟩
    go_wp2_with fail
    refine HDN.out.mono ?_
    intro e w3 h
    cases h with
    | no k he hw =>
      subst he hw
      have HB := Lib.hid H2.out.2.2.1
      go_wp2
      go_ret
      exact ⟨rfl, HB.out⟩
    | yes nd hn Dd S2 he hD hw =>
      subst he hn
      have hb03 := H2.out.2.2.1.trans (hw.mono H2.out.2.2.1.size)
      have hC3 := H2.out.2.2.2.below hw H2.out.2.2.2.lt
      have hF3 := H2.out.1.below hw H2.out.1.le
      have hG3 := H2.out.2.1.below hw (block_lt_of_cell H2.out.2.1.c0)
      have c0 := (hC3.cell 0).trans (show _ = some (vi wide) from rfl)
      have c1 := (hC3.cell 1).trans (show _ = some (.slice AL nL cL) from rfl)
      have H3 := Lib.hid (And.intro hD (And.intro hF3 (And.intro hG3 (And.intro hb03 hC3))))
      have HLT3 := Lib.hid (HLT.out.below hb03)
      have HIN3 := Lib.hid (HIN.out.sl.below hb03)
      clear hb03 hC3 hF3 hG3 hw hD H2 HFD HDN
      by_cases hyes : CirR wide Ls
      · obtain ⟨v, rfl⟩ := Int.eq_ofNat_of_zero_le hyes.w0
        by_cases hne : nI = 2 ^ v
        · have HV := Lib.hid (values_yes q S b v AL nL cL Ls HLN.out.1 hyes AI nI cI inp HIN.out.len HIN.out.i64 hne w3 H3.out.2.1 HLT3.out HIN3.out)
          have HYES := Lib.hid hyes
          have HNE := Lib.hid hne
          clear hyes hne
          go_wp2_with fail
          refine HV.out.mono ?_
          rintro _ w4 ⟨g, cg, rfl, hT4, hb4⟩
          rw [HLN.out.1] at hT4 ⊢
          obtain ⟨nV, hnV⟩ : ∃ nV, nV = nL + 1 := ⟨_, rfl⟩
          have h1L : 1 ≤ nL := by rw [← HLN.out.1]; exact HYES.out.n1
          have h8L : nL ≤ 8 := by rw [← HLN.out.1]; exact HYES.out.n8
          rw [← hnV]
          obtain ⟨_, A5, n5, c5, e5, hlt5, hc5, hl5, hn5, hs5, hi5⟩ := hT4 nL (by rw [lvR_len]; omega)
          injection e5 with e5
          subst e5
          have ea : (⟨g, 0, none⟩ : Addr).add nL = ⟨g, nL, none⟩ := addG g nL
          rw [ea] at hc5
          rw [lvR_at] at hl5 hs5
          have n10 : ¬ ((nV : Int) < 2) := by omega
          have iw : IntKind.i64.wrap ((nV : Int) - 1) = (nL : Int) := by rw [IntWalk.i64_in _ (by constructor <;> omega)]; omega
          have k1 : (0 : Int) ≤ (nL : Int) := by omega
          have k2 : (nL : Int) < (nV : Int) := by omega
          have hC4 := H3.out.2.2.2.2.below hb4 H3.out.2.2.2.2.lt
          have c0 := (hC4.cell 0).trans (show _ = some (vi (v : Int)) from rfl)
          have c1 := (hC4.cell 1).trans (show _ = some (.slice AL nL cL) from rfl)
          have hMK := make_any q S b s kk zz v oo AL nL cL Ls HLN.out.1 HYES.out AI nI cI inp HIN.out.len HIN.out.i64 HNE.out w4 (H3.out.2.1.below hb4 H3.out.2.1.le) (H3.out.2.2.1.below hb4 (block_lt_of_cell H3.out.2.2.1.c0)) (HLT3.out.below hb4) (HIN3.out.below hb4)
          have HMK := Lib.hid hMK
          have HB4 := Lib.hid hb4
          have H5 := Lib.hid (And.intro hc5 (And.intro hl5 (And.intro hs5 (And.intro h1L h8L))))
          have HC4 := Lib.hid hC4
          clear hnV h1L hT4 hb4 hlt5 hl5 hn5 hs5 hi5 hMK hC4
          go_wp2_with fail
          refine HMK.out.mono ?_
          rintro _ w5 ⟨AR, AQ, rfl, hLA, hb5⟩
          rw [HLN.out.1]
          go_upto_region 13 with (fail)
          obtain ⟨kL, hkL⟩ : ∃ kL, kL = w5.heap.size := ⟨_, rfl⟩
          obtain ⟨w6, hw6⟩ : ∃ w6, w6 = w5.alloc (.cells #[.slice AR nL nL, .slice AQ nL nL] 41) := ⟨_, rfl⟩
          rw [← hkL, ← hw6]
          have hb56 : Below w5.heap.size w5 w6 := by rw [hw6]; exact (Below.refl _ _).alloc (Nat.le_refl _) _
          have hb46 := hb5.trans (hb56.mono hb5.size)
          have hK6 : Blk w6 kL 41 #[.slice AR nL nL, .slice AQ nL nL] := by rw [hw6, hkL]; exact Blk.new _ _ _
          have hC6 := HC4.out.below hb46 HC4.out.lt
          have hc6 := (hb46.cell (block_lt_of_cell H5.out.1)).trans H5.out.1
          have hb36 := HB4.out.trans (hb46.mono HB4.out.size)
          have hd6 : Below w6.heap.size w6 w6.drew := below_drewN (Below.refl _ _) 1
          have S6 : w6.cell? ⟨kC, 0, none⟩ = some (vi (v : Int)) ∧ w6.cell? ⟨kC, 1, none⟩ = some (.slice AL nL cL) ∧ w6.cell? ⟨kL, 0, none⟩ = some (.slice AR nL nL) ∧ w6.cell? ⟨kL, 1, none⟩ = some (.slice AQ nL nL) ∧ w6.cell? ⟨g, nL, none⟩ = some (.slice A5 n5 c5) := ⟨(hC6.cell 0).trans rfl, (hC6.cell 1).trans rfl, (hK6.cell 0).trans rfl, (hK6.cell 1).trans rfl, hc6⟩
          have hb36d := hb36.trans (hd6.mono hb36.size)
          have hCK := check_any q S b s kk zz v h23 oo AL nL cL Ls HLN.out.1 HYES.out inp (by rw [HIN.out.len, HNE.out]) A5 n5 c5 H5.out.2.1 AR AQ w6.drew (H3.out.2.1.below hb36d H3.out.2.1.le) (H3.out.2.2.1.below hb36d (block_lt_of_cell H3.out.2.2.1.c0)) (HLT3.out.below hb36d) (H5.out.2.2.1.below (hb46.trans (hd6.mono hb46.size))) (hLA.below (hb56.trans (hd6.mono hb56.size)))
          have HCK := Lib.hid hCK
          have H6 := Lib.hid (And.intro hb36 (And.intro hC6 hK6))
          have KS : Hid (∀ W, Below w6.heap.size w6 W → W.cell? ⟨kC, 0, none⟩ = some (vi (v : Int)) ∧ W.cell? ⟨kC, 1, none⟩ = some (.slice AL nL cL) ∧ W.cell? ⟨kL, 0, none⟩ = some (.slice AR nL nL) ∧ W.cell? ⟨kL, 1, none⟩ = some (.slice AQ nL nL) ∧ W.cell? ⟨g, nL, none⟩ = some (.slice A5 n5 c5)) := Lib.hid fun W hb => ⟨(hb.cell (block_lt_of_cell S6.1)).trans S6.1, (hb.cell (block_lt_of_cell S6.2.1)).trans S6.2.1, (hb.cell (block_lt_of_cell S6.2.2.1)).trans S6.2.2.1, (hb.cell (block_lt_of_cell S6.2.2.2.1)).trans S6.2.2.2.1, (hb.cell (block_lt_of_cell S6.2.2.2.2)).trans S6.2.2.2.2⟩
          clear hkL hw6 hb5 hb56 hb46 hK6 hC6 hc6 hb36 hd6 hb36d hCK hLA hc5 c0 c1 n10 HMK
          refine wp_region_held_drew (S := fun W => W.cell? ⟨kC, 0, none⟩ = some (vi (v : Int)) ∧ W.cell? ⟨kC, 1, none⟩ = some (.slice AL nL cL) ∧ W.cell? ⟨kL, 0, none⟩ = some (.slice AR nL nL) ∧ W.cell? ⟨kL, 1, none⟩ = some (.slice AQ nL nL) ∧ W.cell? ⟨g, nL, none⟩ = some (.slice A5 n5 c5)) (by kernel_rfl) S6 (fun hHeld => ?_)
          refine tkH 0 ?_
          refine tkH 1 ?_
          refine tkH 2 ?_
          refine tkH 3 ?_
          refine tkH 4 ?_
          refine tkH 5 ?_
          refine tkH 6 ?_
          refine tkH 7 ?_
          refine tkH 8 ?_
          refine stH 9 (fun K hK => ?_)
          go_simp
          refine HCK.out.mono ?_
          rintro _ w7 ⟨AZ, cz, zs, rfl, hz, hzl, hzi, hb7, hvz, hcz⟩
          have hb67 : Below w6.heap.size w6 w7 := (below_drewN (Below.refl w6.heap.size w6) 1 : Below w6.heap.size w6 w6.drew).trans (hb7.mono (Nat.le_refl _))
          refine hK.out _ _ (KS.out _ hb67) (fun hHeld => ?_)
          clear hK K
          (try simp only [Act.put, List.setIfInBounds_toArray, List.set_cons_zero, List.set_cons_succ])
          refine tkH 10 ?_
          refine tkH 11 ?_
          refine tkH 12 ?_
          refine tkH 13 ?_
          refine tkH 14 ?_
          refine tkH 15 ?_
          refine tkH 16 ?_
          refine wpAnyH_done (by kernel_rfl) ?_ _
          have hb37 := H6.out.1.trans (hb67.mono H6.out.1.size)
          have hb07 := H3.out.2.2.2.1.trans (hb37.mono H3.out.2.2.2.1.size)
          have hD7 := H3.out.1.below hb37 H3.out.1.le
          have hG7 := H3.out.2.2.1.below hb37 (block_lt_of_cell H3.out.2.2.1.c0)
          have hI7 := HIN3.out.below hb37
          have hL7 := HLB.out.sl.below hb07
          have hC7 := H6.out.2.1.below hb67 H6.out.2.1.lt
          have hnB : nB * 8 ≤ 140737488351232 := by
            have h1 := HLB.out.cap
            have h2 := HLB.out.reach
            omega
          have HCH1 := Lib.hid (chnew_any q S2 b s kk zz oo AB nB cB lab HLB.out.len HLB.out.i64 hnB w7 hD7.fld hG7 hL7)
          have HZ := Lib.hid (And.intro hz (And.intro hzl (And.intro hzi (And.intro hvz hcz))))
          have H7 := Lib.hid (And.intro hD7 (And.intro hG7 (And.intro hI7 (And.intro hL7 (And.intro hC7 hb07)))))
          clear hHeld hb37 hb07 hD7 hG7 hI7 hL7 hC7 hb67 hb7 hz hzl hzi hvz hcz S6 KS HCK H6 HB4 HC4 ea iw k1 k2
          go_wp2_with fail
          refine HCH1.out.mono ?_
          rintro _ w8 ⟨rfl, hC8, hb8⟩
          obtain ⟨ch1, hch1⟩ : ∃ ch1, ch1 = w7.heap.size := ⟨_, rfl⟩
          obtain ⟨ch2, hch2⟩ : ∃ ch2, ch2 = w8.heap.size := ⟨_, rfl⟩
          obtain ⟨D0, hD0⟩ : ∃ D0, D0 = digL q kk (2 :: lab) := ⟨_, rfl⟩
          rw [← hch1, ← hD0] at hC8
          rw [← hch1]
          have hn := chnew_any q S2 b s kk zz oo AB nB cB lab HLB.out.len HLB.out.i64 hnB w8 (H7.out.1.fld.below hb8 H7.out.1.fld.le) (H7.out.2.1.below hb8 (block_lt_of_cell H7.out.2.1.c0)) (H7.out.2.2.2.1.below hb8)
          rw [← hch2, ← hD0] at hn
          have HCH2 := Lib.hid hn
          have h12 : ch1 < ch2 := by rw [hch2]; exact hC8.lt
          have HCX := Lib.hid (And.intro (Nat.le_of_eq hch1.symm : w7.heap.size ≤ ch1) h12)
          have H8 := Lib.hid (And.intro hC8 hb8)
          have HE2 := Lib.hid hch2
          clear hC8 hb8 hch1 hch2 hD0 hn h12 hnB
          go_wp2_with fail
          refine HCH2.out.mono ?_
          rintro _ w9 ⟨rfl, hC9, hb9⟩
          rw [HE2.out] at hb9
          have hC91 := H8.out.1.below hb9
          have hb79 := H8.out.2.trans (hb9.mono H8.out.2.size)
          have hD9 := H7.out.1.below hb79 H7.out.1.le
          have hv6 : v ≤ 12 := by have := HYES.out.w6; omega
          have hn2 := hD9.size.le
          have H9 := Lib.hid (And.intro hC91 (And.intro hC9 (And.intro hb79 hD9)))
          clear hC91 hC9 hb79 hD9 hb9
          by_cases hroom : 2 ^ (v - v / 2) ≤ nd / 2
          · have hI9 := H7.out.2.2.1.below H9.out.2.2.1
            have hG9 := H7.out.2.1.below H9.out.2.2.1 (block_lt_of_cell H7.out.2.1.c0)
            have hcap := HIN.out.cap
            have hcI9 : cI ≤ 9223372036854775807 := by have := HIN.out.reach; omega
            have HCM := Lib.hid (commit_yes q S2 b s kk zz Dd v nd (el q shift) oo hv6 hroom AI nI cI inp HIN.out.len HIN.out.i64 HNE.out hcap hcI9 w9 H9.out.2.2.2 hG9 hI9)
            have HRM := Lib.hid hroom
            clear hroom hI9 hG9
            go_wp2_with fail
            refine HCM.out.mono ?_
            rintro _ w10 ⟨gR, rfl, ⟨csR, hR10⟩, hsR, hlR, hiR, hgR, hb10⟩
            obtain ⟨root, hroot⟩ : ∃ root, root = proot q kk (tabF q inp) (v / 2) (v - v / 2) nd (el q shift) (rootI q nd) := ⟨_, rfl⟩
            rw [← hroot] at hsR hlR
            have hb710 := H9.out.2.2.1.trans (hb10.mono H9.out.2.2.1.size)
            have HB10 := Lib.hid (And.intro hb10 hb710)
            have HR10 := Lib.hid (And.intro hroot (And.intro hlR (And.intro hR10 hsR)))
            clear hroot hlR hR10 hsR hiR hgR hb10 hb710
            by_cases hask : 1 ≤ asked ∧ asked ≤ 64
            · obtain ⟨ak, rfl⟩ := Int.eq_ofNat_of_zero_le (a := asked) (by omega)
              have hC10 := H9.out.1.below HB10.out.1
              have hC10' := H9.out.2.1.below HB10.out.1
              have hak1 : 1 ≤ ak := by omega
              have hak2 : ak ≤ 64 := by omega
              have hcz9 : cz ≤ 9223372036854775807 := by have := HZ.out.2.2.2.2; unfold maxLen at this; exact this
              have HOP := Lib.hid (popen_any q S2 b s kk zz ch1 Dd v nd (el q shift) oo hv6 HRM.out AI nI cI inp HIN.out.len HIN.out.i64 HNE.out hcap hcI9 AZ cz zs HZ.out.2.1 HZ.out.2.2.2.1 hcz9 HZ.out.2.2.1 ak hak1 hak2 D0 w7 w10 HB10.out.2 HCX.out.1 H7.out.1 H7.out.2.1 H7.out.2.2.1 HZ.out.1 hC10)
              have HC10 := Lib.hid (And.intro hC10 hC10')
              clear hC10 hC10' hask
              go_wp2_with fail
              refine HOP.out.mono ?_
              rintro _ w11 ⟨g2, Am, cm, Ap, cp, A0, n0, c0, AR2, nR2, cR2, AN, nN, cN, rfl, hall, hg11⟩
              obtain ⟨X, hX⟩ : ∃ X, X = fv (extF (co (els q inp)) (els q zs)) := ⟨_, rfl⟩
              rw [show fv (extF (tabF q inp) (els q zs)) = X from hX.symm]
              (try rw [← hX])
              obtain ⟨wd, hwd⟩ : ∃ wd, wd = 2 ^ (v - v / 2) := ⟨_, rfl⟩
              rw [← hwd]
              obtain ⟨kQ, hkQ⟩ : ∃ kQ, kQ = w11.heap.size := ⟨_, rfl⟩
              obtain ⟨w12, hw12⟩ : ∃ w12, w12 = w11.alloc (.cells #[.slice (some ⟨g2, 0, none⟩) 4 4, .slice Am wd cm, .slice Ap wd cp, .slice A0 n0 c0, .slice AR2 nR2 cR2, .slice AN nN cN] 53) := ⟨_, rfl⟩
              have hb1112 : Below w11.heap.size w11 w12 := by rw [hw12]; exact (Below.refl _ _).alloc (Nat.le_refl _) _
              have hQ12 : Blk w12 kQ 53 #[.slice (some ⟨g2, 0, none⟩) 4 4, .slice Am wd cm, .slice Ap wd cp, .slice A0 n0 c0, .slice AR2 nR2 cR2, .slice AN nN cN] := by rw [hw12, hkQ]; exact Blk.new _ _ _
              have hb711 : Below w7.heap.size w7 w11 := HB10.out.2.grown hg11 HB10.out.2.size (fun j hj => by injection hj with hj; have := HCX.out.1; omega)
              have hb712 := hb711.trans (hb1112.mono hb711.size)
              have hCK : Chn w12 ch2 s D0 := by
                obtain ⟨cv, hcv⟩ := HC10.out.1.obj
                exact (HC10.out.2.far hcv hg11 (by have := HCX.out.2; omega)).below hb1112
              have hpc := pcheck_any q S2 b s kk zz ch2 Dd v nd (el q shift) oo hv6 HRM.out (tabF q inp) AZ cz zs HZ.out.2.1 HZ.out.2.2.2.1 hcz9 HZ.out.2.2.1 ak hak1 hak2 D0 w7 w12 hb712 (by have := HCX.out; omega) H7.out.1 H7.out.2.1 HZ.out.1 hCK g2 Am cm Ap cp A0 n0 c0 AR2 nR2 cR2 AN nN cN (fun W hs => hall W ((Safe.of hb1112).trans hs))
              rw [← hwd, show fv (extF (tabF q inp) (els q zs)) = X from hX.symm] at hpc
              have HPC := Lib.hid hpc
              have hC12 := H7.out.2.2.2.2.1.below hb712 H7.out.2.2.2.2.1.lt
              have c0' := (hC12.cell 0).trans (show _ = some (vi (v : Int)) from rfl)
              have q0 := (hQ12.cell 0).trans (show _ = some (.slice (some ⟨g2, 0, none⟩) 4 4) from rfl)
              have q1 := (hQ12.cell 1).trans (show _ = some (.slice Am wd cm) from rfl)
              have q2 := (hQ12.cell 2).trans (show _ = some (.slice Ap wd cp) from rfl)
              have q3 := (hQ12.cell 3).trans (show _ = some (.slice A0 n0 c0) from rfl)
              have q4 := (hQ12.cell 4).trans (show _ = some (.slice AR2 nR2 cR2) from rfl)
              have q5 := (hQ12.cell 5).trans (show _ = some (.slice AN nN cN) from rfl)
              have hs1012 : Safe w10 w12 := by
                obtain ⟨cv, hcv⟩ := HC10.out.1.obj
                exact (Safe.one hg11 hcv ⟨by decide, by decide, by decide⟩).trans (Safe.of hb1112)
              have hkc : ch2 < kQ := by rw [hkQ]; have := HC10.out.2.lt; have := hg11.size; omega
              have hfin : ∀ W, w12.grownBy W (some ch2) → Below w.heap.size w W ∧ SL W (some ⟨gR, 0, none⟩) root ∧ SL W (some ⟨g2, 0, none⟩) root ∧ W.cell? ⟨kQ, 0, none⟩ = some (.slice (some ⟨g2, 0, none⟩) 4 4) := fun W hg => by
                obtain ⟨cv, hcv⟩ := hCK.obj
                have hsf : Safe w12 W := Safe.one hg hcv ⟨by decide, by decide, by decide⟩
                have h0 := H7.out.2.2.2.2.2.trans (hb712.mono H7.out.2.2.2.2.2.size)
                refine ⟨h0.grown hg h0.size (fun j hj => by injection hj with hj; have h1 := HCX.out; have h2 := H7.out.2.2.2.2.2.size; omega), HR10.out.2.2.2.stay ((hs1012.trans hsf).2 _ (.inr (.inr rfl)) gR csR HR10.out.2.2.1) (hs1012.trans hsf).1, ?_, ?_⟩
                · rw [HR10.out.1]
                  exact (hall W ((Safe.of hb1112).trans hsf)).1
                · exact ((hQ12.grown hg (by intro e; injection e with e; omega)).cell 0).trans rfl
              have HFI := Lib.hid hfin
              have HQ12 := Lib.hid hw12
              have HKQ := Lib.hid hkQ
              clear hw12 hkQ hb1112 hQ12 hb711 hb712 hCK hpc hC12 hs1012 hkc hfin hX hwd hall hg11
              go_upto_region 22 with (fail)
              rw [← HKQ.out, ← HQ12.out]
              go_wp2_with fail
              refine HPC.out.mono ?_
              rintro _ w13 ⟨rfl, hg13⟩
              obtain ⟨hB13, hs1, hs2, d0⟩ := HFI.out w13 hg13
              have hie := ints_any (some ⟨gR, 0, none⟩) (some ⟨g2, 0, none⟩) 4 4 root root (by rw [HR10.out.2.1]; omega) (by rw [HR10.out.2.1]; omega) w13 hs1 hs2
              rw [eqB_true rfl, HR10.out.2.1] at hie
              have HIE := Lib.hid hie
              have HB13 := Lib.hid hB13
              clear hg13 hB13 hs1 hs2 hie c0' q0 q1 q2 q3 q4 q5
              go_wp2_with fail
              refine HIE.out.mono ?_
              rintro _ w14 ⟨rfl, k14, rfl⟩
              have HB := Lib.hid (below_drewN HB13.out k14)
              go_wp2
              go_ret
              exact ⟨rfl, HB.out⟩
            · have HOP := Lib.hid (popen_no2 b Dd v nd hv6 hn2 HRM.out (.pointer (some ⟨s, 0, none⟩)) (.pointer (some ⟨ch1, 0, none⟩)) AI nI cI HNE.out AZ cz asked HAI.out hask w10 ((HB10.out.1.cell (block_lt_of_cell H9.out.2.2.2.c0)).trans H9.out.2.2.2.c0) ((HB10.out.1.cell (block_lt_of_cell H9.out.2.2.2.c1)).trans H9.out.2.2.2.c1))
              go_wp2_with fail
              refine HOP.out.mono ?_
              rintro _ w11 ⟨⟨j2, rfl⟩, hb11⟩
              have hb12 : Below w.heap.size w (w11.alloc (.cells #[.slice none 0 0, .slice none 0 0, .slice none 0 0, .slice none 0 0, .slice none 0 0, .slice none 0 0] 53)) := by
                have h0 := H7.out.2.2.2.2.2.trans (HB10.out.2.mono H7.out.2.2.2.2.2.size)
                have h := h0.trans (hb11.mono h0.size)
                exact h.alloc h.size _
              have HB := Lib.hid hb12
              clear hb11 hb12
              by_cases ha1 : asked < 1
              · clear hask
                go_wp2
                go_ret
                exact ⟨rfl, HB.out⟩
              · have ha2 : 64 < asked := by omega
                clear hask
                go_wp2
                go_ret
                exact ⟨rfl, HB.out⟩
          · have HCM := Lib.hid (commit_no b Dd v nd hv6 hn2 hroom (.pointer (some ⟨s, 0, none⟩)) AI nI cI HNE.out w9 H9.out.2.2.2.c0 H9.out.2.2.2.c1)
            have HRM := Lib.hid hroom
            clear hroom
            go_wp2_with fail
            refine HCM.out.mono ?_
            rintro _ w10 ⟨⟨j, rfl⟩, hb10⟩
            have HOP := Lib.hid (popen_no1 b Dd v nd hv6 hn2 HRM.out (.pointer (some ⟨s, 0, none⟩)) (.pointer (some ⟨ch1, 0, none⟩)) AI nI cI HNE.out AZ cz asked w10 ((hb10.cell (block_lt_of_cell H9.out.2.2.2.c0)).trans H9.out.2.2.2.c0) ((hb10.cell (block_lt_of_cell H9.out.2.2.2.c1)).trans H9.out.2.2.2.c1))
            have hb710 := H9.out.2.2.1.trans (hb10.mono H9.out.2.2.1.size)
            have HB10 := Lib.hid (H7.out.2.2.2.2.2.trans (hb710.mono H7.out.2.2.2.2.2.size))
            clear hb10 hb710
            go_wp2_with fail
            refine HOP.out.mono ?_
            rintro _ w11 ⟨⟨j2, rfl⟩, hb11⟩
            have hb12 : Below w.heap.size w (w11.alloc (.cells #[.slice none 0 0, .slice none 0 0, .slice none 0 0, .slice none 0 0, .slice none 0 0, .slice none 0 0] 53)) := by
              have h := HB10.out.trans (hb11.mono HB10.out.size)
              exact h.alloc h.size _
            have HB := Lib.hid hb12
            clear hb11 hb12
            go_wp2
            go_ret
            exact ⟨rfl, HB.out⟩
        · have HV := Lib.hid (values_no b (v : Int) AL nL cL AI nI cI w3 (fun W hb => newwalker_no2 b v AL nL cL Ls HLN.out.1 HLN.out.2 hyes AI nI cI (by have := HIN.out.cap; have := HIN.out.reach; omega) hne W (HLT3.out.below hb)))
          clear hyes hne
          go_wp2_with fail
          refine HV.out.mono ?_
          rintro _ w4 ⟨⟨j, rfl⟩, hb4⟩
          have HB := Lib.hid (H3.out.2.2.2.1.trans (hb4.mono H3.out.2.2.2.1.size))
          clear hb4
          go_wp2
          go_ret
          exact ⟨rfl, HB.out⟩
      · have HV := Lib.hid (values_no b wide AL nL cL AI nI cI w3 (fun W hb => newwalker_no1 b wide HWI.out AL nL cL Ls HLN.out.1 HLN.out.2 hyes AI nI cI W (HLT3.out.below hb)))
        clear hyes
        go_wp2_with fail
        refine HV.out.mono ?_
        rintro _ w4 ⟨⟨j, rfl⟩, hb4⟩
        have HB := Lib.hid (H3.out.2.2.2.1.trans (hb4.mono H3.out.2.2.2.1.size))
        clear hb4
        go_wp2
        go_ret
        exact ⟨rfl, HB.out⟩
end Go.Proofs.YteceghbjjnknbaaGreat
