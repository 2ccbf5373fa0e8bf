/- A bundle of texts: Fo, Fp4, Fq, Fr, Co. -/
import Derived.Test.YtijhajkakmohnaaGreatDoorB05
import Derived.ChangeKeysEq
import Derived.Test.YtijhajkakmohnaaGreatDoorB06
import Derived.Deep.DeepCutAuto
/- Walks: slices.IndexFunc and ContainsFunc at rows; the closures of tree.follow. -/
set_option linter.unusedVariables false
namespace Go.Proofs.YtijhajkakmohnaaGreatDoor
open Go.RowKit Zp
/-- the first row of which P says yes, or -1 -/
def idxR (P : List Int → Bool) (ts : List (List Int)) : Int := if ts.any P then ((ts.findIdx P : Nat) : Int) else -1
theorem idxR_no {P : List Int → Bool} {ts : List (List Int)} (h : ts.any P = false) : idxR P ts = -1 := by unfold idxR; rw [h]; rfl
theorem idxR_yes {P : List Int → Bool} {ts : List (List Int)} {k : Nat} (h : ts.any P = true) (hk : ts.findIdx P = k) : idxR P ts = k := by unfold idxR; rw [h, hk]; rfl
set_option maxRecDepth 100000 in
set_option maxHeartbeats 1000000 in
theorem indexR_any (K : Nat) (hK : ∀ (args : Array Value) (w : World), (callFunc K args).run Tryz.prog w = .ok (.enter K args) w) (P : List Int → Bool) (A : Option Addr) (N c : Nat) (ts : List (List Int)) (hN : ts.length = N) (hN2 : N ≤ 9223372036854775806)
    (w : World) (hY : ∀ (A1 : Option Addr) (n1 c1 : Nat) (x : List Int), x.length = n1 → n1 ≤ 9223372036854775807 → SL w A1 x → Calls Tryz.prog K #[.slice A1 n1 c1] w fun e w' => e = .returned (.bool (P x)) ∧ w = w') (hT : TB w A ts) :
    Calls Tryz.prog 140 #[.slice A N c, .func (.func K) #[] #[]] w fun e w' => e = .returned (vi (idxR P ts)) ∧ w = w' := by
  have HN := Lib.hid hN
  have HT := Lib.hid hT
  have HY := Lib.hid hY
  clear hN hT hY
  go_enter Tryz.func140, Tryz.ntmps140
  go_wp2
  go_loop [8] (fun i => ∃ k : Nat, k ≤ N ∧ i = vi k ∧ ∀ j (h : j < ts.length), j < k → P ts[j] = false) (fun i => N - (intOf i).toNat)
  case atStart => exact ⟨0, Nat.zero_le _, rfl, fun j _ hj => absurd hj (Nat.not_lt_zero _)⟩
  case round =>
    obtain ⟨k, hk, rfl, hb⟩ := hrel
    have HB := Lib.hid hb
    clear hb
    by_cases hlt : k < N
    · have hkt : k < ts.length := by rw [HN.out]; exact hlt
      obtain ⟨ad, A1, n1, c1, rfl, hb1, hc1, hl1, hn1, hs1, _⟩ := HT.out k hkt
      have i1 : (0 : Int) ≤ k := by omega
      have i2 : (k : Int) < N := by omega
      have i3 : (k : Int) + 1 ≤ 9223372036854775807 := by omega
      have hyk := HY.out A1 n1 c1 _ hl1 (by omega) hs1
      obtain ⟨x, hx⟩ : ∃ x, x = ts[k] := ⟨_, rfl⟩
      rw [← hx] at hyk
      have HYK := Lib.hid hyk
      have HX := Lib.hid hx
      clear hl1 hs1 hx hyk
      by_cases hp : P x = true
      · have HR : Hid (idxR P ts = k) := Lib.hid (by
          have hpk : P ts[k] = true := by rw [← HX.out]; exact hp
          exact idxR_yes (List.any_eq_true.2 ⟨_, List.getElem_mem hkt, hpk⟩) (by
            rw [List.findIdx_eq hkt]
            exact ⟨hpk, fun j hj => by simpa using HB.out j (by omega) hj⟩))
        have HP := Lib.hid hp
        clear hp
        go_wp2_with fail
        refine HYK.out.mono ?_
        rintro _ _ ⟨rfl, rfl⟩
        rw [HP.out]
        go_wp2
        go_ret
        exact ⟨ret_int HR.out.symm, rfl⟩
      · have HP := Lib.hid (show P x = false by simpa using hp)
        have HBB : Hid (∀ j (h : j < ts.length), j < k + 1 → P ts[j] = false) := Lib.hid (fun j h hj => by
          by_cases e : j < k
          · exact HB.out j h e
          · obtain rfl : j = k := by omega
            rw [← HX.out]; exact HP.out)
        clear hp
        go_wp2_with fail
        refine HYK.out.mono ?_
        rintro _ _ ⟨rfl, rfl⟩
        rw [HP.out]
        go_wp2
        go_round
        case rel => exact ⟨k + 1, by omega, by go_num, HBB.out⟩
        case measure => simp [intOf]; omega
    · obtain rfl : k = N := by omega
      have HR : Hid (idxR P ts = -1) := Lib.hid (idxR_no (by
        rw [Bool.eq_false_iff]
        intro h
        obtain ⟨x, hx, hp⟩ := List.any_eq_true.1 h
        obtain ⟨j, hj, rfl⟩ := List.mem_iff_getElem.1 hx
        rw [HB.out j hj (by rw [← HN.out]; exact hj)] at hp
        cases hp))
      go_wp2
      go_ret
      exact ⟨ret_int HR.out.symm, rfl⟩
theorem containsR_any (K : Nat) (hK : ∀ (args : Array Value) (w : World), (callFunc K args).run Tryz.prog w = .ok (.enter K args) w) (P : List Int → Bool) (A : Option Addr) (N c : Nat) (ts : List (List Int)) (hN : ts.length = N) (hN2 : N ≤ 9223372036854775806)
    (w : World) (hY : ∀ (A1 : Option Addr) (n1 c1 : Nat) (x : List Int), x.length = n1 → n1 ≤ 9223372036854775807 → SL w A1 x → Calls Tryz.prog K #[.slice A1 n1 c1] w fun e w' => e = .returned (.bool (P x)) ∧ w = w') (hT : TB w A ts) :
    Calls Tryz.prog 97 #[.slice A N c, .func (.func K) #[] #[]] w fun e w' => e = .returned (.bool (ts.any P)) ∧ w = w' := by
  have HI := Lib.hid (indexR_any K hK P A N c ts hN hN2 w hY hT)
  clear hY hT hN
  cases hb : ts.any P
  · rw [idxR_no hb] at HI
    clear hb
    go_enter Tryz.func97, Tryz.ntmps97
    go_wp2_with fail
    refine HI.out.mono ?_
    rintro _ _ ⟨rfl, rfl⟩
    go_wp2
    go_ret
    exact ⟨by simp, rfl⟩
  · obtain ⟨t, ht⟩ : ∃ t, ts.findIdx P = t := ⟨_, rfl⟩
    rw [idxR_yes hb ht] at HI
    have h0 : (0 : Int) ≤ (t : Int) := by omega
    clear hb ht
    go_enter Tryz.func97, Tryz.ntmps97
    go_wp2_with fail
    refine HI.out.mono ?_
    rintro _ _ ⟨rfl, rfl⟩
    go_wp2
    go_ret
    exact ⟨by simp, rfl⟩
theorem follow2_any (A1 : Option Addr) (n1 c1 : Nat) (x : List Int) (hx : x.length = n1) (hn : n1 ≤ 9223372036854775807) (w : World) :
    Calls Tryz.prog 98 #[.slice A1 n1 c1] w fun e w' => e = .returned (.bool (decide (x.length ≠ 4))) ∧ w = w' := by
  have HX := Lib.hid hx
  by_cases h4 : n1 = 4
  · have HR := Lib.hid (show decide (x.length ≠ 4) = false by rw [hx, h4]; rfl)
    clear hx
    subst h4
    go_enter Tryz.func98, Tryz.ntmps98
    go_wp2
    go_ret
    exact ⟨ret_bool HR.out.symm, rfl⟩
  · have HR := Lib.hid (show decide (x.length ≠ 4) = true by rw [hx]; simpa using h4)
    have t1 : ((n1 : Int) != 4) = true := by rw [bne_iff_ne]; omega
    clear hx h4
    go_enter Tryz.func98, Tryz.ntmps98
    go_wp2
    go_ret
    exact ⟨ret_bool HR.out.symm, rfl⟩
set_option maxHeartbeats 1000000 in
theorem follow1_any (a m g0 k : Nat) (hk : k ≤ 1000000) (w : World) (hB : Blk w g0 3 #[vi k]) :
    Calls Tryz.prog 96 #[.agg #[vi (a : Int), vi ((a : Int) + (m : Int))], .pointer (some ⟨g0, 0, none⟩)] w fun e w' => (∃ r, e = .returned r) ∧ Blk w' g0 3 #[vi ((k + 1 : Nat) : Int)] ∧ w.grownBy w' (some g0) := by
  have hB1 := hB.alloc (.cells #[vi (a : Int), vi ((a : Int) + (m : Int))] 92)
  have hg := World.grownBy_alloc w (.cells #[vi (a : Int), vi ((a : Int) + (m : Int))] 92) (some g0)
  have hc := (hB1.cell 0).trans (show _ = some (vi k) from rfl)
  have hf := hB1.frozen 0
  have h2 := hB1.set_ 0 (vi ((k : Int) + 1))
  have hg2 := grownBy_trans hg (blk_grown (w := w.alloc (.cells #[vi (a : Int), vi ((a : Int) + (m : Int))] 92)) (g := g0) (i := 0) (u := vi ((k : Int) + 1)))
  have HFIN : Hid (Blk ((w.alloc (.cells #[vi (a : Int), vi ((a : Int) + (m : Int))] 92)).setCell ⟨g0, 0, none⟩ (vi ((k : Int) + 1))) g0 3 #[vi ((k + 1 : Nat) : Int)] ∧ w.grownBy ((w.alloc (.cells #[vi (a : Int), vi ((a : Int) + (m : Int))] 92)).setCell ⟨g0, 0, none⟩ (vi ((k : Int) + 1))) (some g0)) := Lib.hid ⟨by
    have e : (#[vi (k : Int)] : Array Value).setIfInBounds 0 (vi ((k : Int) + 1)) = #[vi ((k + 1 : Nat) : Int)] := by simp
    rw [← e]; exact h2, hg2⟩
  clear h2 hg2 hg hB hB1
  go_enter Tryz.func96, Tryz.ntmps96
  go_wp2
  go_end0
  exact ⟨⟨_, rfl⟩, HFIN.out.1, HFIN.out.2⟩
end Go.Proofs.YtijhajkakmohnaaGreatDoor

/- Arrays of four ints compared. -/
set_option linter.unusedVariables false
namespace Go.Proofs.YtijhajkakmohnaaGreatDoor
open Go.RowKit Zp
theorem equal_four (x0 x1 x2 x3 y0 y1 y2 y3 : Int) (w : World) : (Op.equalIn 10000 155 (.agg #[vi x0, vi x1, vi x2, vi x3]) (.agg #[vi y0, vi y1, vi y2, vi y3])).run Tryz.prog w = .ok (decide ([x0, x1, x2, x3] = [y0, y1, y2, y3])) w := by
  obtain ⟨i0, hi, hz0, hz1, hz2⟩ := info_parts info_int
  have u3 := Tryz.underlying3
  have hc : Tryz.prog.cellsOf 3 = 1 := by kernel_rfl
  rw [show (10000 : Nat) = 9999 + 1 from rfl, run_equalIn_array w 9999 _ _ Tryz.underlying155 hi, hc, show List.range 4 = [0, 1, 2, 3] from rfl]
  simp only [Op.eqItems]
  go_simp
  by_cases h0 : x0 = y0 <;> by_cases h1 : x1 = y1 <;> by_cases h2 : x2 = y2 <;> by_cases h3 : x3 = y3 <;> simp [h0, h1, h2, h3]
end Go.Proofs.YtijhajkakmohnaaGreatDoor

/- Plain: what follow asks of an Opening. And the walk of tree.follow. -/
set_option linter.unusedVariables false
namespace Go.Proofs.YtijhajkakmohnaaGreatDoor
open Go.RowKit Zp Go.MapKept Go.ChangeMaps
/-- places that ascend, within n rows -/
def OkP (l : List Int) (n : Int) : Prop := Asc l ∧ ∀ x ∈ l, 0 ≤ x ∧ x < n
/-- .. as far as k of them -/
def PreOk (l : List Int) (n : Int) (k : Nat) : Prop := (∀ j (h : j < l.length), j < k → 0 ≤ l[j] ∧ l[j] < n) ∧ (∀ j (h : j + 1 < l.length), j + 1 < k → l[j] < l[j + 1])
theorem PreOk.zero (l : List Int) (n : Int) : PreOk l n 0 := ⟨fun j _ h => absurd h (Nat.not_lt_zero _), fun j _ h => absurd h (Nat.not_lt_zero _)⟩
theorem PreOk.done {l : List Int} {n : Int} {k : Nat} (h : PreOk l n k) (hk : l.length ≤ k) : OkP l n :=
  ⟨asc_of_steps fun i hi => h.2 i hi (by omega), fun x hx => by
    obtain ⟨j, hj, rfl⟩ := List.mem_iff_getElem.1 hx
    exact h.1 j hj (by omega)⟩
theorem PreOk.first {l : List Int} {n : Int} (h : PreOk l n 0) (hk : 0 < l.length) (h1 : 0 ≤ l[0] ∧ l[0] < n) : PreOk l n 1 :=
  ⟨fun j hj hjk => by
    obtain rfl : j = 0 := by omega
    exact h1, fun j hj hjk => by omega⟩
theorem PreOk.next {l : List Int} {n : Int} {k : Nat} (h : PreOk l n (k + 1)) (hk : k + 1 < l.length) (h1 : 0 ≤ l[k + 1] ∧ l[k + 1] < n) (h2 : l[k] < l[k + 1]) : PreOk l n (k + 1 + 1) :=
  ⟨fun j hj hjk => by
    by_cases e : j < k + 1
    · exact h.1 j hj e
    · obtain rfl : j = k + 1 := by omega
      exact h1, fun j hj hjk => by
    by_cases e : j + 1 < k + 1
    · exact h.2 j hj e
    · obtain rfl : j = k := by omega
      exact h2⟩
theorem not_okP_low {l : List Int} {n : Int} {k : Nat} (hk : k < l.length) (h : l[k] < 0) : ¬ OkP l n := fun g => by have := (g.2 _ (List.getElem_mem hk)).1; omega
theorem not_okP_high {l : List Int} {n : Int} {k : Nat} (hk : k < l.length) (h : n ≤ l[k]) : ¬ OkP l n := fun g => by have := (g.2 _ (List.getElem_mem hk)).2; omega
theorem not_okP_step {l : List Int} {n : Int} {k : Nat} (hk : k + 1 < l.length) (h : l[k + 1] ≤ l[k]) : ¬ OkP l n := fun g => by have := g.1.step k hk; omega
theorem hidL_le (l : List Int) : ∀ (m a : Nat), 1 ≤ m → (hidL l a m).length ≤ m := by
  intro m
  induction m using Nat.strongRecOn with
  | ind m ih =>
    intro a hm
    by_cases hs : shownB l a m = true
    · by_cases h : 2 ≤ m
      · have hl := leftN_lt h
        rw [hidL_two l hs h]
        have := ih (leftN m) (by omega) a (by omega)
        have := ih (m - leftN m) (by omega) (a + leftN m) (by omega)
        omega
      · rw [hidL_one l hs h]; omega
    · rw [hidL_no l (by simpa using hs)]; omega
section
variable (p k : Nat) [NeZero p]
/-- what is worked out of an Opening -/
def workE (l : List Int) (rs ns : List (List Int)) (n : Nat) : (GF × GF) × List (List Int) :=
  workW (digL p k) (fun x => fvs (els p x)) (fun i => fvs (els p (rowAt l rs i))) l 0 n (fun _ _ => none, fun _ _ => none) ns
/-- what follow takes -/
def TakenP (l : List Int) (rs ns : List (List Int)) (top : List Int) (n : Int) : Prop :=
  (1 ≤ n ∧ n ≤ 65536) ∧ top.length = 4 ∧ rs.length = l.length ∧ OkP l n ∧ ns.length = (hidL l 0 n.toNat).length ∧ (∀ x ∈ ns, x.length = 4) ∧
    (climbD (digL p k) (fun x => fvs (els p x)) (fun i => fvs (els p (rowAt l rs i))) l 0 n.toNat ns).1 = fvs (els p top)
open Classical in
noncomputable def takenB (l : List Int) (rs ns : List (List Int)) (top : List Int) (n : Int) : Bool := decide (TakenP p k l rs ns top n)
end
section
variable {p k : Nat} [NeZero p] {l : List Int} {rs ns : List (List Int)} {top : List Int} {n : Int}
open Classical in
theorem takenB_true (h : TakenP p k l rs ns top n) : takenB p k l rs ns top n = true := by unfold takenB; exact decide_eq_true h
open Classical in
theorem takenB_false (h : ¬ TakenP p k l rs ns top n) : takenB p k l rs ns top n = false := by unfold takenB; exact decide_eq_false h
open Classical in
theorem takenB_iff : takenB p k l rs ns top n = true ↔ TakenP p k l rs ns top n := by unfold takenB; exact decide_eq_true_iff
end
theorem wrap_step (x : Int) : IntKind.i64.wrap (IntKind.i64.wrap x + 1) = IntKind.i64.wrap (x + 1) := by simp only [IntKind.wrap_i64]; omega
set_option maxHeartbeats 1000000 in
theorem need_any (a m g0 : Nat) (k : Int) (w : World) (hB : Blk w g0 3 #[vi (IntKind.i64.wrap k)]) :
    Calls Tryz.prog 96 #[.agg #[vi (a : Int), vi ((a : Int) + (m : Int))], .pointer (some ⟨g0, 0, none⟩)] w fun e w' => (∃ r, e = .returned r) ∧ Blk w' g0 3 #[vi (IntKind.i64.wrap (k + 1))] ∧ w.grownBy w' (some g0) := by
  have hB1 := hB.alloc (.cells #[vi (a : Int), vi ((a : Int) + (m : Int))] 92)
  have hg := World.grownBy_alloc w (.cells #[vi (a : Int), vi ((a : Int) + (m : Int))] 92) (some g0)
  obtain ⟨v, hv⟩ : ∃ v, v = IntKind.i64.wrap k := ⟨_, rfl⟩
  obtain ⟨u, hu⟩ : ∃ u, u = IntKind.i64.wrap (v + 1) := ⟨_, rfl⟩
  rw [← wrap_step, ← hv, ← hu]
  rw [← hv] at hB1
  have hc := (hB1.cell 0).trans (show _ = some (vi v) from rfl)
  have hf := hB1.frozen 0
  have h2 := hB1.set_ 0 (vi u)
  have hg2 := grownBy_trans hg (blk_grown (w := w.alloc (.cells #[vi (a : Int), vi ((a : Int) + (m : Int))] 92)) (g := g0) (i := 0) (u := vi u))
  have HFIN : Hid (Blk ((w.alloc (.cells #[vi (a : Int), vi ((a : Int) + (m : Int))] 92)).setCell ⟨g0, 0, none⟩ (vi u)) g0 3 #[vi u] ∧ w.grownBy ((w.alloc (.cells #[vi (a : Int), vi ((a : Int) + (m : Int))] 92)).setCell ⟨g0, 0, none⟩ (vi u)) (some g0)) := Lib.hid ⟨h2, hg2⟩
  have hu' := hu.symm
  clear h2 hg2 hg hB hB1 hv hu
  go_enter Tryz.func96, Tryz.ntmps96
  go_wp2
  go_end0
  exact ⟨⟨_, rfl⟩, HFIN.out.1, HFIN.out.2⟩
end Go.Proofs.YtijhajkakmohnaaGreatDoor

/- The walk of tree.follow. -/
set_option linter.unusedVariables false
namespace Go.Proofs.YtijhajkakmohnaaGreatDoor
open Go.RowKit Zp Go.MapKept Go.ChangeMaps
/-- no -/
def FollowNo (w : World) (e : Ending) (w' : World) : Prop := e = .returned (.tuple #[.pointer none, .bool false]) ∧ Below w.heap.size w w'
/-- what follow hands back -/
def FollowIs (p k : Nat) [NeZero p] (l : List Int) (rs ns : List (List Int)) (top : List Int) (n : Int) (w : World) (e : Ending) (w' : World) : Prop :=
  ∃ v, e = .returned (.tuple #[v, .bool (takenB p k l rs ns top n)]) ∧ (takenB p k l rs ns top n = true → ∃ y bD bL, v = .pointer (some ⟨y, 0, none⟩) ∧ Way w' y bD bL (workE p k l rs ns n.toNat).1.1 (workE p k l rs ns n.toNat).1.2) ∧ Below w.heap.size w w'
theorem FollowNo.is {p k : Nat} [NeZero p] {l : List Int} {rs ns : List (List Int)} {top : List Int} {n : Int} (hn : ¬ TakenP p k l rs ns top n) {w w' : World} {e : Ending} (h : FollowNo w e w') : FollowIs p k l rs ns top n w e w' := by
  have hb := takenB_false hn
  refine ⟨.pointer none, by rw [hb]; exact h.1, fun h2 => ?_, h.2⟩
  rw [hb] at h2
  cases h2
set_option maxHeartbeats 1000000 in
theorem follow_no (s : Nat) (AT : Option Addr) (nT cT : Nat) (n : Int) (A0 : Option Addr) (n0 c0 : Nat) (AR : Option Addr) (nR cR : Nat) (v3 : Value) (hT : nT ≤ 9223372036854775807) (h0 : n0 ≤ 9223372036854775807) (hR : nR ≤ 9223372036854775807)
    (h : ¬ (1 ≤ n ∧ n ≤ 65536) ∨ nT ≠ 4 ∨ nR ≠ n0) (w : World) :
    Calls Tryz.prog 33 #[.pointer (some ⟨s, 0, none⟩), .slice AT nT cT, vi n, .agg #[.slice A0 n0 c0, .slice AR nR cR, v3]] w (FollowNo w) := by
  have hb0 : Below w.heap.size w (w.alloc (.cells #[.slice A0 n0 c0, .slice AR nR cR, v3] 25)) := (Below.refl _ _).alloc (Nat.le_refl _) _
  have hB7 := Blk.new w 25 #[.slice A0 n0 c0, .slice AR nR cR, v3]
  have d0 := (hB7.cell 0).trans (show _ = some (.slice A0 n0 c0) from rfl)
  have d1 := (hB7.cell 1).trans (show _ = some (.slice AR nR cR) from rfl)
  have HB0 := Lib.hid hb0
  have HR := Lib.hid (fun w => right_any n w)
  clear hb0 hB7
  by_cases h1 : 1 ≤ n ∧ n ≤ 65536
  · have HB := Lib.hid (show rightB n = true from decide_eq_true h1)
    by_cases h2 : nT = 4
    · have h3 : nR ≠ n0 := by
        rcases h with h | h | h
        · exact absurd h1 h
        · exact absurd h2 h
        · exact h
      have t1 : ((nR : Int) != (n0 : Int)) = true := by rw [bne_iff_ne]; omega
      subst h2
      clear h h1 h3
      go_enter Tryz.func33, Tryz.ntmps33
      go_wp2_with fail
      refine (HR.out _).mono ?_
      rintro _ _ ⟨rfl, rfl⟩
      rw [HB.out]
      go_wp2
      go_ret2
      exact ⟨rfl, HB0.out⟩
    · have t1 : ((nT : Int) != 4) = true := by rw [bne_iff_ne]; omega
      clear h h1 h2
      go_enter Tryz.func33, Tryz.ntmps33
      go_wp2_with fail
      refine (HR.out _).mono ?_
      rintro _ _ ⟨rfl, rfl⟩
      rw [HB.out]
      go_wp2
      go_ret2
      exact ⟨rfl, HB0.out⟩
  · have HB := Lib.hid (show rightB n = false from decide_eq_false h1)
    clear h h1
    go_enter Tryz.func33, Tryz.ntmps33
    go_wp2_with fail
    refine (HR.out _).mono ?_
    rintro _ _ ⟨rfl, rfl⟩
    rw [HB.out]
    go_wp2
    go_ret2
    exact ⟨rfl, HB0.out⟩
set_option maxRecDepth 100000 in
set_option maxHeartbeats 2000000 in
theorem follow_yes (p S b s k z : Nat) [NeZero p] (oo : Nat → Nat → Fin p) (AT : Option Addr) (cT : Nat) (top : List Int) (hT : top.length = 4) (hTI : ∀ x ∈ top, I64 x) (N : Nat) (hN1 : 1 ≤ N) (hN2 : N ≤ 65536)
    (A0 : Option Addr) (n0 c0 : Nat) (l : List Int) (hl : l.length = n0) (hn0 : n0 ≤ 281474976710656) (AR : Option Addr) (cR : Nat) (rs : List (List Int)) (hrs : rs.length = n0) (hR : ∀ x ∈ rs, x.length * 8 + 80 ≤ 140737488355328)
    (AN : Option Addr) (nN cN : Nat) (ns : List (List Int)) (hns : ns.length = nN) (hnN : nN ≤ cN) (hnN2 : nN ≤ 281474976710656)
    (w : World) (F : Fld w S b p) (G : Spg w s b k z oo) (sT : SL w AT top) (s0 : SL w A0 l) (tR : TB w AR rs) (tN : TB w AN ns) :
    Calls Tryz.prog 33 #[.pointer (some ⟨s, 0, none⟩), .slice AT 4 cT, vi N, .agg #[.slice A0 n0 c0, .slice AR n0 cR, .slice AN nN cN]] w (FollowIs p k l rs ns top N w) := by
  have hsl := block_lt_of_cell G.c0
  have hpm := F.max
  have hb0 : Below w.heap.size w (w.alloc (.cells #[.slice A0 n0 c0, .slice AR n0 cR, .slice AN nN cN] 25)) := (Below.refl _ _).alloc (Nat.le_refl _) _
  have hB7 := Blk.new w 25 #[.slice A0 n0 c0, .slice AR n0 cR, .slice AN nN cN]
  have d0 := (hB7.cell 0).trans (show _ = some (.slice A0 n0 c0) from rfl)
  have d1 := (hB7.cell 1).trans (show _ = some (.slice AR n0 cR) from rfl)
  have HB0 := Lib.hid hb0
  have HB7 := Lib.hid hB7
  have HRT := Lib.hid (fun w => right_any (N : Int) w)
  have HB := Lib.hid (show rightB (N : Int) = true from decide_eq_true ⟨by omega, by omega⟩)
  have HL := Lib.hid hl
  have HT := Lib.hid (And.intro hT hTI)
  have HRS := Lib.hid (And.intro hrs hR)
  have HNS := Lib.hid (And.intro hns hnN)
  have HF := Lib.hid F
  have HG := Lib.hid G
  have HST := Lib.hid sT
  have HS0 := Lib.hid s0
  have HTR := Lib.hid tR
  have HTN := Lib.hid tN
  clear hl hT hTI hrs hR hns hnN F G sT s0 tR tN hb0 hB7
  go_enter Tryz.func33, Tryz.ntmps33
  go_wp2_with fail
  refine (HRT.out _).mono ?_
  rintro _ _ ⟨rfl, rfl⟩
  rw [HB.out]
  go_wp2
  go_loop [34] (fun i => ∃ j : Nat, j ≤ n0 ∧ i = vi j ∧ PreOk l N j) (fun i => n0 - (intOf i).toNat)
  case atStart => exact ⟨0, Nat.zero_le _, rfl, PreOk.zero _ _⟩
  case round =>
    obtain ⟨j, hj, rfl, hok⟩ := hrel
    have HOK := Lib.hid hok
    clear hok
    by_cases hlt : j < n0
    · have hjl : j < l.length := by rw [HL.out]; exact hlt
      obtain ⟨ad, rfl, had, hcx⟩ := (HS0.out.below HB0.out).at_ hjl
      have j1 : (0 : Int) ≤ (j : Int) := by omega
      have j2 : (j : Int) < (n0 : Int) := by omega
      by_cases c1 : l[j] < 0
      · have HNO : Hid (¬ TakenP p k l rs ns top N) := Lib.hid (fun g => not_okP_low hjl c1 g.2.2.2.1)
        generalize l[j] = x at c1 hcx
        go_wp2
        go_ret2
        exact FollowNo.is HNO.out ⟨rfl, HB0.out⟩
      · by_cases c2 : (N : Int) ≤ l[j]
        · have HNO : Hid (¬ TakenP p k l rs ns top N) := Lib.hid (fun g => not_okP_high hjl c2 g.2.2.2.1)
          generalize l[j] = x at c1 c2 hcx
          go_wp2
          go_ret2
          exact FollowNo.is HNO.out ⟨rfl, HB0.out⟩
        · cases j with
          | zero =>
            have HOK2 := Lib.hid (HOK.out.first hjl ⟨by omega, by omega⟩)
            rw [show ad.add 0 = ad by simp [Addr.add]] at hcx
            generalize l[0] = x at c1 c2 hcx
            go_wp2
            go_round
            case rel => exact ⟨1, by omega, by go_num, HOK2.out⟩
            case measure => simp [intOf]; omega
          | succ j =>
            have hjl2 : j < l.length := by omega
            obtain ⟨ad2, e2, _, hcy⟩ := (HS0.out.below HB0.out).at_ hjl2
            injection e2 with e2
            subst e2
            rw [show ad.add (j + 1) = ⟨ad.block, ad.off + (j + 1), none⟩ by simp [Addr.add]] at hcx
            have j3 : (j : Int) < (n0 : Int) := by omega
            have j5 : (j : Int) + 1 ≤ 281474976710656 := by omega
            have j6 : (0 : Int) ≤ (j : Int) + 1 := by omega
            have j7 : (j : Int) + 1 < (n0 : Int) := by omega
            have j4 : (0 : Int) ≤ (j : Int) := by omega
            by_cases c3 : l[j + 1] ≤ l[j]
            · have HNO : Hid (¬ TakenP p k l rs ns top N) := Lib.hid (fun g => not_okP_step hjl c3 g.2.2.2.1)
              generalize l[j + 1] = x at c1 c2 c3 hcx
              generalize l[j] = x' at c3 hcy
              clear hjl hjl2 j1 j2 hj hlt
              go_wp2
              go_ret2
              exact FollowNo.is HNO.out ⟨rfl, HB0.out⟩
            · have HOK2 := Lib.hid (HOK.out.next hjl ⟨by omega, by omega⟩ (by omega))
              generalize l[j + 1] = x at c1 c2 c3 hcx
              generalize l[j] = x' at c3 hcy
              have HJ2 := Lib.hid (And.intro hjl (And.intro hj hlt))
              clear hjl hjl2 j1 j2 hj hlt
              go_wp2
              go_round
              case rel => exact ⟨j + 1 + 1, by have := HJ2.out; omega, by go_num, HOK2.out⟩
              case measure =>
                have := HJ2.out
                simp [intOf]; omega
    · obtain rfl : j = n0 := by omega
      have HUP := Lib.hid (HOK.out.done (by rw [HL.out]; exact Nat.le_refl _))
      have hlN := HUP.out.1.len HUP.out.2
      have hjN : j ≤ 65536 := by rw [← HL.out]; omega
      have hb2 : Below w.heap.size w ((w.alloc (.cells #[.slice A0 j c0, .slice AR j cR, .slice AN nN cN] 25)).alloc (.cells #[vi 0] 3)) := HB0.out.alloc HB0.out.size _
      have hB72 := HB7.out.alloc (.cells #[vi 0] 3)
      have hBn := Blk.new (w.alloc (.cells #[.slice A0 j c0, .slice AR j cR, .slice AN nN cN] 25)) 3 #[vi 0]
      rw [show (w.alloc (.cells #[.slice A0 j c0, .slice AR j cR, .slice AN nN cN] 25)).heap.size = w.heap.size + 1 by simp] at hBn
      obtain ⟨W2, hW2⟩ : ∃ W2, W2 = (w.alloc (.cells #[.slice A0 j c0, .slice AR j cR, .slice AN nN cN] 25)).alloc (.cells #[vi 0] 3) := ⟨_, rfl⟩
      rw [← hW2] at hb2 hB72 hBn
      have hid := hidden_any 96 (enters_of Tryz.func96 (by kernel_rfl) rfl) #[.pointer (some ⟨w.heap.size + 1, 0, none⟩)] (w.heap.size + 1) A0 j c0 l (by
          intro ad e hne
          obtain ⟨ad', e', hb', _⟩ := HS0.out.at_ (k := 0) (List.length_pos_iff.2 hne)
          rw [e] at e'
          injection e' with e'
          subst e'
          omega) HL.out hjN HUP.out.1
        (fun pre W' => Blk W' (w.heap.size + 1) 3 #[vi (IntKind.i64.wrap (pre.length : Int))]) (fun pre W1 W2 h hb => Blk.below h hb h.lt)
        (fun pre a m W' h _ _ => by
          refine (need_any a m (w.heap.size + 1) (pre.length : Int) W' h).mono fun e w' h => ⟨h.1, ?_, h.2.2⟩
          rw [List.length_append]
          simpa using h.2.1) N 0 hN1 (by omega) [] W2 (by
          rw [show IntKind.i64.wrap (([] : List (Nat × Nat)).length : Int) = 0 from by simp [IntKind.wrap_i64]]
          exact hBn) (HS0.out.below hb2) hBn.lt
      rw [show Gp 0 (0 + N) = .agg #[vi 0, vi (N : Int)] by simp [Gp], hW2] at hid
      have HID := Lib.hid hid
      have HB2 := Lib.hid hb2
      have HB72 := Lib.hid hB72
      have HW2 := Lib.hid hW2
      have hnd := hidL_le l N 0 hN1
      obtain ⟨nd, hndE⟩ : ∃ nd, nd = (hidL l 0 N).length := ⟨_, rfl⟩
      rw [← hndE] at hnd
      have HND := Lib.hid hndE
      have HLN := Lib.hid (And.intro hlN hjN)
      clear hid hb2 hB72 hBn hW2 hndE hlN hj hlt
      go_wp2_with fail
      refine HID.out.mono ?_
      rintro _ w3 ⟨⟨r, rfl⟩, hB3, hg3⟩
      rw [← HW2.out] at hg3
      rw [List.nil_append, ← HND.out, IntWalk.i64_in _ ⟨by omega, by omega⟩] at hB3
      have hb3 : Below w.heap.size w w3 := HB2.out.grown hg3 HB2.out.size (fun x hx => by injection hx with hx; omega)
      have hB73 := Blk.grown HB72.out hg3 (by intro e; injection e with e; omega)
      have e2 := (hB73.cell 2).trans (show _ = some (.slice AN nN cN) from rfl)
      have en := (hB3.cell 0).trans (show _ = some (vi nd) from rfl)
      have HB3 := Lib.hid hb3
      have HB73 := Lib.hid hB73
      clear hB3 hB73 hb3 hg3
      by_cases c4 : nN = nd
      · subst c4
        have hcn := containsR_any 98 (enters_of Tryz.func98 (by kernel_rfl) rfl) (fun x => decide (x.length ≠ 4)) AN nN cN ns HNS.out.1 (by omega) w3 (fun A1 n1 c1 x hx hn _ => follow2_any A1 n1 c1 x hx hn w3) (HTN.out.below HB3.out)
        by_cases c5 : ∀ x ∈ ns, x.length = 4
        · rw [show (ns.any fun x => decide (x.length ≠ 4)) = false by rw [List.any_eq_false]; intro x hx; simpa using c5 x hx] at hcn
          have HCN := Lib.hid hcn
          have HC5 := Lib.hid c5
          have hmm := @run_makeMap Tryz.prog
          clear hcn c5
          go_wp2_with fail
          refine HCN.out.mono ?_
          rintro _ _ ⟨rfl, rfl⟩
          clear en e2
          have hq := HB3.out.size
          have hm1 := MapIs.made Tryz.prog 92 w3
          have hm2 := MapIs.made Tryz.prog 92 (w3.alloc (.map #[] 0))
          have hb35 : Below w3.heap.size w3 (((w3.alloc (.map #[] 0)).alloc (.map #[] 0)).alloc (.cells #[.map (some w3.heap.size), .map (some (w3.heap.size + 1))] 153)) := (((Below.refl _ _).alloc (Nat.le_refl _) _).alloc (by simp) _).alloc (by simp; omega) _
          have hBy := Blk.new ((w3.alloc (.map #[] 0)).alloc (.map #[] 0)) 153 #[.map (some w3.heap.size), .map (some (w3.heap.size + 1))]
          rw [show ((w3.alloc (.map #[] 0)).alloc (.map #[] 0)).heap.size = w3.heap.size + 1 + 1 by simp] at hBy
          rw [show (w3.alloc (.map #[] 0)).heap.size = w3.heap.size + 1 by simp] at hm2
          have hm1' := hm1.same (w' := ((w3.alloc (.map #[] 0)).alloc (.map #[] 0)).alloc (.cells #[.map (some w3.heap.size), .map (some (w3.heap.size + 1))] 153)) ((((Below.refl _ _).alloc (Nat.le_refl _) _).alloc (by simp) _ : Below (w3.alloc (.map #[] 0)).heap.size _ _).block _ (by simp))
          have hm2' := hm2.same (w' := ((w3.alloc (.map #[] 0)).alloc (.map #[] 0)).alloc (.cells #[.map (some w3.heap.size), .map (some (w3.heap.size + 1))] 153)) (((Below.refl _ _).alloc (Nat.le_refl _) _ : Below ((w3.alloc (.map #[] 0)).alloc (.map #[] 0)).heap.size _ _).block _ (by simp))
          have hwy : Way (((w3.alloc (.map #[] 0)).alloc (.map #[] 0)).alloc (.cells #[.map (some w3.heap.size), .map (some (w3.heap.size + 1))] 153)) (w3.heap.size + 1 + 1) w3.heap.size (w3.heap.size + 1) (fun _ _ => none) (fun _ _ => none) :=
            ⟨hBy, ⟨_, hm1', fun _ _ _ _ => rfl⟩, ⟨_, hm2', fun _ _ _ _ => trivial⟩, by omega⟩
          have hb05 := HB3.out.trans (hb35.mono HB3.out.size)
          have hB75 := Blk.below HB73.out hb35 HB73.out.lt
          have f0 := (hB75.cell 0).trans (show _ = some (.slice A0 j c0) from rfl)
          have f1 := (hB75.cell 1).trans (show _ = some (.slice AR j cR) from rfl)
          have f2 := (hB75.cell 2).trans (show _ = some (.slice AN nN cN) from rfl)
          have hwk := work_any p S b s k z (w3.heap.size + 1 + 1) w3.heap.size (w3.heap.size + 1) oo A0 j c0 l HL.out (HLN.out.2) HUP.out.1 AR cR rs HRS.out.1 HRS.out.2 (.slice AN nN cN) (by have := HF.out.le; omega) (by have := HF.out.le; omega) (by omega) (by omega) N 0 hN1 (by omega) ns AN nN cN HNS.out.1 HNS.out.2 HC5.out (by rw [HNS.out.1, ← HND.out]; exact Nat.le_refl _) (fun _ _ => none) (fun _ _ => none) (fun _ _ _ h => by cases h) _ (HF.out.below hb05 HF.out.le) (HG.out.below hb05 hsl) hwy (HS0.out.below hb05) (HTR.out.below hb05) (HTN.out.below hb05)
          rw [show Gp 0 (0 + N) = .agg #[vi 0, vi (N : Int)] by simp [Gp]] at hwk
          have HWK := Lib.hid hwk
          have HB05 := Lib.hid hb05
          clear hwk hb05 hB75 hwy hm1' hm2' hBy hb35 hm1 hm2
          go_wp2_with fail
          refine HWK.out.mono ?_
          rintro _ w6 ⟨A6, n6, c6, rfl, _, _, _, hY6, hg6⟩
          have hb6 : Below w.heap.size w w6 := HB05.out.trans (hg6.below HB05.out.size (by omega) (by omega))
          have hcl := workW_climb (digL p k) (fun x => fvs (els p x)) (fun i => fvs (els p (rowAt l rs i))) l N 0 (fun _ _ => none, fun _ _ => none) ns hN1
          have hc4 := climb_four (digL p k) (fun x => fvs (els p x)) (fun i => fvs (els p (rowAt l rs i))) l (fun l => digL_len _ _) (fun x hx => by simp [fvs, els, hx]) N 0 ns hN1 HC5.out (by rw [HNS.out.1, ← HND.out]; exact Nat.le_refl _)
          obtain ⟨cl, hcle⟩ : ∃ cl, cl = (climbD (digL p k) (fun x => fvs (els p x)) (fun i => fvs (els p (rowAt l rs i))) l 0 N ns).1 := ⟨_, rfl⟩
          have ht4 : (fvs (els p top)).length = 4 := by simp [fvs, els, HT.out.1]
          obtain ⟨tp, htp⟩ : ∃ tp, tp = fvs (els p top) := ⟨_, rfl⟩
          rw [← hcle] at hcl hc4
          rw [← htp] at ht4
          have hfin : takenB p k l rs ns top N = decide (cl = tp) := by
            rw [Bool.eq_iff_iff, takenB_iff, decide_eq_true_iff]
            constructor
            · intro h
              have := h.2.2.2.2.2.2
              rw [Int.toNat_natCast] at this
              rw [hcle, this, htp]
            · intro h
              refine ⟨⟨by omega, by omega⟩, HT.out.1, by rw [HRS.out.1, HL.out], HUP.out, by rw [Int.toNat_natCast, HNS.out.1, ← HND.out], HC5.out, ?_⟩
              rw [Int.toNat_natCast, ← hcle, h, htp]
          have hlk := hcl.1
          obtain ⟨c0', c1', c2', c3', ecl⟩ := four_of hc4
          obtain ⟨t0, t1, t2, t3, etp⟩ := four_of ht4
          rw [ecl] at hlk
          have hel := fun W' (hs : SL W' AT top) hc => elements_any p b hpm AT 4 cT top HT.out.1 HT.out.2 (by omega) W' hs hc
          rw [← htp, etp] at hel
          have hfin2 : takenB p k l rs ns top N = decide ([c0', c1', c2', c3'] = [t0, t1, t2, t3]) := by rw [hfin, ecl, etp]
          have HEL := Lib.hid hel
          have HFI := Lib.hid hfin2
          have HW6 := Lib.hid (show Way w6 (w3.heap.size + 1 + 1) w3.heap.size (w3.heap.size + 1) (workE p k l rs ns N).1.1 (workE p k l rs ns N).1.2 from hY6)
          have HLK := Lib.hid (show (workE p k l rs ns N).1.1 0 N = some [c0', c1', c2', c3'] from hlk)
          have HB6 := Lib.hid hb6
          have HSF := Lib.hid (fun W' (G : Spg W' s b k z oo) => sfield_s s b k z oo W' G)
          have hta := fun (W : World) (g c : Nat) => run_arrayAt (P := Tryz.prog) (w := W) 155 3 4 (some ⟨g, 0, none⟩) 4 c Tryz.underlying155 (Nat.le_refl _)
          have heq := equal_four c0' c1' c2' c3' t0 t1 t2 t3
          obtain ⟨bq, hbq⟩ : ∃ bq, bq = decide ([c0', c1', c2', c3'] = [t0, t1, t2, t3]) := ⟨_, rfl⟩
          rw [← hbq] at heq HFI
          clear hcl hc4 hcle ht4 htp hfin hlk ecl etp hel hfin2 hY6 hg6 hb6 hbq f0 f1 f2
          have hb66 : Below w6.heap.size w6 w6.drew := below_drewN (Below.refl _ _) 1
          have KX : Hid (∀ W', Below w6.heap.size w6 W' → Fld W' S b p ∧ Spg W' s b k z oo ∧ SL W' AT top ∧ Way W' (w3.heap.size + 1 + 1) w3.heap.size (w3.heap.size + 1) (workE p k l rs ns N).1.1 (workE p k l rs ns N).1.2 ∧ Below w.heap.size w W') := Lib.hid fun W' hb => by
            have hb' := HB6.out.trans (hb.mono HB6.out.size)
            exact ⟨HF.out.below hb' HF.out.le, HG.out.below hb' hsl, HST.out.below hb', HW6.out.below hb, hb'⟩
          have KS : Hid (∀ W', Below w6.heap.size w6 W' → W'.cell? ⟨w3.heap.size + 1 + 1, 0, none⟩ = some (.map (some w3.heap.size)) ∧
              (Instr.lookup 150 (.map (some w3.heap.size)) (.agg #[vi 0, vi (N : Int)]) false).run Tryz.prog W' = .ok (.agg #[vi c0', vi c1', vi c2', vi c3']) W') := Lib.hid fun W' hb => by
            have hY := (KX.out W' hb).2.2.2.1
            have l1 := hY.dig.look (a := 0) (m := N) hN1 (by omega) HLK.out
            rw [Nat.zero_add] at l1
            exact ⟨(hY.obj.cell 0).trans rfl, l1⟩
          go_wp2_with fail
          refine wp_region_held_drew (S := fun W' => W'.cell? ⟨w3.heap.size + 1 + 1, 0, none⟩ = some (.map (some w3.heap.size)) ∧
              (Instr.lookup 150 (.map (some w3.heap.size)) (.agg #[vi 0, vi (N : Int)]) false).run Tryz.prog W' = .ok (.agg #[vi c0', vi c1', vi c2', vi c3']) W') (by kernel_rfl) (KS.out _ hb66) (fun hHeld => ?_)
          refine wpAnyH_take_at (i := 0) rfl rfl (by kernel_rfl) (by kernel_rfl) (by kernel_rfl) (fun _ _ _ h => h) (Or.inl ⟨by rfl, by (intro w hSw; (try dsimp only at hSw); go_simp; try with_reducible rfl)⟩) (by assumption) ?_
          (try simp only [Act.put, List.setIfInBounds_toArray, List.set_cons_zero, List.set_cons_succ])
          refine wpAnyH_take_at (i := 1) rfl rfl (by kernel_rfl) (by kernel_rfl) (by kernel_rfl) (fun _ _ _ h => h) (Or.inl ⟨by rfl, by (intro w hSw; (try dsimp only at hSw); go_simp; try with_reducible rfl)⟩) (by assumption) ?_
          (try simp only [Act.put, List.setIfInBounds_toArray, List.set_cons_zero, List.set_cons_succ])
          refine wpAnyH_take_at (i := 2) rfl rfl (by kernel_rfl) (by kernel_rfl) (by kernel_rfl) (fun _ _ _ h => h) (Or.inl ⟨by rfl, by (intro w hSw; (try dsimp only at hSw); go_simp; try with_reducible rfl)⟩) (by assumption) ?_
          (try simp only [Act.put, List.setIfInBounds_toArray, List.set_cons_zero, List.set_cons_succ])
          refine wpAnyH_take_at (i := 3) rfl rfl (by kernel_rfl) (by kernel_rfl) (by kernel_rfl) (fun _ _ _ h => h) (Or.inl ⟨by rfl, by (intro w hSw; (try dsimp only at hSw); go_simp; try with_reducible rfl)⟩) (by assumption) ?_
          (try simp only [Act.put, List.setIfInBounds_toArray, List.set_cons_zero, List.set_cons_succ])
          refine wpAnyH_take_at (i := 4) rfl rfl (by kernel_rfl) (by kernel_rfl) (by kernel_rfl) (fun _ _ _ h => h) (Or.inl ⟨by rfl, by (intro w hSw; (try dsimp only at hSw); go_simp; try with_reducible rfl)⟩) (by assumption) ?_
          (try simp only [Act.put, List.setIfInBounds_toArray, List.set_cons_zero, List.set_cons_succ])
          refine wpAnyH_take_at (i := 5) rfl rfl (by kernel_rfl) (by kernel_rfl) (by kernel_rfl) (fun _ _ _ h => h) (Or.inl ⟨by rfl, by (intro w hSw; (try dsimp only at hSw); go_simp; try with_reducible rfl)⟩) (by assumption) ?_
          (try simp only [Act.put, List.setIfInBounds_toArray, List.set_cons_zero, List.set_cons_succ])
          refine wpAnyH_take_at (i := 6) rfl rfl (by kernel_rfl) (by kernel_rfl) (by kernel_rfl) (fun _ _ _ h => h) (Or.inl ⟨by rfl, by (intro w hSw; (try dsimp only at hSw); go_simp; try with_reducible rfl)⟩) (by assumption) ?_
          (try simp only [Act.put, List.setIfInBounds_toArray, List.set_cons_zero, List.set_cons_succ])
          refine wpAnyH_take_at (i := 7) rfl rfl (by kernel_rfl) (by kernel_rfl) (by kernel_rfl) (fun _ _ _ h => h) (Or.inl ⟨by rfl, by (intro w hSw; (try dsimp only at hSw); go_simp; try with_reducible rfl)⟩) (by assumption) ?_
          (try simp only [Act.put, List.setIfInBounds_toArray, List.set_cons_zero, List.set_cons_succ])
          refine wpAnyH_take_at (i := 8) rfl rfl (by kernel_rfl) (by kernel_rfl) (by kernel_rfl) (fun _ _ _ h => h) (Or.inl ⟨by rfl, by (intro w hSw; (try dsimp only at hSw); go_simp; try with_reducible rfl)⟩) (by assumption) ?_
          (try simp only [Act.put, List.setIfInBounds_toArray, List.set_cons_zero, List.set_cons_succ])
          refine wpAnyH_take_at (i := 10) rfl rfl (by kernel_rfl) (by kernel_rfl) (by kernel_rfl) (fun _ _ _ h => h) (Or.inl ⟨by rfl, by (intro w hSw; (try dsimp only at hSw); go_simp; try with_reducible rfl)⟩) (by assumption) ?_
          (try simp only [Act.put, List.setIfInBounds_toArray, List.set_cons_zero, List.set_cons_succ])
          refine wpAnyH_ready (rs := [9]) (by kernel_rfl) (by simp) ?_
          refine AllReadyH.cons rfl (fun K hK => ?_) AllReadyH.nil
          go_simp
          refine (HSF.out _ (KX.out _ hb66).2.1).mono ?_
          rintro _ _ ⟨rfl, rfl⟩
          refine hK.out _ _ (by (first | exact KS.out _ (by assumption) | (simp only [Act.put]; exact KS.out _ (by assumption)))) (fun hHeld => ?_)
          clear hK K
          (try simp only [Act.put, List.setIfInBounds_toArray, List.set_cons_zero, List.set_cons_succ])
          refine wpAnyH_ready (rs := [11]) (by kernel_rfl) (by simp) ?_
          refine AllReadyH.cons rfl (fun K hK => ?_) AllReadyH.nil
          go_simp
          refine (HEL.out _ (KX.out _ hb66).2.2.1 (KX.out _ hb66).1.c0).mono ?_
          rintro _ w7 ⟨v7, rfl, ho7, hb7⟩
          obtain ⟨g7, c7, rfl, hg71, hg72⟩ := ho7.block (by simp)
          have q0 := ho7.at_ rfl 0 (by simp)
          have q1 := ho7.at_ rfl 1 (by simp)
          have q2 := ho7.at_ rfl 2 (by simp)
          have q3 := ho7.at_ rfl 3 (by simp)
          simp only [List.length_cons, List.length_nil, List.getElem_cons_zero, List.getElem_cons_succ] at q0 q1 q2 q3 ⊢
          have hb67 := hb66.trans (hb7.mono hb66.size)
          clear ho7 hb7
          refine hK.out _ _ (by (first | exact KS.out _ (by assumption) | (simp only [Act.put]; exact KS.out _ (by assumption)))) (fun hHeld => ?_)
          clear hK K
          (try simp only [Act.put, List.setIfInBounds_toArray, List.set_cons_zero, List.set_cons_succ])
          refine wpAnyH_take_at (i := 15) rfl rfl (by kernel_rfl) (by kernel_rfl) (by kernel_rfl) (fun _ _ _ h => h) (Or.inl ⟨by rfl, by (intro w hSw; (try dsimp only at hSw); go_simp; try with_reducible rfl)⟩) (by assumption) ?_
          (try simp only [Act.put, List.setIfInBounds_toArray, List.set_cons_zero, List.set_cons_succ])
          refine wpAnyH_ready (rs := [12]) (by kernel_rfl) (by simp) ?_
          refine AllReadyH.cons rfl (fun K hK => ?_) AllReadyH.nil
          go_simp
          refine hK.out _ _ (by (first | exact KS.out _ (by assumption) | (simp only [Act.put]; exact KS.out _ (by assumption)))) (fun hHeld => ?_)
          clear hK K
          (try simp only [Act.put, List.setIfInBounds_toArray, List.set_cons_zero, List.set_cons_succ])
          refine wpAnyH_ready (rs := [13]) (by kernel_rfl) (by simp) ?_
          refine AllReadyH.cons rfl (fun K hK => ?_) AllReadyH.nil
          go_simp
          refine hK.out _ _ (by (first | exact KS.out _ (by assumption) | (simp only [Act.put]; exact KS.out _ (by assumption)))) (fun hHeld => ?_)
          clear hK K
          (try simp only [Act.put, List.setIfInBounds_toArray, List.set_cons_zero, List.set_cons_succ])
          refine wpAnyH_ready (rs := [14]) (by kernel_rfl) (by simp) ?_
          refine AllReadyH.cons rfl (fun K hK => ?_) AllReadyH.nil
          go_simp
          refine hK.out _ _ (by (first | exact KS.out _ (by assumption) | (simp only [Act.put]; exact KS.out _ (by assumption)))) (fun hHeld => ?_)
          clear hK K
          (try simp only [Act.put, List.setIfInBounds_toArray, List.set_cons_zero, List.set_cons_succ])
          refine wpAnyH_ready (rs := [16]) (by kernel_rfl) (by simp) ?_
          refine AllReadyH.cons rfl (fun K hK => ?_) AllReadyH.nil
          go_simp
          refine hK.out _ _ (KS.out _ hb67) (fun hHeld => ?_)
          clear hK K
          (try simp only [Act.put, List.setIfInBounds_toArray, List.set_cons_zero, List.set_cons_succ])
          refine wpAnyH_done (by kernel_rfl) ?_ _
          clear hHeld KS q0 q1 q2 q3 heq
          have HX7 := Lib.hid (KX.out _ hb67)
          clear KX
          go_wp2
          go_ret2
          exact ⟨_, by rw [HFI.out]; rfl, fun _ => ⟨_, _, _, rfl, by rw [Int.toNat_natCast]; exact HX7.out.2.2.2.1⟩, HX7.out.2.2.2.2⟩
        · have HNO : Hid (¬ TakenP p k l rs ns top N) := Lib.hid (fun g => c5 g.2.2.2.2.2.1)
          rw [show (ns.any fun x => decide (x.length ≠ 4)) = true by
            rw [List.any_eq_true]
            refine Classical.byContradiction fun hno => c5 fun x hx => ?_
            refine Classical.byContradiction fun h4 => hno ⟨x, hx, by simpa using h4⟩] at hcn
          have HCN := Lib.hid hcn
          clear hcn c5
          go_wp2_with fail
          refine HCN.out.mono ?_
          rintro _ _ ⟨rfl, rfl⟩
          go_wp2
          go_ret2
          exact FollowNo.is HNO.out ⟨rfl, HB3.out⟩
      · have HNO : Hid (¬ TakenP p k l rs ns top N) := Lib.hid (fun g => c4 (by rw [HND.out, ← HNS.out.1]; exact g.2.2.2.2.1))
        have t4 : ((nN : Int) != (nd : Int)) = true := by rw [bne_iff_ne]; omega
        clear c4
        go_wp2
        go_ret2
        exact FollowNo.is HNO.out ⟨rfl, HB3.out⟩
end Go.Proofs.YtijhajkakmohnaaGreatDoor

/- Walks: same.Rows, Openings, Opened; tree.Check. -/
set_option linter.unusedVariables false
namespace Go.Proofs.YtijhajkakmohnaaGreatDoor
open Go.RowKit Zp
/-- are rows the same? -/
def eqR (xs ys : List (List Int)) : Bool := decide (xs = ys)
theorem eqR_true {xs ys : List (List Int)} (h : xs = ys) : eqR xs ys = true := decide_eq_true h
theorem eqR_false {xs ys : List (List Int)} (h : xs ≠ ys) : eqR xs ys = false := decide_eq_false h
theorem drewN_add (w : World) (m n : Nat) : (w.drewN m).drewN n = w.drewN (m + n) := by simp [World.drewN, Nat.add_assoc]
theorem take_ne {α : Type} {xs ys : List α} {k : Nat} (hx : k < xs.length) (hy : k < ys.length) (h : xs[k] ≠ ys[k]) : xs ≠ ys := fun e => by subst e; exact h rfl
theorem take_snoc {α : Type} {xs ys : List α} {k : Nat} (hx : k < xs.length) (hy : k < ys.length) (h : xs[k] = ys[k]) (ht : xs.take k = ys.take k) : xs.take (k + 1) = ys.take (k + 1) := by
  rw [List.take_succ_eq_append_getElem hx, List.take_succ_eq_append_getElem hy, ht, h]
set_option maxHeartbeats 1000000 in
theorem rows_any (A B : Option Addr) (n m c d : Nat) (xs ys : List (List Int)) (hn : xs.length = n) (hm : ys.length = m) (hn2 : n ≤ 5864062014805) (hm2 : m ≤ 5864062014805) (w : World) (hx : TB w A xs) (hy : TB w B ys) :
    Calls Tryz.prog 16 #[.slice A n c, .slice B m d] w fun e w' => e = .returned (.bool (eqR xs ys)) ∧ ∃ k, w' = w.drewN k := by
  have HN := Lib.hid hn
  have HM := Lib.hid hm
  by_cases hnm : n = m
  · have HB2 := Lib.hid hn2
    have HX := Lib.hid hx
    have HY := Lib.hid hy
    subst hnm
    clear hn hm hn2 hm2 hx hy
    go_enter Tryz.func16, Tryz.ntmps16
    go_wp2
    go_loopw [5] (fun i wr => ∃ k q : Nat, k ≤ n ∧ i = vi k ∧ xs.take k = ys.take k ∧ wr = w.drewN q) (fun i _ => n - (intOf i).toNat)
    case atStart => exact ⟨0, 0, Nat.zero_le _, rfl, by simp, rfl⟩
    case round =>
      obtain ⟨k, q, hk, rfl, heq, rfl⟩ := hrel
      have HEQ := Lib.hid heq
      clear heq
      by_cases hlt : k < n
      · have hkx : k < xs.length := by rw [HN.out]; exact hlt
        have hky : k < ys.length := by rw [HM.out]; exact hlt
        obtain ⟨ad, A1, n1, c1, rfl, hb1, hc1, hl1, hn1, hs1, hz1⟩ := HX.out k hkx
        obtain ⟨bd, B1, m1, d1, rfl, hbb1, hcb1, hlb1, hm1, ht1, hz2⟩ := HY.out k hky
        clear hz1 hz2
        have i1 : (0 : Int) ≤ k := by omega
        have i2 : (k : Int) < n := by omega
        have hwr : IntKind.i64.wrap ((k : Int) + 1) = (k : Int) + 1 := IntWalk.i64_in _ (by have := HB2.out; omega)
        have hie := fun N : Nat => ints_any A1 B1 c1 d1 xs[k] ys[k] (by omega) (by omega) (w.drewN (q + N)) hs1 ht1
        rw [hl1, hlb1] at hie
        have HST := Lib.hid (fun h : xs[k] = ys[k] => take_snoc hkx hky h HEQ.out)
        have HNE := Lib.hid (fun h : xs[k] ≠ ys[k] => take_ne hkx hky h)
        generalize xs[k] = x at hl1 hs1 hie HST HNE
        generalize ys[k] = y at hlb1 ht1 hie HST HNE
        have HIE := Lib.hid (fun N => (hie N).mono fun e w' h => (show e = .returned (.bool (eqB x y)) ∧ ∃ m, w' = w.drewN (q + m) from ⟨h.1, by obtain ⟨k, rfl⟩ := h.2; exact ⟨N + k, by rw [drewN_add, Nat.add_assoc]⟩⟩))
        clear hl1 hn1 hs1 hlb1 hm1 ht1 hie hb1 hbb1 hkx hky
        by_cases hxy : x = y
        · have HT := Lib.hid (HST.out hxy)
          rw [eqB_true hxy] at HIE
          clear hxy HST HNE
          go_wp2
          go_quiet ((go_at_call 18; exact HIE.out _))
          go_wp2
          go_roundw
          case rel => exact ⟨k + 1, _, by omega, by go_num, HT.out, rfl⟩
          case measure => simp [intOf]; omega
        · have HT := Lib.hid (eqR_false (HNE.out hxy))
          rw [eqB_false hxy] at HIE
          clear hxy HST HNE
          go_wp2
          go_quiet ((go_at_call 18; exact HIE.out _))
          go_wp2
          go_ret
          exact ⟨ret_bool HT.out.symm, _, rfl⟩
      · obtain rfl : k = n := by omega
        have HT : Hid (eqR xs ys = true) := Lib.hid (eqR_true (by
          have := HEQ.out
          rwa [List.take_of_length_le (by rw [HN.out]; exact Nat.le_refl _), List.take_of_length_le (by rw [HM.out]; exact Nat.le_refl _)] at this))
        go_wp2
        go_ret
        exact ⟨ret_bool HT.out.symm, _, rfl⟩
  · have HT : Hid (eqR xs ys = false) := Lib.hid (eqR_false (fun e => hnm (by rw [← hn, ← hm, e])))
    have t1 : ((n : Int) != (m : Int)) = true := by rw [bne_iff_ne]; omega
    clear hn hm hnm hn2 hm2 hx hy
    go_enter Tryz.func16, Tryz.ntmps16
    go_wp2
    go_ret
    exact ⟨ret_bool HT.out.symm, 0, rfl⟩
/-- an Opening in memory, as a value -/
structure OpnAt (w : World) (A0 : Option Addr) (n0 c0 : Nat) (l : List Int) (AR : Option Addr) (nR cR : Nat) (rs : List (List Int)) (AN : Option Addr) (nN cN : Nat) (ns : List (List Int)) : Prop where
  l0 : l.length = n0
  lR : rs.length = nR
  lN : ns.length = nN
  b0 : n0 * 8 ≤ 140737488351232
  bR : nR ≤ 5864062014805
  bN : nN ≤ 5864062014805
  hN : nN ≤ cN
  i0 : ∀ x ∈ l, I64 x
  rR : ∀ t ∈ rs, t.length * 8 ≤ 140737488351232
  rN : ∀ t ∈ ns, t.length * 8 ≤ 140737488351232
  s0 : SL w A0 l
  tR : TB w AR rs
  tN : TB w AN ns
theorem OpnAt.below {w w' : World} {A0 : Option Addr} {n0 c0 : Nat} {l : List Int} {AR : Option Addr} {nR cR : Nat} {rs : List (List Int)} {AN : Option Addr} {nN cN : Nat} {ns : List (List Int)} (h : OpnAt w A0 n0 c0 l AR nR cR rs AN nN cN ns) (hb : Below w.heap.size w w') : OpnAt w' A0 n0 c0 l AR nR cR rs AN nN cN ns :=
  ⟨h.l0, h.lR, h.lN, h.b0, h.bR, h.bN, h.hN, h.i0, h.rR, h.rN, h.s0.below hb, h.tR.below hb, h.tN.below hb⟩
theorem OpnAt.drewN {w : World} {A0 : Option Addr} {n0 c0 : Nat} {l : List Int} {AR : Option Addr} {nR cR : Nat} {rs : List (List Int)} {AN : Option Addr} {nN cN : Nat} {ns : List (List Int)} (h : OpnAt w A0 n0 c0 l AR nR cR rs AN nN cN ns) (k : Nat) : OpnAt (w.drewN k) A0 n0 c0 l AR nR cR rs AN nN cN ns := h.below (below_drewN (Below.refl _ _) k)
/-- are two Openings the same? -/
def eqO (l l' : List Int) (rs rs' ns ns' : List (List Int)) : Bool := eqB l l' && (eqR rs rs' && eqR ns ns')
theorem below_drew' {w : World} (k : Nat) : Below w.heap.size w (w.drewN k) := below_drewN (Below.refl _ _) k
set_option maxRecDepth 100000 in
set_option maxHeartbeats 1000000 in
theorem openings_any {A0 : Option Addr} {n0 c0 : Nat} {l : List Int} {AR : Option Addr} {nR cR : Nat} {rs : List (List Int)} {AN : Option Addr} {nN cN : Nat} {ns : List (List Int)} {A0' : Option Addr} {n0' c0' : Nat} {l' : List Int} {AR' : Option Addr} {nR' cR' : Nat} {rs' : List (List Int)} {AN' : Option Addr} {nN' cN' : Nat} {ns' : List (List Int)}
    (w : World) (hx : OpnAt w A0 n0 c0 l AR nR cR rs AN nN cN ns) (hy : OpnAt w A0' n0' c0' l' AR' nR' cR' rs' AN' nN' cN' ns') :
    Calls Tryz.prog 11 #[.agg #[.slice A0 n0 c0, .slice AR nR cR, .slice AN nN cN], .agg #[.slice A0' n0' c0', .slice AR' nR' cR', .slice AN' nN' cN']] w fun e w' => e = .returned (.bool (eqO l l' rs rs' ns ns')) ∧ Below w.heap.size w w' := by
  obtain ⟨W, hW⟩ : ∃ W, W = (w.alloc (.cells #[.slice A0 n0 c0, .slice AR nR cR, .slice AN nN cN] 25)).alloc (.cells #[.slice A0' n0' c0', .slice AR' nR' cR', .slice AN' nN' cN'] 25) := ⟨_, rfl⟩
  have hb0 : Below w.heap.size w W := by rw [hW]; exact ((Below.refl _ _).alloc (Nat.le_refl _) _).alloc (by simp) _
  have hB7 := (Blk.new w 25 #[.slice A0 n0 c0, .slice AR nR cR, .slice AN nN cN]).alloc (.cells #[.slice A0' n0' c0', .slice AR' nR' cR', .slice AN' nN' cN'] 25)
  have hB8 := Blk.new (w.alloc (.cells #[.slice A0 n0 c0, .slice AR nR cR, .slice AN nN cN] 25)) 25 #[.slice A0' n0' c0', .slice AR' nR' cR', .slice AN' nN' cN']
  rw [← hW] at hB7 hB8
  rw [show (w.alloc (.cells #[.slice A0 n0 c0, .slice AR nR cR, .slice AN nN cN] 25)).heap.size = w.heap.size + 1 by simp] at hB8
  have HX := Lib.hid (hx.below hb0)
  have HY := Lib.hid (hy.below hb0)
  have HI : Hid (∀ W', Below W.heap.size W W' → Calls Tryz.prog 18 #[.slice A0 n0 c0, .slice A0' n0' c0'] W' fun e w' => e = .returned (.bool (eqB l l')) ∧ ∃ k, w' = W'.drewN k) := Lib.hid fun W' hb => by
    have h := ints_any A0 A0' c0 c0' l l' (by have := HX.out.l0; have := HX.out.b0; omega) (by have := HY.out.l0; have := HY.out.b0; omega) W' (HX.out.s0.below hb) (HY.out.s0.below hb)
    rw [HX.out.l0, HY.out.l0] at h
    exact h
  have HRR : Hid (∀ W', Below W.heap.size W W' → Calls Tryz.prog 16 #[.slice AR nR cR, .slice AR' nR' cR'] W' fun e w' => e = .returned (.bool (eqR rs rs')) ∧ ∃ k, w' = W'.drewN k) := Lib.hid fun W' hb =>
    rows_any AR AR' nR nR' cR cR' rs rs' HX.out.lR HY.out.lR HX.out.bR HY.out.bR W' (HX.out.tR.below hb) (HY.out.tR.below hb)
  have HRN : Hid (∀ W', Below W.heap.size W W' → Calls Tryz.prog 16 #[.slice AN nN cN, .slice AN' nN' cN'] W' fun e w' => e = .returned (.bool (eqR ns ns')) ∧ ∃ k, w' = W'.drewN k) := Lib.hid fun W' hb =>
    rows_any AN AN' nN nN' cN cN' ns ns' HX.out.lN HY.out.lN HX.out.bN HY.out.bN W' (HX.out.tN.below hb) (HY.out.tN.below hb)
  have d0 := (hB7.cell 0).trans (show _ = some (.slice A0 n0 c0) from rfl)
  have d1 := (hB7.cell 1).trans (show _ = some (.slice AR nR cR) from rfl)
  have d2 := (hB7.cell 2).trans (show _ = some (.slice AN nN cN) from rfl)
  have f0 := (hB8.cell 0).trans (show _ = some (.slice A0' n0' c0') from rfl)
  have f1 := (hB8.cell 1).trans (show _ = some (.slice AR' nR' cR') from rfl)
  have f2 := (hB8.cell 2).trans (show _ = some (.slice AN' nN' cN') from rfl)
  obtain ⟨b1, hb1⟩ : ∃ b, b = eqB l l' := ⟨_, rfl⟩
  obtain ⟨b2, hb2⟩ : ∃ b, b = eqR rs rs' := ⟨_, rfl⟩
  obtain ⟨b3, hb3⟩ : ∃ b, b = eqR ns ns' := ⟨_, rfl⟩
  unfold eqO
  rw [← hb1] at HI ⊢
  rw [← hb2] at HRR ⊢
  rw [← hb3] at HRN ⊢
  have HW := Lib.hid hW
  have HB0 := Lib.hid hb0
  clear hb1 hb2 hb3 hx hy hB7 hB8 hb0 hW HX HY
  go_enter Tryz.func11, Tryz.ntmps11
  go_upto_region 1 with (fail)
  rw [← HW.out]
  go_wp2_with fail
  refine (HI.out _ (Below.refl _ _)).mono ?_
  rintro _ _ ⟨rfl, k1, rfl⟩
  go_wp2_with fail
  refine (HRR.out _ (below_drew' k1)).mono ?_
  rintro _ _ ⟨rfl, k2, rfl⟩
  rw [drewN_add]
  go_wp2_with fail
  refine (HRN.out _ (below_drew' _)).mono ?_
  rintro _ _ ⟨rfl, k3, rfl⟩
  rw [drewN_add]
  have hfin := HB0.out.trans (below_drewN (Below.refl w.heap.size W) (k1 + k2 + k3))
  have HFIN := Lib.hid hfin
  clear hfin d0 d1 d2 f0 f1 f2
  cases b1 <;> cases b2 <;> cases b3 <;> (go_wp2; go_ret; exact ⟨rfl, HFIN.out⟩)
/-- an Opening of the caller's -/
def OpenedIs (l : List Int) (rs ns : List (List Int)) (w : World) (e : Ending) (w' : World) : Prop :=
  ∃ A0 n0 c0 AR nR cR AN nN cN, e = .returned (.agg #[.slice A0 n0 c0, .slice AR nR cR, .slice AN nN cN]) ∧ OpnAt w' A0 n0 c0 l AR nR cR rs AN nN cN ns ∧ Below w.heap.size w w'
theorem MadeRows.tb {ls : List (List Int)} {w : World} {e : Ending} {w' : World} (h : MadeRows ls w e w') (hi : ∀ l ∈ ls, ∀ x ∈ l, I64 x) : ∃ A n c, e = .returned (.slice A n c) ∧ ls.length = n ∧ n ≤ c ∧ TB w' A ls ∧ Below w.heap.size w w' := by
  obtain ⟨v, us, rfl, ho, hr, hb⟩ := h
  obtain ⟨A, n, c, rfl, h1, h2⟩ := ownR_shape ho
  exact ⟨A, n, c, rfl, by rw [← hr.1]; exact h1, h2, tb_own ho hr hi, hb⟩
theorem tb_i64 {w : World} {A : Option Addr} {ts : List (List Int)} (h : TB w A ts) : ∀ l ∈ ts, ∀ x ∈ l, I64 x := fun l hl => by
  obtain ⟨k, hk, rfl⟩ := List.mem_iff_getElem.1 hl
  obtain ⟨_, _, _, _, _, _, _, _, _, _, hi⟩ := h k hk
  exact hi
theorem own_past {w w' : World} {base r : Nat} {v : Value} {xs : List Int} (h : Own w base v xs) (hg : w.grownBy w' (some r)) (hr : r < base) : Own w' base v xs :=
  h.keep fun g hgv => hg.block g (h.lt g hgv).2 (fun e => by injection e with e; have := (h.lt g hgv).1; omega)
theorem ownR_past {w w' : World} {base r : Nat} {v : Value} {us : List Value} (h : OwnR w base v us) (hg : w.grownBy w' (some r)) (hr : r < base) : OwnR w' base v us :=
  World.ownsRow.kept h hg (by
    rcases hv : v.ownBlock with _ | g
    · exact .inl rfl
    · refine .inr fun e => ?_
      injection e with e
      have := (World.ownsRow.lt h g hv).1
      omega)
theorem rowsOwn_past {w w' : World} {base r : Nat} {us : List Value} {ls : List (List Int)} (h : RowsOwn w base us ls) (hg : w.grownBy w' (some r)) (hr : r < base) : RowsOwn w' base us ls := ⟨h.1, fun k h1 h2 => own_past (h.2 k h1 h2) hg hr⟩
/-- three cells of a block are stored into -/
theorem blk_set3 {w : World} {r : Nat} {t : TypeId} {a b c : Value} (h : Blk w r t #[a, b, c]) (x y z : Value) : Blk (((w.setCell ⟨r, 0, none⟩ x).setCell ⟨r, 1, none⟩ y).setCell ⟨r, 2, none⟩ z) r t #[x, y, z] ∧ w.grownBy (((w.setCell ⟨r, 0, none⟩ x).setCell ⟨r, 1, none⟩ y).setCell ⟨r, 2, none⟩ z) (some r) :=
  ⟨((h.set_ 0 x).set_ 1 y).set_ 2 z, grownBy_trans (grownBy_trans blk_grown blk_grown) blk_grown⟩
set_option maxRecDepth 100000 in
set_option maxHeartbeats 1000000 in
theorem opened_any {A0 : Option Addr} {n0 c0 : Nat} {l : List Int} {AR : Option Addr} {nR cR : Nat} {rs : List (List Int)} {AN : Option Addr} {nN cN : Nat} {ns : List (List Int)} (w : World) (hx : OpnAt w A0 n0 c0 l AR nR cR rs AN nN cN ns) :
    Calls Tryz.prog 8 #[.agg #[.slice A0 n0 c0, .slice AR nR cR, .slice AN nN cN]] w (OpenedIs l rs ns w) := by
  obtain ⟨W, hW⟩ : ∃ W, W = (w.alloc (.cells #[.slice A0 n0 c0, .slice AR nR cR, .slice AN nN cN] 25)).alloc (.cells #[.slice none 0 0, .slice none 0 0, .slice none 0 0] 25) := ⟨_, rfl⟩
  have hb0 : Below w.heap.size w W := by rw [hW]; exact ((Below.refl _ _).alloc (Nat.le_refl _) _).alloc (by simp) _
  have hB7 := (Blk.new w 25 #[.slice A0 n0 c0, .slice AR nR cR, .slice AN nN cN]).alloc (.cells #[.slice none 0 0, .slice none 0 0, .slice none 0 0] 25)
  have hB8 := Blk.new (w.alloc (.cells #[.slice A0 n0 c0, .slice AR nR cR, .slice AN nN cN] 25)) 25 #[.slice none 0 0, .slice none 0 0, .slice none 0 0]
  rw [← hW] at hB7 hB8
  rw [show (w.alloc (.cells #[.slice A0 n0 c0, .slice AR nR cR, .slice AN nN cN] 25)).heap.size = w.heap.size + 1 by simp] at hB8
  have hbe : Below W.heap.size W (W.alloc (.cells #[] 3)) := (Below.refl _ _).alloc (Nat.le_refl _) _
  have ho0 := own_empty W W.heap.size (Nat.le_refl _)
  have hxW := hx.below hb0
  have d0 := ((Blk.below hB7 hbe hB7.lt).cell 0).trans (show _ = some (.slice A0 n0 c0) from rfl)
  have hrW : w.heap.size + 1 < W.heap.size := hB8.lt
  have HS0 := Lib.hid (hxW.s0.below hbe)
  have HX := Lib.hid hxW
  have HB7 := Lib.hid hB7
  have HB8 := Lib.hid hB8
  have HB0 := Lib.hid hb0
  have HBE := Lib.hid hbe
  have HO0 := Lib.hid ho0
  have HW := Lib.hid hW
  have HLM := Lib.hid (show ([] : List Int).length + n0 ≤ 17592186044416 by have := hx.b0; simp; omega)
  have HLL := Lib.hid hx.l0
  clear hx hB7 hB8 hb0 hW hbe ho0 hxW
  go_enter Tryz.func8, Tryz.ntmps8
  go_upto_region 1 with (fail)
  rw [← HW.out]
  go_wp2_with (at_builtin; refine wpList_appA _ rfl _ _ rfl W.heap.size _ [] A0 n0 c0 l rfl rfl HLL.out HO0.out HS0.out HLM.out (by simp) ?_; intro v2 w2 hg2; have ho2 := hg2.own; have hb2 : Below W.heap.size W w2 := hg2.below HBE.out HO0.out (Nat.le_refl _) HBE.out.size; clear hg2; obtain ⟨A2, n2, c2, rfl, hl2, hc2, hm2, hs2⟩ := ho2.shapeN; have d1 := ((Blk.below HB7.out hb2 HB7.out.lt).cell 1).trans (show _ = some (.slice AR nR cR) from rfl); clear hs2)
  have HB2 := Lib.hid hb2
  have HO2 := Lib.hid ho2
  have HL2 := Lib.hid (And.intro hl2 hc2)
  have HCR := Lib.hid (copied_any AR nR cR rs HX.out.lR HX.out.bR (fun t ht => by have := HX.out.rR t ht; omega) w2 (HX.out.tR.below hb2))
  clear hb2 ho2 hl2 hc2 hm2
  refine HCR.out.mono ?_
  rintro _ w3 ⟨v3, us3, rfl, ho3, hr3, hb3⟩
  obtain ⟨A3, n3, c3, rfl, hn3, hc3⟩ := ownR_shape ho3
  have hb03 := HB2.out.trans (hb3.mono HB2.out.size)
  have d2 := ((Blk.below HB7.out hb03 HB7.out.lt).cell 2).trans (show _ = some (.slice AN nN cN) from rfl)
  have HCN := Lib.hid (copied_any AN nN cN ns HX.out.lN HX.out.bN (fun t ht => by have := HX.out.rN t ht; omega) w3 (HX.out.tN.below hb03))
  have HR3 := Lib.hid (And.intro ho3 (And.intro hr3 (And.intro hn3 hb3)))
  have HB03 := Lib.hid hb03
  clear ho3 hr3 hn3 hc3 hb3 hb03 d1
  go_wp2_with fail
  refine HCN.out.mono ?_
  rintro _ w4 ⟨v4, us4, rfl, ho4, hr4, hb4⟩
  obtain ⟨A4, n4, c4, rfl, hn4, hc4⟩ := ownR_shape ho4
  have hb04 := HB03.out.trans (hb4.mono HB03.out.size)
  have hB84 := Blk.below HB8.out hb04 HB8.out.lt
  obtain ⟨hset, hgr⟩ := blk_set3 hB84 (.slice A2 n2 c2) (.slice A3 n3 c3) (.slice A4 n4 c4)
  have hs2 := HB2.out.size
  have hs3 := HB03.out.size
  have o2 := own_past ((HO2.out.below HR3.out.2.2.2).below hb4) hgr (by omega)
  have o3 := ownR_past (OwnR.below HR3.out.1 hb4) hgr (by omega)
  have r3 := rowsOwn_past (RowsOwn.below HR3.out.2.1 hb4) hgr (by omega)
  have o4 := ownR_past ho4 hgr (by omega)
  have r4 := rowsOwn_past hr4 hgr (by omega)
  have hbf : Below w.heap.size w ((((w4.setCell ⟨w.heap.size + 1, 0, none⟩ (.slice A2 n2 c2)).setCell ⟨w.heap.size + 1, 1, none⟩ (.slice A3 n3 c3)).setCell ⟨w.heap.size + 1, 2, none⟩ (.slice A4 n4 c4))) :=
    (HB0.out.trans (hb04.mono HB0.out.size)).grown hgr (by have := HB0.out.size; have := hb04.size; omega) (fun x hx => by injection hx with hx; omega)
  obtain ⟨A2', n2', c2', ev, hl2', _, _, hsl2⟩ := o2.shapeN
  injection ev with ev1 ev2 ev3
  subst ev1 ev2 ev3
  have q0 := (hset.cell 0).trans (show _ = some (.slice A2 n2 c2) from rfl)
  have q1 := (hset.cell 1).trans (show _ = some (.slice A3 n3 c3) from rfl)
  have q2 := (hset.cell 2).trans (show _ = some (.slice A4 n4 c4) from rfl)
  have hz0 := hB84.frozen 0
  have hz1 := hB84.frozen 1
  have hz2 := hB84.frozen 2
  have k0 := (hB84.cell 0).trans (show _ = some (.slice none 0 0) from rfl)
  have k1 := (hB84.cell 1).trans (show _ = some (.slice none 0 0) from rfl)
  have k2 := (hB84.cell 2).trans (show _ = some (.slice none 0 0) from rfl)
  have HFIN : Hid (OpenedIs l rs ns w (.returned (.agg #[.slice A2 n2 c2, .slice A3 n3 c3, .slice A4 n4 c4])) ((((w4.setCell ⟨w.heap.size + 1, 0, none⟩ (.slice A2 n2 c2)).setCell ⟨w.heap.size + 1, 1, none⟩ (.slice A3 n3 c3)).setCell ⟨w.heap.size + 1, 2, none⟩ (.slice A4 n4 c4)))) := Lib.hid
    ⟨A2, n2, c2, A3, n3, c3, A4, n4, c4, rfl, ⟨by simpa using hl2', by rw [← r3.1]; exact HR3.out.2.2.1, by rw [← r4.1]; exact hn4, by have := HX.out.b0; have := HX.out.l0; simp at hl2'; omega, by have := HX.out.bR; have := HX.out.lR; have := r3.1; have := HR3.out.2.2.1; omega, by have := HX.out.bN; have := HX.out.lN; have := r4.1; omega, hc4, HX.out.i0, HX.out.rR, HX.out.rN, hsl2, tb_own o3 r3 (tb_i64 HX.out.tR), tb_own o4 r4 (tb_i64 HX.out.tN)⟩, hbf⟩
  clear o2 o3 r3 o4 r4 hbf hset hgr hsl2 hB84 hb04 hb4 ho4 hr4 d2
  go_wp2
  exact bodyPost_ret (v := .agg #[.slice A2 n2 c2, .slice A3 n3 c3, .slice A4 n4 c4]) (by simp [results, Tryz.results8, go_sem, q0, q1, q2]) rfl HFIN.out
end Go.Proofs.YtijhajkakmohnaaGreatDoor
