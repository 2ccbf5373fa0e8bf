/- Walks: same.Spoil; Domain.Points; the reference's Half. -/
import Derived.Test.YtkhkoeibigpdnaaDoorLawG3
import Derived.Test.YtkhkoeibigpdnaaDoorQp
import Derived.Test.YtkhkoeibigpdnaaDoorFold
set_option linter.unusedVariables false
namespace Go.Proofs.YtkhkoeibigpdnaaDoor
open Go.RowKit Zp

theorem grown_set (w : World) (q : Addr) (u : Value) : w.grownBy (w.setCell q u) (some q.block) :=
  ⟨rfl, rfl, rfl, by rw [World.size_setCell]; exact Nat.le_refl _, fun i _ hne => Below.heap_setCell w q u i (fun e => hne (by rw [e]))⟩
/-- all but the slice's own block lies as it did -/
def Spoils (v : Value) (w : World) (e : Ending) (w' : World) : Prop := (∃ r, e = .returned r) ∧ w.grownBy w' v.ownBlock
theorem Own.kept' {w w' : World} {base base2 : Nat} {u v : Value} {xs ys : List Int} (h : Own w base2 u xs) (hv : Own w base v ys) (hg : w.grownBy w' v.ownBlock) (hne : ∀ g, v.ownBlock = some g → g < base2) : Own w' base2 u xs :=
  h.grown hg (by
    cases hu : u.ownBlock with
    | none => exact .inl rfl
    | some k => exact .inr (fun e => by have h1 := hne k e.symm; have h2 := (h.lt k hu).1; omega))
set_option maxHeartbeats 1000000 in
theorem spoil_any (base : Nat) (v : Value) (n : Nat) (xs : List Int) (hml : xs.length = n) (hn : n ≤ 8388608) (w : World) (hbase : base ≤ w.heap.size) (hown : Own w base v xs) :
    Calls Tryd.prog 26 #[v] w fun e w' => Spoils v w e w' := by
  have hrep : ∃ ys : List Int, ys.length = n ∧ Own w base v ys := ⟨xs, hml, hown⟩
  obtain ⟨A, n1, c, rfl, hl, hc, hcm, _⟩ := hown.shapeN
  rw [hml] at hl
  subst hl
  have hg : 0 < n → ∃ g, A = some ⟨g, 0, none⟩ := fun h0 => by
    obtain ⟨g, cap, e, _⟩ := hown.block (by omega)
    injection e with e1
    exact ⟨g, e1⟩
  have HREP := Lib.hid hrep
  have HG := Lib.hid hg
  clear hrep hml hown hcm hg
  go_enter Tryd.func26, Tryd.ntmps26
  go_wp2
  go_loopw [2] (fun i wr => ∃ k : Nat, k ≤ n ∧ i = vi k ∧ (∃ ys : List Int, ys.length = n ∧ Own wr base (.slice A n c) ys) ∧ w.grownBy wr (Value.slice A n c).ownBlock) (fun i _ => n - (intOf i).toNat)
  case atStart => exact ⟨0, Nat.zero_le _, rfl, HREP.out, ⟨rfl, rfl, rfl, Nat.le_refl _, fun _ _ _ => rfl⟩⟩
  case round =>
    obtain ⟨k, hk, rfl, ⟨ys, hyl, hown⟩, hb⟩ := hrel
    have HYL := Lib.hid hyl
    clear hyl
    by_cases hkn : k < n
    · obtain ⟨g, rfl⟩ := HG.out (by omega)
      have hat := hown.at_ HYL.out.symm k (by rw [HYL.out]; exact hkn)
      have hfz := hown.frozen_ HYL.out.symm k
      have hst := hown.store HYL.out.symm k (-77)
      have hgs := grown_set wr ⟨g, k, none⟩ (vi (-77))
      generalize ys[k]'(by rw [HYL.out]; exact hkn) = y at hat
      have HST := Lib.hid hst
      clear hst hown
      go_wp2
      go_roundw
      case rel => exact ⟨k + 1, by omega, by go_num, ⟨ys.set k (-77), by rw [List.length_set]; exact HYL.out, HST.out⟩, grownBy_trans hb (by first | exact hgs | (simp only [Addr.add, Nat.zero_add]; exact hgs))⟩
      case measure => simp [intOf]; omega
    · obtain rfl : k = n := by omega
      have hlit := sl_lit' wr [-78, -79]
      have hba : Below wr.heap.size wr (wr.alloc (.cells #[vi (-78), vi (-79)] 3)) := (Below.refl _ _).alloc (Nat.le_refl _) _
      have hown' := hown.below hba
      have hsz : base ≤ (wr.alloc (.cells #[vi (-78), vi (-79)] 3)).heap.size := Nat.le_trans (Nat.le_trans hbase hb.size) hba.size
      have hb2 := grownBy_trans hb (World.grownBy_alloc wr (.cells #[vi (-78), vi (-79)] 3) _)
      go_wp2_with (at_builtin; refine wpList_appA _ rfl _ _ rfl base _ ys _ 2 2 [-78, -79] rfl rfl rfl hown' hlit (by rw [HYL.out]; omega) hsz ?_; intro v' w2 hg)
      go_end0
      exact ⟨⟨_, rfl⟩, grownBy_trans hb2 hg.grown⟩

theorem dpoints_any (p S D b : Nat) [NeZero p] (n : Nat) (s : Fin p) (w : World) (hD : Dom w S D b p n s) :
    Calls Tryd.prog 19 #[.pointer (some ⟨D, 0, none⟩)] w fun e w' => Made (fvs (powL s (rootI p n) n)) w e w' := by
  have hc2 := hD.c2
  have hc3 := hD.c3
  have hDl := Nat.lt_of_lt_of_le hD.lt hD.le
  have HP := Lib.hid (fun k => powers_any p S D b n s s (rootI p n) (w.drewN k) (hD.drewN k))
  go_enter Tryd.func19, Tryd.ntmps19
  go_upto_region 1 with (fail)
  go_region_held3 (fun w' => w'.cell? ⟨D, 2, none⟩ = some (vi (fv s)) ∧ w'.cell? ⟨D, 3, none⟩ = some (vi (fv (rootI p n)))) (first | exact ⟨hc2, hc3⟩ | exact ⟨(hb.cell (p := ⟨D, 2, none⟩) hDl).trans hc2, (hb.cell (p := ⟨D, 3, none⟩) hDl).trans hc3⟩) ((go_at_call 68; refine (HP.out _).mono ?_; rintro e w1 ⟨v, rfl, hown, hb⟩))
  all_goals go_wp2
  all_goals go_ret
  all_goals exact ⟨v, rfl, hown.more (Nat.le_refl _), ⟨hb.os, hb.tape, hb.output, hb.size, hb.block⟩⟩

set_option maxHeartbeats 1000000 in
theorem rhalf_any (q : Nat) [NeZero q] (hqm : q ≤ 2147483647) (n h : Nat) (hn : n = 2 * h) (hn2 : n ≤ 65536) (s r : Fin q) (w : World) :
    Calls Tryd.prog 29 #[RDom q n (fv s) (fv r)] w fun e w' => GivesV (RDom q h (fv (s * s)) (fv (r * r))) w e w' := by
  have h1 := fun w => rmul_any q hqm (fv s) (fv s) (i64_fv _ hqm) (i64_fv _ hqm) w
  have h2 := fun w => rmul_any q hqm (fv r) (fv r) (i64_fv _ hqm) (i64_fv _ hqm) w
  simp only [el_fv] at h1 h2
  have t2 : (n : Int).tdiv 2 = (h : Int) := by rw [Int.tdiv_eq_ediv_of_nonneg (by omega)]; omega
  have t3 : (n : Int) / 2 = (h : Int) := by omega
  generalize fv (s * s) = S at h1 ⊢
  generalize fv (r * r) = R at h2 ⊢
  have H1 := Lib.hid h1
  have H2 := Lib.hid h2
  clear h1 h2 hn
  go_enter Tryd.func29, Tryd.ntmps29
  go_wp2_with fail
  refine (H1.out _).mono ?_
  rintro e w' ⟨rfl, rfl⟩
  go_wp2_with fail
  refine (H2.out _).mono ?_
  rintro e w' ⟨rfl, rfl⟩
  go_wp2
  exact bodyPost_ret (v := RDom q h S R) (by simp [results, Tryd.results29, go_sem]) rfl ⟨rfl, ((Below.refl _ _).alloc (Nat.le_refl _) _).alloc (by simp) _⟩
end Go.Proofs.YtkhkoeibigpdnaaDoor
