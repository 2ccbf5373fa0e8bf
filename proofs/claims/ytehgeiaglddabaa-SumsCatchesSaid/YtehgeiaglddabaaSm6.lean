/- Walks: sums.checked, Total. -/
import Derived.Test.YtehgeiaglddabaaSm5
set_option linter.unusedVariables false
namespace Go.Proofs.Ytehgeiaglddabaa
open Go.RowKit Zp

theorem varsI_eq {n v : Nat} (h : varsI n = (v : Int)) : Cube n v := by
  by_cases hi : IsCube n
  · obtain ⟨u, hu⟩ := hi
    rw [varsI_of hu] at h
    obtain rfl : u = v := by omega
    exact hu
  · rw [varsI_no hi] at h; omega
theorem cell_new1 (w : World) (v : Value) (t : TypeId) : (w.alloc (.cells #[v] t)).cell? ⟨w.heap.size, 0, none⟩ = some v := by
  simp
/-- all tables have v variables -/
def Over (ts : List (List Int)) (v : Nat) : Prop := ∀ t ∈ ts, Cube t.length v

set_option maxRecDepth 100000 in
theorem containsf_any (A : Option Addr) (d c : Nat) (ts : List (List Int)) (hd : ts.length = d) (hd2 : d ≤ 4) (V : Nat) (v : Int) (hv : I64 v) (w : World) (hcV : w.cell? ⟨V, 0, none⟩ = some (vi v)) (hs : TB w A ts) (r : Bool) (hr : r = true ↔ ¬ ∀ t ∈ ts, varsI t.length = v) :
    Calls Try.prog 77 #[.slice A d c, .func (.func 82) #[] #[.pointer (some ⟨V, 0, none⟩)]] w fun e w' => e = .returned (.bool r) ∧ ∃ k, w' = w.drewN k := by
  have hix := Lib.hid (indexf_any A d c ts hd hd2 V v hv w hcV hs)
  have HR := Lib.hid hr
  clear hd hr
  go_enter Try.func77, Try.ntmps77
  go_wp2_with fail
  refine (hix.out).mono ?_
  rintro e w' ⟨⟨q, rfl, hq⟩, m, rfl⟩
  rcases hq with ⟨h0, hq⟩ | ⟨h0, hq⟩
  · have hb := HR.out.2 hq
    clear hq
    go_wp2
    go_ret
    exact ⟨ret_bool (by first | (rw [hb]; done) | (rw [hb]; rfl) | (rw [hb]; simp; omega)), _, rfl⟩
  · have hb : r = false := by
      cases r
      · rfl
      · exact absurd hq (HR.out.1 rfl)
    clear hq
    go_wp2
    go_ret
    exact ⟨ret_bool (by first | (rw [hb]; done) | (rw [hb]; rfl) | (rw [hb]; simp; omega)), _, rfl⟩

theorem checked_d (A : Option Addr) (d c : Nat) (hd : d < 9223372036854775808) (h : d = 0 ∨ 4 < d) (w : World) :
    Calls Try.prog 61 #[.slice A d c] w fun e w' => e = NoInt 2 ∧ w = w' := by
  rcases h with h | h
  · subst h
    go_enter Try.func61, Try.ntmps61
    go_wp2
    go_ret2
    exact ⟨rfl, rfl⟩
  · go_enter Try.func61, Try.ntmps61
    go_wp2
    go_ret2
    exact ⟨rfl, rfl⟩

set_option maxRecDepth 100000 in
set_option maxHeartbeats 1000000 in
theorem checked_yes (A : Option Addr) (d c : Nat) (ts : List (List Int)) (hd : ts.length = d) (hd1 : 1 ≤ d) (hd2 : d ≤ 4) (v : Nat) (hv : Over ts v) (w : World) (hs : TB w A ts) :
    Calls Try.prog 61 #[.slice A d c] w fun e w' => GivesI (v : Int) w e w' := by
  have hv12 : v ≤ 12 := (hv _ (List.getElem_mem (show 0 < ts.length by omega))).1
  have hvI : I64 (v : Int) := by constructor <;> omega
  obtain ⟨a0, A0, n0, c0, rfl, z1, hc0, hl0, hb0, z2, z3⟩ := hs 0 (by omega)
  have hc00 : w.cell? a0 = some (.slice A0 n0 c0) := by
    have e : a0.add 0 = a0 := by cases a0; simp [Addr.add]
    rw [← e]; exact hc0
  have hcu : Cube n0 v := by rw [← hl0]; exact hv _ (List.getElem_mem _)
  have hvar := Lib.hid (fun W => variables_yes A0 n0 c0 v hcu W)
  have hall : ∀ t ∈ ts, varsI t.length = (v : Int) := fun t ht => varsI_of (hv t ht)
  have hcf := Lib.hid (fun V W hcV hsW => containsf_any (some a0) d c ts hd hd2 V (v : Int) hvI W hcV hsW false (Iff.intro (fun h => Bool.noConfusion h) (fun h => absurd hall h)))
  have h1 : ¬ (d : Int) < 1 := by omega
  clear z1 z2 z3 hc0 hl0 hcu hv hall hd
  go_enter Try.func61, Try.ntmps61
  go_wp2_with fail
  refine (hvar.out _).mono ?_
  rintro e w' ⟨rfl, rfl⟩
  go_wp2_with fail
  have hba : Below w.heap.size w (w.alloc (.cells #[vi v] 3)) := (Below.refl _ _).alloc (Nat.le_refl _) _
  refine (hcf.out _ _ (cell_new1 _ _ _) (hs.below hba)).mono ?_
  rintro e w' ⟨rfl, m, rfl⟩
  have hcV : ((w.alloc (.cells #[vi v] 3)).drewN m).cell? ⟨w.heap.size, 0, none⟩ = some (vi v) := cell_new1 _ _ _
  go_wp2
  go_ret2
  exact ⟨rfl, below_drewN hba m⟩

set_option maxRecDepth 100000 in
set_option maxHeartbeats 1000000 in
theorem checked_no (A : Option Addr) (d c : Nat) (ts : List (List Int)) (hd : ts.length = d) (hd1 : 1 ≤ d) (hd2 : d ≤ 4) (hv : ¬ ∃ v, Over ts v) (w : World) (hs : TB w A ts) :
    Calls Try.prog 61 #[.slice A d c] w fun e w' => e = NoInt 2 ∧ Below w.heap.size w w' := by
  obtain ⟨a0, A0, n0, c0, rfl, z1, hc0, hl0, hb0, z2, z3⟩ := hs 0 (by omega)
  have hc00 : w.cell? a0 = some (.slice A0 n0 c0) := by
    have e : a0.add 0 = a0 := by cases a0; simp [Addr.add]
    rw [← e]; exact hc0
  have h1 : ¬ (d : Int) < 1 := by omega
  by_cases hi : IsCube n0
  · obtain ⟨v, hcu⟩ := hi
    have hv12 := hcu.1
    have hvI : I64 (v : Int) := by constructor <;> omega
    have hvar := Lib.hid (fun W => variables_yes A0 n0 c0 v hcu W)
    have hall : ¬ ∀ t ∈ ts, varsI t.length = (v : Int) := fun h => hv ⟨v, fun t ht => varsI_eq (h t ht)⟩
    have hcf := Lib.hid (fun V W hcV hsW => containsf_any (some a0) d c ts hd hd2 V (v : Int) hvI W hcV hsW true (Iff.intro (fun _ => hall) (fun _ => rfl)))
    clear z1 z2 z3 hc0 hl0 hcu hv hall hd
    go_enter Try.func61, Try.ntmps61
    go_wp2_with fail
    refine (hvar.out _).mono ?_
    rintro e w' ⟨rfl, rfl⟩
    go_wp2_with fail
    have hba : Below w.heap.size w (w.alloc (.cells #[vi v] 3)) := (Below.refl _ _).alloc (Nat.le_refl _) _
    refine (hcf.out _ _ (cell_new1 _ _ _) (hs.below hba)).mono ?_
    rintro e w' ⟨rfl, m, rfl⟩
    go_wp2
    go_ret2
    exact ⟨rfl, below_drewN hba m⟩
  · have hvar := Lib.hid (fun W => variables_no A0 n0 c0 hb0 hi W)
    clear z1 z2 z3 hc0 hl0 hv hi hd
    go_enter Try.func61, Try.ntmps61
    go_wp2_with fail
    refine (hvar.out _).mono ?_
    rintro e w' ⟨rfl, rfl⟩
    go_wp2
    go_ret2
    exact ⟨rfl, (Below.refl _ w).alloc (Nat.le_refl _) _⟩
theorem Total_d (b : Nat) (A : Option Addr) (d c : Nat) (hd : d < 9223372036854775808) (h : d = 0 ∨ 4 < d) (w : World) :
    Calls Try.prog 31 #[.pointer (some ⟨b, 0, none⟩), .slice A d c] w fun e w' => e = NoInt 2 ∧ w = w' := by
  have hck := Lib.hid (checked_d A d c hd h w)
  clear h
  go_enter Try.func31, Try.ntmps31
  go_wp2_with fail
  refine (hck.out).mono ?_
  rintro e w' ⟨rfl, rfl⟩
  go_wp2
  go_ret2
  exact ⟨rfl, rfl⟩

theorem Total_no (b : Nat) (A : Option Addr) (d c : Nat) (ts : List (List Int)) (hd : ts.length = d) (hd1 : 1 ≤ d) (hd2 : d ≤ 4) (hv : ¬ ∃ v, Over ts v) (w : World) (hs : TB w A ts) :
    Calls Try.prog 31 #[.pointer (some ⟨b, 0, none⟩), .slice A d c] w fun e w' => e = NoInt 2 ∧ Below w.heap.size w w' := by
  have hck := Lib.hid (checked_no A d c ts hd hd1 hd2 hv w hs)
  clear hv hd
  go_enter Try.func31, Try.ntmps31
  go_wp2_with fail
  refine (hck.out).mono ?_
  rintro e w' ⟨rfl, hb⟩
  go_wp2
  go_ret2
  exact ⟨rfl, hb⟩

theorem Total_any (p b : Nat) [NeZero p] (hp1 : 2 ≤ p) (hp2 : p ≤ 2147483647) (A : Option Addr) (d c : Nat) (ts : List (List Int)) (hd : ts.length = d) (hd1 : 1 ≤ d) (hd2 : d ≤ 4) (v : Nat) (hv : Over ts v) (w : World) (hcb : w.cell? ⟨b, 0, none⟩ = some (vi p)) (hs : TB w A ts) :
    Calls Try.prog 31 #[.pointer (some ⟨b, 0, none⟩), .slice A d c] w fun e w' => GivesI (fv (totP d (2 ^ v) (tabOf p ts))) w e w' := by
  have hck := Lib.hid (checked_yes A d c ts hd hd1 hd2 v hv w hs)
  have hbl : b < w.heap.size := block_lt_of_cell hcb
  have htt := Lib.hid (fun W hc hsW => total_any p b hp1 hp2 A d c ts hd hd1 hd2 (2 ^ v) (fun t ht => (hv t ht).2) W hc hsW)
  obtain ⟨Z, hZ⟩ : ∃ Z, Z = totP d (2 ^ v) (tabOf p ts) := ⟨_, rfl⟩
  rw [← hZ] at htt ⊢
  clear hv hd hZ
  go_enter Try.func31, Try.ntmps31
  go_wp2_with fail
  refine (hck.out).mono ?_
  rintro e w1 ⟨rfl, hb⟩
  go_wp2_with fail
  refine (htt.out _ ((hb.cell (p := ⟨b, 0, none⟩) hbl).trans hcb) (hs.below hb)).mono ?_
  rintro e w' ⟨rfl, m, rfl⟩
  go_wp2
  go_ret2
  exact ⟨rfl, below_drewN hb m⟩
end Go.Proofs.Ytehgeiaglddabaa
