/- Walks: Root, domain.New, Size, Field; a domain in memory. -/
import Derived.Test.YtkhkoeibigpdnaaDoorFw4
import Derived.Test.YtkhkoeibigpdnaaDoorDm
import Derived.Test.YtkhkoeibigpdnaaDoorRound
import Derived.IntWalk
import Derived.Test.YtkhkoeibigpdnaaDoorRt
set_option linter.unusedVariables false
namespace Go.Proofs.YtkhkoeibigpdnaaDoor
open Go.RowKit Zp


/-- a size that may be -/
def SizeOk (p n : Nat) : Prop := (∃ k, k ≤ 16 ∧ n = 2 ^ k) ∧ n ∣ p - 1
theorem SizeOk.pos {p n : Nat} (h : SizeOk p n) : 0 < n := by
  obtain ⟨⟨k, _, rfl⟩, _⟩ := h
  exact Nat.pow_pos (by omega)
theorem SizeOk.le {p n : Nat} (h : SizeOk p n) : n ≤ 65536 := by
  obtain ⟨⟨k, hk, rfl⟩, _⟩ := h
  exact Nat.pow_le_pow_right (n := 2) (by omega) hk
theorem sizeOk_of {p n : Nat} (h1 : 1 ≤ n) (h2 : n ≤ 65536) (h3 : (n &&& (n - 1)) = 0) (h4 : n ∣ p - 1) : SizeOk p n := by
  obtain ⟨k, rfl⟩ := (two_pow_iff n h1).1 h3
  refine ⟨⟨k, ?_, rfl⟩, h4⟩
  false_or_by_contra
  rename_i hk
  have : 2 ^ 17 ≤ 2 ^ k := Nat.pow_le_pow_right (by omega) (by omega)
  omega
theorem SizeOk.and {p n : Nat} (h : SizeOk p n) : (n &&& (n - 1)) = 0 := (two_pow_iff n h.pos).2 (let ⟨⟨k, _, e⟩, _⟩ := h; ⟨k, e⟩)

/-- the domain of n points that begins with s lies at block D, its field at b, all of it below block S -/
structure Dom (w : World) (S D b p : Nat) [NeZero p] (n : Nat) (s : Fin p) : Prop where
  fld : Fld w S b p
  lt : D < S
  c0 : w.cell? ⟨D, 0, none⟩ = some (.pointer (some ⟨b, 0, none⟩))
  c1 : w.cell? ⟨D, 1, none⟩ = some (vi n)
  c2 : w.cell? ⟨D, 2, none⟩ = some (vi (fv s))
  c3 : w.cell? ⟨D, 3, none⟩ = some (vi (fv (rootI p n)))
  s0 : s ≠ 0
  size : SizeOk p n
section
variable {w w' : World} {S D b p n : Nat} [NeZero p] {s : Fin p}
theorem Dom.keep (h : Dom w S D b p n s) (hk : ∀ q : Addr, q.block < S → w'.cell? q = w.cell? q) (hs : w.heap.size ≤ w'.heap.size) : Dom w' S D b p n s :=
  ⟨h.fld.keep hk hs, h.lt, (hk _ h.lt).trans h.c0, (hk _ h.lt).trans h.c1, (hk _ h.lt).trans h.c2, (hk _ h.lt).trans h.c3, h.s0, h.size⟩
theorem Dom.below (h : Dom w S D b p n s) {B : Nat} (hb : Below B w w') (hS : S ≤ B) : Dom w' S D b p n s := h.keep (fun q hq => hb.cell (by omega)) hb.size
theorem Dom.drewN (h : Dom w S D b p n s) (k : Nat) : Dom (w.drewN k) S D b p n s := h.keep (fun _ _ => rfl) (Nat.le_refl _)
theorem Dom.alloc (h : Dom w S D b p n s) (o : Obj) : Dom (w.alloc o) S D b p n s := h.keep (fun q hq => World.cell?_alloc_lt w o q (by have := h.fld.le; omega)) (by simp)
theorem Dom.le (h : Dom w S D b p n s) : S ≤ w.heap.size := h.fld.le
end

abbrev NoDom (k : Int) : Ending := .returned (.tuple #[.pointer none, .iface 107 (.int .i64 k)])

theorem dnew_size1 (b : Nat) (n t : Int) (h : n < 1 ∨ 65536 < n) (w : World) : Calls Tryd.prog 65 #[.pointer (some ⟨b, 0, none⟩), vi n, vi t] w fun e w' => e = NoDom 2 ∧ w = w' := by
  by_cases h1 : n < 1
  · clear h
    go_enter Tryd.func65, Tryd.ntmps65
    go_wp2
    go_ret2
    exact ⟨rfl, rfl⟩
  · have h2 : 65536 < n := by omega
    clear h
    go_enter Tryd.func65, Tryd.ntmps65
    go_wp2
    go_ret2
    exact ⟨rfl, rfl⟩

theorem and_pred (n : Nat) (h1 : 1 ≤ n) (h2 : n ≤ 65536) : bits .and .i64 (n : Int) ((n : Int) - 1) = ((n &&& (n - 1) : Nat) : Int) := by
  have e : (n : Int) - 1 = ((n - 1 : Nat) : Int) := by omega
  rw [e]
  exact i64_and_nat n (n - 1) (by omega) (by omega)

theorem dnew_size2 (p b : Nat) (n : Nat) (t : Int) (h1 : 1 ≤ n) (h2 : n ≤ 65536) (hp1 : 2 ≤ p) (hp2 : p ≤ 2147483647) (h : ¬ SizeOk p n) (w : World) (hc : w.cell? ⟨b, 0, none⟩ = some (vi p)) :
    Calls Tryd.prog 65 #[.pointer (some ⟨b, 0, none⟩), vi n, vi t] w fun e w' => e = NoDom 2 ∧ w = w' := by
  have ha := and_pred n h1 h2
  by_cases h3 : (n &&& (n - 1)) = 0
  · have hd : ¬ n ∣ p - 1 := fun hd => h (sizeOk_of h1 h2 h3 hd)
    have t1 : (bits .and .i64 (n : Int) ((n : Int) - 1) != 0) = false := by rw [ha, h3]; rfl
    have e1 : ((p : Int) - 1) = ((p - 1 : Nat) : Int) := by omega
    have t2 : (((p : Int) - 1) % (n : Int) != 0) = true := by
      rw [bne_iff_ne, e1, ← Int.natCast_emod]
      intro h0
      exact hd (Nat.dvd_of_mod_eq_zero (by omega))
    clear h ha h3 hd e1
    go_enter Tryd.func65, Tryd.ntmps65
    go_wp2_with fail
    refine (p_any p b _ hc).mono ?_
    rintro e w' ⟨rfl, rfl⟩
    go_wp2
    go_ret2
    exact ⟨rfl, rfl⟩
  · have t1 : (bits .and .i64 (n : Int) ((n : Int) - 1) != 0) = true := by rw [ha, bne_iff_ne]; omega
    clear h ha h3
    go_enter Tryd.func65, Tryd.ntmps65
    go_wp2
    go_ret2
    exact ⟨rfl, rfl⟩

/-- the test on the size is met -/
structure SizeTests (p n : Nat) : Prop where
  t1 : (bits .and .i64 (n : Int) ((n : Int) - 1) != 0) = false
  t2 : (((p : Int) - 1) % (n : Int) != 0) = false
  h1 : 1 ≤ n
  h2 : n ≤ 65536
theorem sizeTests {p n : Nat} (hp1 : 2 ≤ p) (h : SizeOk p n) : SizeTests p n := by
  have h1 := h.pos
  have h2 := h.le
  refine ⟨by rw [and_pred n h1 h2, h.and]; rfl, ?_, h1, h2⟩
  have e1 : ((p : Int) - 1) = ((p - 1 : Nat) : Int) := by omega
  rw [e1, ← Int.natCast_emod, Nat.mod_eq_zero_of_dvd h.2]; rfl

theorem dnew_shift (p b : Nat) [NeZero p] (n : Nat) (t : Int) (ht : I64 t) (hp1 : 2 ≤ p) (hp2 : p ≤ 2147483647) (h : SizeOk p n) (h0 : el p t = 0) (w : World) (hc : w.cell? ⟨b, 0, none⟩ = some (vi p)) :
    Calls Tryd.prog 65 #[.pointer (some ⟨b, 0, none⟩), vi n, vi t] w fun e w' => e = NoDom 3 ∧ w = w' := by
  obtain ⟨t1, t2, h1, h2⟩ := sizeTests hp1 h
  have t3 : (fv (el p t) == 0) = true := by rw [h0]; rfl
  clear h h0
  go_enter Tryd.func65, Tryd.ntmps65
  go_wp2_with fail
  refine (p_any p b _ hc).mono ?_
  rintro e w' ⟨rfl, rfl⟩
  go_wp2_with fail
  refine (of_el p hp2 b t ht _ hc).mono ?_
  rintro e w' ⟨rfl, rfl⟩
  go_wp2
  go_ret2
  exact ⟨rfl, rfl⟩

/-- what New answers of a size and a shift that may be -/
def MadeDom (p b n : Nat) [NeZero p] (t : Int) (w : World) (e : Ending) (w' : World) : Prop :=
  ∃ D : Nat, e = .returned (.tuple #[.pointer (some ⟨D, 0, none⟩), .nilIface]) ∧ Dom w' w'.heap.size D b p n (el p t) ∧ Below w.heap.size w w' ∧ w.heap.size ≤ D

set_option maxHeartbeats 1000000 in
theorem dnew_ok (p S b : Nat) [NeZero p] (n : Nat) (t : Int) (ht : I64 t) (h : SizeOk p n) (h0 : el p t ≠ 0) (w : World) (F : Fld w S b p) :
    Calls Tryd.prog 65 #[.pointer (some ⟨b, 0, none⟩), vi n, vi t] w fun e w' => MadeDom p b n t w e w' := by
  have hp1 := F.two
  have hp2 := F.max
  have hc := F.c0
  obtain ⟨t1, t2, h1, h2⟩ := sizeTests hp1 h
  have t3 : (fv (el p t) == 0) = false := by rw [beq_eq_false_iff_ne]; exact fun e => h0 (fv_eq_zero.1 e)
  have hn : I64 (n : Int) := ⟨by omega, by omega⟩
  have H := Lib.hid h
  have H0 := Lib.hid h0
  clear h h0
  go_enter Tryd.func65, Tryd.ntmps65
  go_wp2_with fail
  refine (p_any p b _ hc).mono ?_
  rintro e w' ⟨rfl, rfl⟩
  go_wp2_with fail
  refine (of_el p hp2 b t ht _ hc).mono ?_
  rintro e w' ⟨rfl, rfl⟩
  go_wp2_with fail
  refine (of_el p hp2 b t ht _ hc).mono ?_
  rintro e w' ⟨rfl, rfl⟩
  go_wp2_with fail
  refine (root_any p S b n hn _ F).mono ?_
  rintro e w' ⟨rfl, k, rfl⟩
  go_wp2
  go_ret2
  have hB := Blk.new (w'.drewN k) 104 #[.pointer (some ⟨b, 0, none⟩), vi n, vi (fv (el p t)), vi (fv (rootI p n))]
  have F' := (F.drewN k).alloc (.cells #[.pointer (some ⟨b, 0, none⟩), vi n, vi (fv (el p t)), vi (fv (rootI p n))] 104)
  have hle := F.le
  refine ⟨_, rfl, ⟨⟨F'.prime, F'.three, F'.max, by simp; have := F.lt; omega, Nat.le_refl _, F'.c0, ?_, F'.c2⟩, by simp, (hB.cell 0).trans rfl, (hB.cell 1).trans rfl, (hB.cell 2).trans rfl, (hB.cell 3).trans rfl, H0.out, H.out⟩, (below_drewN (Below.refl _ _) k).alloc (Nat.le_refl _) _, Nat.le_refl _⟩
  obtain ⟨A, c, fs, f1, f2, f3, f4⟩ := F'.c1
  exact ⟨A, c, fs, f1, f2, f3, f4.more (by simp; omega)⟩

theorem size_any (D n : Nat) (w : World) (hc : w.cell? ⟨D, 1, none⟩ = some (vi n)) :
    Calls Tryd.prog 22 #[.pointer (some ⟨D, 0, none⟩)] w fun e w' => e = .returned (vi n) ∧ w = w' := by
  go_enter Tryd.func22, Tryd.ntmps22
  go_wp2
  go_ret
  exact ⟨rfl, rfl⟩
theorem dfield_any (D b : Nat) (w : World) (hc : w.cell? ⟨D, 0, none⟩ = some (.pointer (some ⟨b, 0, none⟩))) :
    Calls Tryd.prog 23 #[.pointer (some ⟨D, 0, none⟩)] w fun e w' => e = .returned (.pointer (some ⟨b, 0, none⟩)) ∧ w = w' := by
  go_enter Tryd.func23, Tryd.ntmps23
  go_wp2
  go_ret
  exact ⟨rfl, rfl⟩
end Go.Proofs.YtkhkoeibigpdnaaDoor
