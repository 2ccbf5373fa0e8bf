/- The field in memory; the walk of New. -/
import Derived.Test.YtiohededmcfhjaaDoorFw3
import Derived.Deep.LoopGhost
set_option linter.unusedVariables false
namespace Go.Proofs.YtiohededmcfhjaaDoor
open Go.RowKit Zp

/-- the field of p lies at block b, all of it below block S -/
structure Fld (w : World) (S b p : Nat) [NeZero p] : Prop where
  prime : IsPrime p
  three : 3 ≤ p
  max : p ≤ 2147483647
  lt : b < S
  le : S ≤ w.heap.size
  c0 : w.cell? ⟨b, 0, none⟩ = some (vi p)
  c1 : ∃ A c fs, w.cell? ⟨b, 1, none⟩ = some (.slice A fs.length c) ∧ fs.length ≤ 2147483648 ∧ Facs p fs ∧ Reads w S 1 A fs.length ((fs.map (fun q : Nat => (q : Int))).map vi)
  c2 : w.cell? ⟨b, 2, none⟩ = some (vi (genN p))

section
variable {w w' : World} {S b p : Nat} [NeZero p]
theorem Fld.keep (h : Fld w S b p) (hk : ∀ q : Addr, q.block < S → w'.cell? q = w.cell? q) (hs : w.heap.size ≤ w'.heap.size) : Fld w' S b p := by
  obtain ⟨A, c, fs, h1, h2, h3, h4⟩ := h.c1
  exact ⟨h.prime, h.three, h.max, h.lt, Nat.le_trans h.le hs, (hk _ h.lt).trans h.c0, ⟨A, c, fs, (hk _ h.lt).trans h1, h2, h3, h4.keep hk⟩, (hk _ h.lt).trans h.c2⟩
theorem Fld.below (h : Fld w S b p) {B : Nat} (hb : Below B w w') (hS : S ≤ B) : Fld w' S b p := h.keep (fun q hq => hb.cell (by omega)) hb.size
theorem Fld.drewN (h : Fld w S b p) (k : Nat) : Fld (w.drewN k) S b p := h.keep (fun _ _ => rfl) (Nat.le_refl _)
theorem Fld.two (h : Fld w S b p) : 2 ≤ p := by have := h.three; omega
theorem Fld.alloc (h : Fld w S b p) (o : Obj) : Fld (w.alloc o) S b p := h.keep (fun q hq => World.cell?_alloc_lt w o q (by have := h.le; omega)) (by simp)
end

/-- what New answers where there is no field -/
abbrev NoField : Ending := .returned (.tuple #[.pointer none, .iface 48 (.int .i64 1)])

theorem new_no (p : Int) (w : World) (h : p < 3 ∨ 2147483647 < p) :
    Calls Tryd.prog 21 #[vi p] w fun e w' => e = NoField ∧ w = w' := by
  by_cases h3 : p < 3
  · go_enter Tryd.func21, Tryd.ntmps21
    go_wp2
    go_ret2
    exact ⟨rfl, rfl⟩
  · have h4 : 2147483647 < p := by omega
    clear h
    go_enter Tryd.func21, Tryd.ntmps21
    go_wp2
    go_ret2
    exact ⟨rfl, rfl⟩

theorem new_composite (p : Nat) (w : World) (h1 : 3 ≤ p) (h2 : p ≤ 2147483647) (hp : ¬ IsPrime p) :
    Calls Tryd.prog 21 #[vi p] w fun e w' => e = NoField ∧ w = w' := by
  have hb := primeB_false hp
  clear hp
  go_enter Tryd.func21, Tryd.ntmps21
  go_wp2_with (go_at_call 44; refine (prime_any p (by omega) h2 _).mono ?_; rintro e w' ⟨rfl, rfl⟩)
  go_ret2
  exact ⟨rfl, rfl⟩

/-- what New answers of a prime -/
def MadeField (p : Nat) [NeZero p] (w : World) (e : Ending) (w' : World) : Prop :=
  ∃ b : Nat, e = .returned (.tuple #[.pointer (some ⟨b, 0, none⟩), .nilIface]) ∧ Fld w' w'.heap.size b p ∧ Below w.heap.size w w' ∧ w.heap.size ≤ b

set_option maxHeartbeats 1000000 in
theorem new_prime (p : Nat) [NeZero p] (w : World) (h1 : 3 ≤ p) (h2 : p ≤ 2147483647) (hp : IsPrime p) :
    Calls Tryd.prog 21 #[vi p] w fun e w' => MadeField p w e w' := by
  have hb := primeB_true hp
  have hpr := (primes_any (p - 1) (by omega) (by omega) w)
  have ep : ((p - 1 : Nat) : Int) = (p : Int) - 1 := by omega
  rw [ep] at hpr
  have EP := Lib.hid ep
  clear ep
  have HPR := Lib.hid hpr
  clear hpr
  go_enter Tryd.func21, Tryd.ntmps21
  go_wp2_with (go_at_call 44; refine (prime_any p (by omega) h2 _).mono ?_; rintro e w' ⟨rfl, rfl⟩)
  refine (HPR.out).mono ?_
  rintro e w1 ⟨v, fs, rfl, hown, hbel, hf2, hfl, hfn, hfa⟩
  obtain ⟨A, c, hv, _, _, _, hsl⟩ := hown.shape
  rw [hv]
  rw [List.length_map]
  clear hown hv
  have hsz := hbel.size
  go_wp2
  go_loopg [] (p - 1) (fun t wr => ∃ g : Nat, t + g = p ∧ 1 ≤ g ∧ g < p ∧ Blk wr w1.heap.size 62 #[vi p, .slice A fs.length c, vi g] ∧ Below w1.heap.size w1 wr ∧
    ∀ k : Nat, 1 ≤ k → k < g → ¬ Ord (el p (k : Int)) (p - 1))
  case atStart =>
    exact ⟨1, by omega, by omega, by omega, Blk.new _ _ _, (Below.refl _ _).alloc (Nat.le_refl _) _, fun k h1 h2 => by omega⟩
  case round =>
    obtain ⟨g, hg, hg1, hgp, hblk, hb1, hno⟩ := hrel
    have hc0 : wr.cell? ⟨w1.heap.size, 0, none⟩ = some (vi p) := by rw [hblk.cell]; rfl
    have hc1 : wr.cell? ⟨w1.heap.size, 1, none⟩ = some (.slice A fs.length c) := by rw [hblk.cell]; rfl
    have hc2 : wr.cell? ⟨w1.heap.size, 2, none⟩ = some (vi g) := by rw [hblk.cell]; rfl
    have hfz := hblk.frozen 2
    have hfac : Facs p fs := ⟨hf2, hfl, hfa⟩
    have hslr : SL wr A (fs.map (fun q : Nat => (q : Int))) := SL.below hsl hb1
    have hI : I64 (g : Int) := ⟨by omega, by omega⟩
    have hx0 : el p (g : Int) ≠ 0 := fun h => by
      have := el_natCast_of_lt hgp
      rw [h, fv_zero] at this
      omega
    by_cases ho : Ord (el p (g : Int)) (p - 1)
    · have hb : (((ordN (el p (g : Int)) : Nat) : Int) != (p : Int) - 1) = false := by rw [ordN_of_ord hp hx0 ho, bne_eq_false_iff_eq, EP.out]
      have hgen : genN p = g := genN_eq ⟨hg1, hgp, ho, hno⟩
      have HG := Lib.hid hgen
      clear hgen hno ho hx0
      have HH := Lib.hid hg
      clear hg
      go_wp2_with (go_at_call 46; refine (order_any p hp h2 fs hfac _ _ hI _ hc0 A c hc1 hfn hslr).mono ?_; rintro e w' ⟨rfl, rfl⟩)
      go_ret2
      have hlt := hblk.lt
      refine ⟨w1.heap.size, rfl, ⟨hp, h1, h2, hlt, Nat.le_refl _, hc0, ⟨A, c, fs, hc1, hfn, hfac, ?_⟩, by rw [HG.out]; exact hc2⟩, hbel.trans (hb1.mono hsz), hsz⟩
      unfold SL at hslr
      rw [List.length_map] at hslr
      exact hslr
    · have hne : ordN (el p (g : Int)) ≠ p - 1 := fun h => ho (h ▸ ordN_ord hp hx0)
      have hb : (((ordN (el p (g : Int)) : Nat) : Int) != (p : Int) - 1) = true := by rw [bne_iff_ne, ← EP.out]; omega
      have hno2 : ∀ k : Nat, 1 ≤ k → k < g + 1 → ¬ Ord (el p (k : Int)) (p - 1) := fun k hk hk2 => by
        by_cases e : k = g
        · exact e ▸ ho
        · exact hno k hk (by omega)
      have hg2 : g + 1 < p := by
        false_or_by_contra
        rename_i hge
        obtain ⟨r, r1, r2, r3⟩ := gen_exists hp
        exact hno2 r r1 (by omega) r3
      have HH := Lib.hid hg
      clear hne hx0 hg ho hno
      go_wp2_with (go_at_call 46; refine (order_any p hp h2 fs hfac _ _ hI _ hc0 A c hc1 hfn hslr).mono ?_; rintro e w' ⟨rfl, rfl⟩)
      go_roundg (gk - 1)
      case measure => have := HH.out; omega
      case rel => exact ⟨g + 1, by have := HH.out; omega, by omega, hg2, hblk.set_ 2 _, hb1.setCell (Nat.le_refl _) _, hno2⟩
end Go.Proofs.YtiohededmcfhjaaDoor
