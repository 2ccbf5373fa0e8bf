/- A bundle of texts: Gs9, Gsa, Gsb, Gsc, Od. -/
import Derived.Test.YtpkhcncempoohaaGreatDoorQ00
set_option linter.unusedVariables false
set_option linter.unusedSimpArgs false
namespace Go.Proofs.YtpkhcncempoohaaGreatDoor
open Zp
section
variable {p : Nat} [NeZero p]
abbrev RowF (p : Nat) := (Nat → Fin p) → (Nat → Fin p) → Fin p
theorem IsPoly.scale {m : Nat} {g : Fin p → Fin p} (h : IsPoly m g) (e : Fin p) : IsPoly m (fun t => g (e * t)) := by
  obtain ⟨l, h1, h2⟩ := h
  have key : ∀ (l : List (Fin p)), ∃ l' : List (Fin p), l'.length = l.length ∧ ∀ t, ev l (e * t) = ev l' t := by
    intro l
    induction l with
    | nil => exact ⟨[], rfl, fun t => rfl⟩
    | cons a l ih =>
      obtain ⟨l', h1, h2⟩ := ih
      refine ⟨a :: l'.map (fun x => e * x), by simp [h1], fun t => ?_⟩
      have h3 : ∀ m : List (Fin p), ev (m.map fun x => e * x) t = e * ev m t := by
        intro m
        induction m with
        | nil => simp only [List.map_nil, ev]; grind
        | cons b m ih => simp only [List.map_cons, ev]; rw [ih]; grind
      simp only [ev]
      rw [h2, h3]
      grind
  obtain ⟨l', h3, h4⟩ := key l
  exact ⟨l', by omega, fun t => by show g (e * t) = _; rw [h2, h4]⟩
def DegR (d : Nat) (f : RowF p) : Prop := ∀ (m : Nat) (R : Nat → Fin p → Fin p) (e : Fin p), (∀ j, IsPoly (m + 1) (R j)) → IsPoly (d * m + 1) (fun t => f (fun j => R j t) (fun j => R j (e * t)))
theorem DegR.const (c : Fin p) : DegR 0 (fun _ _ => c) := fun m R e h => by
  have := IsPoly.const c
  rwa [Nat.zero_mul]
theorem DegR.col (j : Nat) : DegR (p := p) 1 (fun r _ => r j) := fun m R e h => by rw [Nat.one_mul]; exact h j
theorem DegR.nxt (j : Nat) : DegR (p := p) 1 (fun _ r' => r' j) := fun m R e h => by rw [Nat.one_mul]; exact (h j).scale e
theorem DegR.mono {d d' : Nat} {f : RowF p} (h : DegR d f) (hd : d ≤ d') : DegR d' f := fun m R e hR => (h m R e hR).mono (by have := Nat.mul_le_mul_right m hd; omega)
theorem DegR.add {d : Nat} {f g : RowF p} (h : DegR d f) (h' : DegR d g) : DegR d (fun r r' => f r r' + g r r') := fun m R e hR => (h m R e hR).add (h' m R e hR)
theorem DegR.mul {d d' : Nat} {f g : RowF p} (h : DegR d f) (h' : DegR d' g) : DegR (d + d') (fun r r' => f r r' * g r r') := fun m R e hR => by
  have := (h m R e hR).mul (h' m R e hR)
  rw [Nat.add_mul]
  exact this.mono (by omega)
theorem DegR.sub {d : Nat} {f g : RowF p} (h : DegR d f) (h' : DegR d g) : DegR d (fun r r' => f r r' - g r r') := fun m R e hR => ((h m R e hR).add (IsPoly.smul (-1) (h' m R e hR))).congr fun t => by grind
theorem DegR.congr {d : Nat} {f g : RowF p} (h : DegR d f) (e : ∀ r r', g r r' = f r r') : DegR d g := fun m R w hR => (h m R w hR).congr fun t => e _ _
theorem DegR.sum {d : Nat} {f : Nat → RowF p} (n : Nat) (h : ∀ i, i < n → DegR d (f i)) : DegR d (fun r r' => sumT n fun i => f i r r') := fun m R e hR => IsPoly.sum n (fun i hi => h i hi m R e hR) (by omega)
theorem DegR.ite {d : Nat} {f g : RowF p} {c : Prop} [Decidable c] (h : DegR d f) (h' : DegR d g) : DegR d (fun r r' => if c then f r r' else g r r') := by
  by_cases hc : c
  · exact h.congr fun r r' => by rw [if_pos hc]
  · exact h'.congr fun r r' => by rw [if_neg hc]
theorem sumI_deg {code : List InsI} {d : Nat} {f : (Nat → Fin p) → Nat → InsI → Fin p} (h : ∀ k x, DegR d (fun r _ => f r k x)) : DegR (1 + d) (fun r _ => sumI code r (f r)) := DegR.sum _ fun k _ => (DegR.col (20 + k)).mul (h k _)
theorem colC (j : Nat) (c : Fin p) : DegR 1 (fun r _ => r j + c) := (DegR.col j).add ((DegR.const c).mono (by omega))
theorem constD (d : Nat) (c : Fin p) : DegR d (fun _ _ => c) := (DegR.const c).mono (Nat.zero_le _)
theorem colD (j : Nat) {d : Nat} (h : 1 ≤ d) : DegR (p := p) d (fun r _ => r j) := (DegR.col j).mono h
theorem cellI_deg (j k : Nat) (x : InsI) : DegR (p := p) 1 (fun r _ => cellI r j k x) := by
  unfold cellI
  refine .ite (.ite (colC 0 _) (.ite (colC 0 _) (colC 0 _))) (.ite (.ite (colC 0 _) (constD _ _)) (.ite (.ite (colC 0 _) (.ite (colC 0 _) (constD _ _))) (.ite (.ite (.col 1) (.ite (colC 1 _) (constD _ _))) (.ite (.ite (.sub (.col 0) (constD _ _)) (.ite (.sub (.col 0) (constD _ _)) (colC 0 _))) (.ite (.ite (colC 0 _) (.ite (.add (colC 1 _) (constD _ _)) (constD _ _))) (constD _ _))))))
theorem doesI_deg (k : Nat) (x : InsI) : DegR (p := p) 3 (fun r _ => doesI r k x) := by
  unfold doesI
  have c : ∀ j, DegR (p := p) 3 (fun r _ => r j) := fun j => colD j (by omega)
  have m2 : ∀ i j, DegR (p := p) 3 (fun r _ => r i * r j) := fun i j => ((DegR.col i).mul (.col j)).mono (by omega)
  refine .ite (.sub (.add (c 7) (c 8)) (c 9)) (.ite (.sub (.sub (c 7) (c 8)) (c 9)) (.ite (.sub (m2 7 8) (c 9)) (.ite (.sub (m2 9 8) (c 7)) (.ite (.sub (c 7) (constD _ _)) (.ite (.sub ?_ (.sub (constD _ _) (c 9))) (.ite (.sub (c 7) (c 8)) (.ite ?_ (.ite (.sub (c 7) (c 0)) (.ite (.sub (c 7) (c 2)) (.ite (constD _ _) (constD _ _)))))))))))
  · exact ((DegR.sub (.col 7) (.col 8)).mul (.col 11)).mono (by omega)
  · exact (DegR.col 7).mul (DegR.sub (constD 2 1) ((DegR.col 11).mul (.col 7)))
theorem moreI_deg (k : Nat) (x : InsI) : DegR (p := p) 3 (fun r _ => moreI r k x) := by
  unfold moreI
  have m2 : ∀ i j, DegR (p := p) 3 (fun r _ => r i * r j) := fun i j => ((DegR.col i).mul (.col j)).mono (by omega)
  refine .ite (.sub (m2 11 8) (constD _ _)) (.ite ?_ (.ite (.sub (colD 8 (by omega)) (constD _ _)) (constD _ _)))
  exact ((DegR.col 9).mul (.sub (.col 7) (.col 8))).mono (by omega)
theorem goesI_deg (k : Nat) (x : InsI) : DegR (p := p) 3 (fun r _ => goesI r k x) := by
  unfold goesI
  have m2 : DegR (p := p) 2 (fun r _ => r 11 * r 7) := (DegR.col 11).mul (.col 7)
  refine .ite (constD _ _) (.ite (constD _ _) (.ite (.add ?_ ?_) (.ite (colD 8 (by omega)) (constD _ _))))
  · exact ((DegR.sub (constD 2 1) m2).mul (DegR.const _)).mono (by omega)
  · exact (m2.mul (DegR.const _)).mono (by omega)
theorem fpI_deg (k : Nat) (x : InsI) : DegR (p := p) 3 (fun r _ => fpI r k x) := by
  unfold fpI
  exact .ite (.add (colD 1 (by omega)) (constD _ _)) (.ite (colD 7 (by omega)) (colD 0 (by omega)))
theorem apI_deg (k : Nat) (x : InsI) : DegR (p := p) 3 (fun r _ => apI r k x) := by
  unfold apI
  exact .ite (.add (.add (colD 1 (by omega)) (constD _ _)) (constD _ _)) (colD 1 (by omega))
theorem rvI_deg (k : Nat) (x : InsI) : DegR (p := p) 3 (fun r _ => rvI r k x) := by
  unfold rvI
  exact .ite (colD 9 (by omega)) (colD 2 (by omega))
theorem haltI_deg (k : Nat) (x : InsI) : DegR (p := p) 3 (fun _ _ => haltI k x) := constD _ _
def ordA (b c : Fin p) : Fin p := (c - b) * (c - b - 1)
def ordB (b w c x : Fin p) : Fin p := (c - b - 1) * (x - w)
def fcR (y x : Fin p) (a v : Nat) (r : Nat → Fin p) (i : Nat) : Fin p := x - (r (a + i) + y * r (v + i))
def prodR (y x : Fin p) (a v : Nat) (r : Nat → Fin p) : Fin p := fcR y x a v r 0 * fcR y x a v r 1 * fcR y x a v r 2 * fcR y x a v r 3
def ruS (code : List InsI) : List (RowF p) := (List.range code.length).map (fun k r _ => r (20 + k) * r (20 + k) - r (20 + k))
def ruT (code : List InsI) (size : Int) (out : Fin p) : List (RowF p) :=
  [fun r _ => sumI code r (fun _ _ => 1) - 1,
   fun r _ => r 3 - sumI code r (cellI r 0), fun r _ => r 4 - sumI code r (cellI r 1), fun r _ => r 5 - sumI code r (cellI r 2),
   fun r _ => sumI code r (doesI r), fun r _ => sumI code r (moreI r),
   fun r _ => ordA (r 12) (r 13), fun r _ => ordB (r 12) (r 16) (r 13) (r 17), fun r _ => ordA (r 13) (r 14), fun r _ => ordB (r 13) (r 17) (r 14) (r 18), fun r _ => ordA (r 14) (r 15), fun r _ => ordB (r 14) (r 18) (r 15) (r 19),
   fun r r' => (sumT code.length fun k => el p (k : Int) * r' (20 + k)) - sumI code r (goesI r),
   fun r r' => r' 0 - sumI code r (fpI r), fun r r' => r' 1 - sumI code r (apI r), fun r r' => r' 2 - sumI code r (rvI r),
   fun r r' => ordA (r 15) (r' 12), fun r r' => ordB (r 15) (r 19) (r' 12) (r' 16),
   fun r _ => r 20 - 1, fun r _ => r 0 - 1, fun r _ => r 1 - 1 - el p size, fun r _ => r 2, fun r _ => r 12, fun r _ => r 16,
   fun r _ => sumI code r haltI - 1, fun r _ => r 7 - out]
def rulesF (code : List InsI) (size : Int) (out : Fin p) : List (RowF p) := ruS code ++ ruT code size out
theorem ordA_deg {f g : RowF p} (hf : DegR 1 f) (hg : DegR 1 g) : DegR 4 (fun r r' => ordA (f r r') (g r r')) := by
  unfold ordA
  exact ((hg.sub hf).mul ((hg.sub hf).sub (constD 1 1))).mono (by omega)
theorem ordB_deg {f g h i : RowF p} (hf : DegR 1 f) (hg : DegR 1 g) (hh : DegR 1 h) (hi : DegR 1 i) : DegR 4 (fun r r' => ordB (f r r') (g r r') (h r r') (i r r')) := by
  unfold ordB
  exact (((hh.sub hf).sub (constD 1 1)).mul (hi.sub hg)).mono (by omega)
theorem rulesF_deg (code : List InsI) (size : Int) (out : Fin p) : ∀ f ∈ rulesF code size out, DegR 4 f := fun f hf => by
  have c : ∀ j, DegR (p := p) 4 (fun r _ => r j) := fun j => colD j (by omega)
  have n : ∀ j, DegR (p := p) 4 (fun _ r' => r' j) := fun j => (DegR.nxt j).mono (by omega)
  have k : ∀ x : Fin p, DegR 4 (fun _ _ => x) := fun x => constD 4 x
  have k0 := fun j => DegR.col (p := p) j
  have n0 := fun j => DegR.nxt (p := p) j
  unfold rulesF at hf
  rcases List.mem_append.1 hf with hf | hf
  · unfold ruS at hf
    obtain ⟨i, _, rfl⟩ := List.mem_map.1 hf
    exact (((k0 (20 + i)).mul (k0 (20 + i))).mono (by omega)).sub (c _)
  · unfold ruT at hf
    simp only [List.mem_cons, List.not_mem_nil, or_false] at hf
    rcases hf with rfl | rfl | rfl | rfl | rfl | rfl | rfl | rfl | rfl | rfl | rfl | rfl | rfl | rfl | rfl | rfl | rfl | rfl | rfl | rfl | rfl | rfl | rfl | rfl | rfl | rfl
    · exact ((sumI_deg (d := 0) fun _ _ => DegR.const 1).mono (by omega)).sub (k _)
    · exact (c 3).sub ((sumI_deg fun i x => cellI_deg 0 i x).mono (by omega))
    · exact (c 4).sub ((sumI_deg fun i x => cellI_deg 1 i x).mono (by omega))
    · exact (c 5).sub ((sumI_deg fun i x => cellI_deg 2 i x).mono (by omega))
    · exact sumI_deg fun i x => doesI_deg i x
    · exact sumI_deg fun i x => moreI_deg i x
    · exact ordA_deg (k0 12) (k0 13)
    · exact ordB_deg (k0 12) (k0 16) (k0 13) (k0 17)
    · exact ordA_deg (k0 13) (k0 14)
    · exact ordB_deg (k0 13) (k0 17) (k0 14) (k0 18)
    · exact ordA_deg (k0 14) (k0 15)
    · exact ordB_deg (k0 14) (k0 18) (k0 15) (k0 19)
    · exact (DegR.sum _ fun i _ => ((DegR.const _).mul (n0 _)).mono (by omega)).sub (sumI_deg fun i x => goesI_deg i x)
    · exact (n 0).sub (sumI_deg fun i x => fpI_deg i x)
    · exact (n 1).sub (sumI_deg fun i x => apI_deg i x)
    · exact (n 2).sub (sumI_deg fun i x => rvI_deg i x)
    · exact ordA_deg (k0 15) (n0 12)
    · exact ordB_deg (k0 15) (k0 19) (n0 12) (n0 16)
    · exact (c 20).sub (k 1)
    · exact (c 0).sub (k 1)
    · exact ((c 1).sub (k 1)).sub (k _)
    · exact c 2
    · exact c 12
    · exact c 16
    · exact (sumI_deg fun i x => haltI_deg i x).sub (k 1)
    · exact (c 7).sub (k out)
theorem prodR_deg (y x : Fin p) (a v : Nat) : DegR 4 (fun r _ => prodR y x a v r) := by
  have h : ∀ i, DegR 1 (fun r _ => fcR y x a v r i) := fun i => by
    unfold fcR
    exact (constD 1 x).sub ((DegR.col _).add (((DegR.const y).mul (.col _)).mono (by omega)))
  unfold prodR
  exact (((h 0).mul (h 1)).mul (h 2)).mul (h 3)
end
end Go.Proofs.YtpkhcncempoohaaGreatDoor

namespace Go.Proofs.YtpkhcncempoohaaGreatDoor
open Zp
section
variable {p : Nat} [NeZero p]
structure FitN (p n : Nat) [NeZero p] : Prop where
  prime : IsPrime p
  pos : 1 ≤ n
  dvd : 8 * n ∣ p - 1
  lt : 8 * n < p - 1
variable (p) in
noncomputable def genE : Fin p := el p (genN p : Int)
variable (p) in
noncomputable def tD (n i : Nat) : Fin p := genE p * pw (rootI p ((8 * n : Nat) : Int)) i
variable (p) in
noncomputable def eH (n : Nat) : Fin p := rootI p ((n : Nat) : Int)
variable {n : Nat}
theorem FitN.dvdN (h : FitN p n) : n ∣ p - 1 := Nat.dvd_trans ⟨8, by omega⟩ h.dvd
theorem FitN.root8 (h : FitN p n) : eH p n = pw (rootI p ((8 * n : Nat) : Int)) 8 := by
  have h1 := h.prime.1
  have hn := h.pos
  unfold eH
  rw [rootI_nat hn h.dvdN (by omega), rootI_nat (by omega) h.dvd (by omega), ← pw_mul]
  obtain ⟨k, hk⟩ := h.dvd
  have e1 : (p - 1) / n = 8 * k := by rw [hk, Nat.mul_assoc, Nat.mul_comm n k, ← Nat.mul_assoc]; exact Nat.mul_div_cancel _ hn
  have e2 : (p - 1) / (8 * n) = k := by rw [hk]; exact Nat.mul_div_cancel_left _ (by omega)
  rw [e1, e2, Nat.mul_comm]
theorem FitN.ordE (h : FitN p n) : Ord (eH p n) n := rootI_ord h.prime h.pos h.dvdN
theorem FitN.ord8 (h : FitN p n) : Ord (rootI p ((8 * n : Nat) : Int)) (8 * n) := rootI_ord h.prime (by have := h.pos; omega) h.dvd
theorem FitN.ordG (h : FitN p n) : Ord (genE p) (p - 1) := by
  have h1 := h.prime.1
  have hp : 1 ≤ p - 1 := by have := h.lt; omega
  have := rootI_ord (p := p) h.prime (n := p - 1) hp (Nat.dvd_refl _)
  rw [rootI_nat hp (Nat.dvd_refl _) (by omega), Nat.div_self hp, pw_one] at this
  exact this
theorem FitN.g0 (h : FitN p n) : genE p ≠ 0 := h.ordG.ne_zero h.prime (by have := h.lt; omega)
theorem mul_pw' (a b : Fin p) (k : Nat) : pw (a * b) k = pw a k * pw b k := (mul_pw a b k).symm ▸ rfl
theorem FitN.off (h : FitN p n) (i : Nat) : pw (tD p n i) n ≠ 1 := fun e => by
  have h8 : pw (tD p n i) (8 * n) = 1 := by rw [Nat.mul_comm, pw_mul, e, one_pw]
  unfold tD at h8
  have e1 : pw (pw (rootI p ((8 * n : Nat) : Int)) i) (8 * n) = 1 := by rw [← pw_mul, Nat.mul_comm i (8 * n), pw_mul, h.ord8.one, one_pw]
  rw [mul_pw', e1] at h8
  have h9 : pw (genE p) (8 * n) = 1 := by rw [← h8]; grind
  have := Nat.le_of_dvd (by have := h.pos; omega) ((h.ordG _).1 h9)
  have := h.lt
  omega
theorem FitN.nodup (h : FitN p n) : ((List.range (8 * n)).map (tD p n)).Nodup := by
  refine nodup_map_on (fun i hi j hj e => ?_) List.nodup_range
  rw [List.mem_range] at hi hj
  refine ord_inj h.prime h.ord8 (by have := h.pos; omega) hi hj ?_
  have h0 := h.g0
  unfold tD at e
  have e2 : genE p * (pw (rootI p ((8 * n : Nat) : Int)) i - pw (rootI p ((8 * n : Nat) : Int)) j) = 0 := by grind
  rcases mul_eq_zero h.prime e2 with e3 | e3
  · exact absurd e3 h0
  · grind
noncomputable def lastE (p n : Nat) [NeZero p] : Fin p := pw (eH p n) (n - 1)
noncomputable def divK (n κ : Nat) (t : Fin p) : Fin p := if κ = 0 then pw t n - 1 else if κ = 1 then (pw t n - 1) * Zp.inv (t - lastE p n) else if κ = 2 then t - 1 else t - lastE p n
theorem FitN.last (h : FitN p n) : pw (lastE p n) n = 1 := by
  unfold lastE
  rw [← pw_mul, Nat.mul_comm, pw_mul, h.ordE.one, one_pw]
theorem FitN.offLast (h : FitN p n) (i : Nat) : tD p n i - lastE p n ≠ 0 := fun e => h.off i (by
  have : tD p n i = lastE p n := by grind
  rw [this]; exact h.last)
theorem FitN.offOne (h : FitN p n) (i : Nat) : tD p n i - 1 ≠ 0 := fun e => h.off i (by
  have : tD p n i = 1 := by grind
  rw [this, one_pw])
noncomputable def butP (n : Nat) (t : Fin p) : Fin p := sumT n fun k => pw (lastE p n) (n - 1 - k) * pw t k
theorem but_mul (n : Nat) (c t : Fin p) : (sumT n fun k => pw c (n - 1 - k) * pw t k) * (t - c) = pw t n - pw c n := by
  induction n with
  | zero => show (0 : Fin p) * (t - c) = 1 - 1; grind
  | succ n ih =>
    rw [sumT_succ]
    have e : (sumT n fun k => pw c (n + 1 - 1 - k) * pw t k) = c * sumT n fun k => pw c (n - 1 - k) * pw t k := by
      rw [← sumT_smul]
      refine sumT_congr fun k hk => ?_
      rw [show n + 1 - 1 - k = (n - 1 - k) + 1 by omega, pw_succ]
      grind
    rw [e, show n + 1 - 1 - n = 0 by omega, pw_zero, pw_succ, pw_succ]
    generalize (sumT n fun k => pw c (n - 1 - k) * pw t k) = s at *
    have : c * s * (t - c) = c * (s * (t - c)) := by grind
    grind
theorem butP_mul (h : FitN p n) (t : Fin p) : butP n t * (t - lastE p n) = pw t n - 1 := by
  unfold butP
  rw [but_mul, h.last]
theorem pw_poly (k : Nat) : IsPoly (k + 1) (fun t : Fin p => pw t k) := by
  induction k with
  | zero => exact IsPoly.const 1
  | succ k ih =>
    have := ih.mul (IsPoly.lin 0 1)
    exact this.congr fun t => by rw [pw_succ]; grind
theorem butP_poly (h : 1 ≤ n) : IsPoly n (butP (p := p) n) := IsPoly.sum n (fun k hk => (IsPoly.smul _ (pw_poly k)).mono (by omega)) h
def SpeaksK (n κ i : Nat) : Prop := i < n ∧ (κ = 1 → i + 1 < n) ∧ (κ = 2 → i = 0) ∧ (3 ≤ κ → i + 1 = n)
theorem rule_zero (h : FitN p n) {f : RowF p} (hf : DegR 5 f) {κ : Nat} {R : Nat → Fin p → Fin p} (hR : ∀ j, IsPoly n (R j)) {q : Fin p → Fin p} (hq : IsPoly (4 * n) q)
    (hw : ∀ i, i < 8 * n → f (fun j => R j (tD p n i)) (fun j => R j (eH p n * tD p n i)) * Zp.inv (divK n κ (tD p n i)) = q (tD p n i)) {i : Nat} (hi : SpeaksK n κ i) :
    f (fun j => R j (pw (eH p n) i)) (fun j => R j (pw (eH p n) (i + 1))) = 0 := by
  obtain ⟨m, rfl⟩ : ∃ m, n = m + 1 := ⟨n - 1, by have := h.pos; omega⟩
  have hp := h.prime
  have hg := hf m R (eH p (m + 1)) hR
  obtain ⟨i1, i2, i3, i4⟩ := hi
  have hzero : ∀ d : Fin p → Fin p, ∀ md, md ≤ m + 2 → IsPoly md d → (∀ j, j < 8 * (m + 1) → divK (m + 1) κ (tD p (m + 1) j) = d (tD p (m + 1) j) ∧ d (tD p (m + 1) j) ≠ 0) → d (pw (eH p (m + 1)) i) = 0 → f (fun j => R j (pw (eH p (m + 1)) i)) (fun j => R j (pw (eH p (m + 1)) (i + 1))) = 0 := fun d md hmd hd he h0 => by
    have hz := zero_of_div (m := 0) (S := (List.range (8 * (m + 1))).map (tD p (m + 1))) hp hg (mq := 4 * (m + 1) - 1) (by rw [show 4 * (m + 1) - 1 + 1 = 4 * (m + 1) by omega]; exact hq) hd h.nodup (by simp; omega) (by simp; omega) (fun t ht => by
      obtain ⟨j, hj, rfl⟩ := List.mem_map.1 ht
      rw [List.mem_range] at hj
      obtain ⟨e1, e2⟩ := he j hj
      have h1 := hw j hj
      rw [e1] at h1
      rw [← h1]
      have h2 := mul_inv hp e2
      generalize f (fun k => R k (tD p (m + 1) j)) (fun k => R k (eH p (m + 1) * tD p (m + 1) j)) = F at *
      generalize Zp.inv (d (tD p (m + 1) j)) = I at *
      have : F * I * d (tD p (m + 1) j) = F * (d (tD p (m + 1) j) * I) := by grind
      rw [this, h2]; grind) h0
    have e : pw (eH p (m + 1)) (i + 1) = eH p (m + 1) * pw (eH p (m + 1)) i := by rw [pw_succ]; grind
    rw [e]
    exact hz
  have hone : pw (pw (eH p (m + 1)) i) (m + 1) = 1 := by rw [← pw_mul, Nat.mul_comm, pw_mul, h.ordE.one, one_pw]
  by_cases k0 : κ = 0
  · refine hzero (fun t => pw t (m + 1) - 1) (m + 2) (Nat.le_refl _) (((pw_poly (m + 1)).add (IsPoly.mono (IsPoly.const (-1)) (by omega))).congr fun t => by grind) (fun j hj => ⟨by unfold divK; rw [if_pos k0], fun e => h.off j (by grind)⟩) ?_
    show pw (pw (eH p (m + 1)) i) (m + 1) - 1 = 0
    rw [hone]; grind
  by_cases k1 : κ = 1
  · refine hzero (butP (m + 1)) (m + 1) (by omega) (butP_poly (by omega)) (fun j hj => ?_) ?_
    · have hb := butP_mul h (tD p (m + 1) j)
      have ho := h.offLast j
      have hi := mul_inv hp ho
      refine ⟨?_, fun e => h.off j (by rw [e] at hb; grind)⟩
      unfold divK
      rw [if_neg k0, if_pos k1, ← hb]
      generalize Zp.inv (tD p (m + 1) j - lastE p (m + 1)) = I at *
      have : butP (m + 1) (tD p (m + 1) j) * (tD p (m + 1) j - lastE p (m + 1)) * I = butP (m + 1) (tD p (m + 1) j) * ((tD p (m + 1) j - lastE p (m + 1)) * I) := by grind
      rw [this, hi]; grind
    · have hb := butP_mul h (pw (eH p (m + 1)) i)
      rw [hone] at hb
      have hb' : butP (m + 1) (pw (eH p (m + 1)) i) * (pw (eH p (m + 1)) i - lastE p (m + 1)) = 0 := by rw [hb]; grind
      rcases mul_eq_zero hp hb' with e | e
      · exact e
      · have e2 : pw (eH p (m + 1)) i = pw (eH p (m + 1)) (m + 1 - 1) := by
          show _ = lastE p (m + 1)
          grind
        have := ord_inj hp h.ordE (by omega) i1 (by omega) e2
        have := i2 k1
        omega
  by_cases k2 : κ = 2
  · refine hzero (fun t => t - 1) 2 (by omega) ((IsPoly.lin (-1) 1).congr fun t => by grind) (fun j hj => ⟨by unfold divK; rw [if_neg k0, if_neg k1, if_pos k2], h.offOne j⟩) ?_
    rw [i3 k2, pw_zero]
    grind
  · refine hzero (fun t => t - lastE p (m + 1)) 2 (by omega) ((IsPoly.lin (-lastE p (m + 1)) 1).congr fun t => by grind) (fun j hj => ⟨by unfold divK; rw [if_neg k0, if_neg k1, if_neg k2], h.offLast j⟩) ?_
    have := i4 (by omega)
    have e : i = m + 1 - 1 := by omega
    show pw (eH p (m + 1)) i - lastE p (m + 1) = 0
    rw [e]
    unfold lastE
    grind
end
end Go.Proofs.YtpkhcncempoohaaGreatDoor

namespace Go.Proofs.YtpkhcncempoohaaGreatDoor
open Zp
section
variable {p : Nat} [NeZero p] {n : Nat}
def kinR : List Nat := [0, 0, 0, 0, 0, 0, 0, 0, 0, 0, 0, 0, 1, 1, 1, 1, 1, 1, 2, 2, 2, 2, 2, 2, 3, 3]
def compK (code : List InsI) (size : Int) (out : Fin p) (zc : Nat) (y x : Fin p) : List (RowF p × Nat) :=
  (ruS code).map (fun f => (f, 0)) ++ ((ruT code size out).zip kinR ++ [(fun r r' => r' zc * prodR y x 12 16 r - r zc * prodR y x 3 7 r, 0), (fun r _ => r zc - 1, 2)])
theorem compK_length (code : List InsI) (size : Int) (out : Fin p) (zc : Nat) (y x : Fin p) : (compK code size out zc y x).length = code.length + 28 := by
  unfold compK ruS ruT kinR
  simp
theorem compK_deg (code : List InsI) (size : Int) (out : Fin p) (zc : Nat) (y x : Fin p) : ∀ f ∈ compK code size out zc y x, DegR 5 f.1 := fun f hf => by
  unfold compK at hf
  rcases List.mem_append.1 hf with hf | hf
  · obtain ⟨g, hg, rfl⟩ := List.mem_map.1 hf
    exact (rulesF_deg code size out g (List.mem_append_left _ hg)).mono (by omega)
  rcases List.mem_append.1 hf with hf | hf
  · have h := List.of_mem_zip (show (f.1, f.2) ∈ (ruT code size out).zip kinR from hf)
    exact (rulesF_deg code size out f.1 (List.mem_append_right _ h.1)).mono (by omega)
  · simp only [List.mem_cons, List.not_mem_nil, or_false] at hf
    rcases hf with rfl | rfl
    · exact (((DegR.nxt zc).mul (prodR_deg y x 12 16))).sub ((DegR.col zc).mul (prodR_deg y x 3 7))
    · exact ((DegR.col zc).mono (by omega)).sub (constD _ _)
noncomputable def wordsK (n : Nat) (K : List (RowF p × Nat)) (R : Nat → Fin p → Fin p) : List (Nat → Fin p) := K.map fun f i => f.1 (fun j => R j (tD p n i)) (fun j => R j (eH p n * tD p n i)) * Zp.inv (divK n f.2 (tD p n i))
def LowD (n : Nat) (u : Nat → Fin p) : Prop := ∃ q : Fin p → Fin p, IsPoly (4 * n) q ∧ ∀ i, i < 8 * n → u i = q (tD p n i)
theorem comp_zero (h : FitN p n) {K : List (RowF p × Nat)} (hK : ∀ f ∈ K, DegR 5 f.1) {R : Nat → Fin p → Fin p} (hR : ∀ j, IsPoly n (R j)) {S : List (Fin p)} (hS : S.Nodup) (hl : K.length ≤ S.length) (hC : ∀ a ∈ S, LowD n (combW a (wordsK n K R))) :
    ∀ f ∈ K, ∀ i, SpeaksK n f.2 i → f.1 (fun j => R j (pw (eH p n) i)) (fun j => R j (pw (eH p n) (i + 1))) = 0 := fun f hf i hi => by
  have hn := h.pos
  -- words of low degree, as functions of all places: those that agree on the places of D
  have hlin : LinW (LowD (p := p) n) := ⟨⟨fun _ => 0, (IsPoly.const 0).mono (by omega), fun _ _ => rfl⟩,
    fun u v ⟨q, h1, h2⟩ ⟨q', h3, h4⟩ => ⟨_, h1.add h3, fun i hi => by show u i + v i = _; rw [h2 i hi, h4 i hi]⟩,
    fun c u ⟨q, h1, h2⟩ => ⟨_, IsPoly.smul c h1, fun i hi => by show c * u i = _; rw [h2 i hi]⟩,
    fun u v e ⟨q, h1, h2⟩ => ⟨q, h1, fun i hi => by rw [← e, h2 i hi]⟩⟩
  have hv := vander h.prime hlin K.length (wordsK n K R) S (by simp [wordsK]) hS hl hC
  obtain ⟨q, h1, h2⟩ := hv _ (List.mem_map.2 ⟨f, hf, rfl⟩)
  exact rule_zero h (hK f hf) hR h1 h2 hi
theorem ruT_mem (code : List InsI) (size : Int) (out : Fin p) (zc : Nat) (y x : Fin p) {j : Nat} {f : RowF p} {κ : Nat} (h : ((ruT code size out).zip kinR)[j]? = some (f, κ)) : (f, κ) ∈ compK code size out zc y x :=
  List.mem_append_right _ (List.mem_append_left _ (List.mem_of_getElem? h))
theorem rules_ok (h : FitN p n) {code : List InsI} {size : Int} {out : Fin p} {zc : Nat} {y x : Fin p} {R : Nat → Fin p → Fin p}
    (hz : ∀ f ∈ compK code size out zc y x, ∀ i, SpeaksK n f.2 i → f.1 (fun j => R j (pw (eH p n) i)) (fun j => R j (pw (eH p n) (i + 1))) = 0) : RulesOk code size out n (fun i j => R j (pw (eH p n) i)) := by
  have hn := h.pos
  have all : ∀ i, i < n → SpeaksK n 0 i := fun i hi => ⟨hi, fun e => by omega, fun e => by omega, fun e => by omega⟩
  have but : ∀ i, i + 1 < n → SpeaksK n 1 i := fun i hi => ⟨by omega, fun _ => hi, fun e => by omega, fun e => by omega⟩
  have fst : SpeaksK n 2 0 := ⟨hn, fun e => by omega, fun _ => rfl, fun e => by omega⟩
  have lst : SpeaksK n 3 (n - 1) := ⟨by omega, fun e => by omega, fun e => by omega, fun _ => by omega⟩
  have z := fun (j : Nat) (f : RowF p) (κ : Nat) (e : ((ruT code size out).zip kinR)[j]? = some (f, κ)) => hz _ (ruT_mem code size out zc y x e)
  have e0 : pw (eH p n) 0 = 1 := rfl
  have ordD : ∀ j, j + 1 < 4 * n → ordA (pairB (fun i j => R j (pw (eH p n) i)) j).1 (pairB (fun i j => R j (pw (eH p n) i)) (j + 1)).1 = 0 ∧ ordB (pairB (fun i j => R j (pw (eH p n) i)) j).1 (pairB (fun i j => R j (pw (eH p n) i)) j).2 (pairB (fun i j => R j (pw (eH p n) i)) (j + 1)).1 (pairB (fun i j => R j (pw (eH p n) i)) (j + 1)).2 = 0 := fun j hj => by
    obtain ⟨i, m, rfl, hm⟩ : ∃ i m, j = 4 * i + m ∧ m < 4 := ⟨j / 4, j % 4, by omega, by omega⟩
    have d1 : (4 * i + m) / 4 = i := by omega
    have d2 : (4 * i + m) % 4 = m := by omega
    unfold pairB
    rw [d1, d2]
    by_cases h3 : m = 3
    · subst h3
      rw [show (4 * i + 3 + 1) / 4 = i + 1 by omega, show (4 * i + 3 + 1) % 4 = 0 by omega]
      exact ⟨z 16 _ 1 rfl i (but i (by omega)), z 17 _ 1 rfl i (but i (by omega))⟩
    · rw [show (4 * i + m + 1) / 4 = i by omega, show (4 * i + m + 1) % 4 = m + 1 by omega]
      have hi := all i (by omega)
      by_cases m0 : m = 0
      · subst m0
        exact ⟨z 6 _ 0 rfl i hi, z 7 _ 0 rfl i hi⟩
      by_cases m1 : m = 1
      · subst m1
        exact ⟨z 8 _ 0 rfl i hi, z 9 _ 0 rfl i hi⟩
      · obtain rfl : m = 2 := by omega
        exact ⟨z 10 _ 0 rfl i hi, z 11 _ 0 rfl i hi⟩
  refine ⟨fun i hi k hk => ?_, fun i hi => z 0 _ 0 rfl i (all i hi), fun i hi j hj => ?_, fun i hi => z 4 _ 0 rfl i (all i hi), fun i hi => z 5 _ 0 rfl i (all i hi), fun j hj => (ordD j hj).1, fun j hj => (ordD j hj).2,
    fun i hi => z 12 _ 1 rfl i (but i hi), fun i hi => z 13 _ 1 rfl i (but i hi), fun i hi => z 14 _ 1 rfl i (but i hi), fun i hi => z 15 _ 1 rfl i (but i hi), z 18 _ 2 rfl 0 fst, z 19 _ 2 rfl 0 fst, z 20 _ 2 rfl 0 fst, z 21 _ 2 rfl 0 fst, z 22 _ 2 rfl 0 fst, z 23 _ 2 rfl 0 fst, z 24 _ 3 rfl (n - 1) lst, z 25 _ 3 rfl (n - 1) lst⟩
  · exact hz (_, 0) (List.mem_append_left _ (List.mem_map.2 ⟨_, List.mem_map.2 ⟨k, List.mem_range.2 hk, rfl⟩, rfl⟩)) i (all i hi)
  · have hj3 : j = 0 ∨ j = 1 ∨ j = 2 := by omega
    rcases hj3 with rfl | rfl | rfl
    · exact z 1 _ 0 rfl i (all i hi)
    · exact z 2 _ 0 rfl i (all i hi)
    · exact z 3 _ 0 rfl i (all i hi)
theorem z_ok (h : FitN p n) {code : List InsI} {size : Int} {out : Fin p} {zc : Nat} {y x : Fin p} {R : Nat → Fin p → Fin p}
    (hz : ∀ f ∈ compK code size out zc y x, ∀ i, SpeaksK n f.2 i → f.1 (fun j => R j (pw (eH p n) i)) (fun j => R j (pw (eH p n) (i + 1))) = 0) :
    R zc (pw (eH p n) 0) = 1 ∧ ∀ i, i < n → R zc (pw (eH p n) ((i + 1) % n)) * facP y (pairB fun i j => R j (pw (eH p n) i)) x i = R zc (pw (eH p n) i) * facP y (pairA fun i j => R j (pw (eH p n) i)) x i := by
  have hn := h.pos
  have m1 : ((fun r r' => r' zc * prodR y x 12 16 r - r zc * prodR y x 3 7 r, 0) : RowF p × Nat) ∈ compK code size out zc y x := List.mem_append_right _ (List.mem_append_right _ (by simp))
  have m2 : ((fun r _ => r zc - 1, 2) : RowF p × Nat) ∈ compK code size out zc y x := List.mem_append_right _ (List.mem_append_right _ (by simp))
  have h2 := hz _ m2 0 (show SpeaksK n 2 0 from ⟨hn, fun e => by omega, fun _ => rfl, fun e => by omega⟩)
  refine ⟨by simp only at h2; grind, fun i hi => ?_⟩
  have h1 := hz _ m1 i (show SpeaksK n 0 i from ⟨hi, fun e => by omega, fun e => by omega, fun e => by omega⟩)
  have e : pw (eH p n) ((i + 1) % n) = pw (eH p n) (i + 1) := pw_mod h.ordE.one _
  rw [e]
  have fB : facP y (pairB fun i j => R j (pw (eH p n) i)) x i = prodR y x 12 16 (fun j => R j (pw (eH p n) i)) := by
    unfold facP pairB numP prodR fcR
    rw [show 4 * i / 4 = i by omega, show 4 * i % 4 = 0 by omega, show (4 * i + 1) / 4 = i by omega, show (4 * i + 1) % 4 = 1 by omega, show (4 * i + 2) / 4 = i by omega, show (4 * i + 2) % 4 = 2 by omega, show (4 * i + 3) / 4 = i by omega, show (4 * i + 3) % 4 = 3 by omega]
  have fA : facP y (pairA fun i j => R j (pw (eH p n) i)) x i = prodR y x 3 7 (fun j => R j (pw (eH p n) i)) := by
    unfold facP pairA numP prodR fcR
    rw [show 4 * i / 4 = i by omega, show 4 * i % 4 = 0 by omega, show (4 * i + 1) / 4 = i by omega, show (4 * i + 1) % 4 = 1 by omega, show (4 * i + 2) / 4 = i by omega, show (4 * i + 2) % 4 = 2 by omega, show (4 * i + 3) / 4 = i by omega, show (4 * i + 3) % 4 = 3 by omega]
  rw [fA, fB]
  simp only at h1
  grind
theorem sound_run (h : FitN p n) {code : List InsI} {size : Int} {out y : Fin p} {rows : Nat → Nat → Fin p} {R : Nat → Fin p → Fin p} {zc : Nat} (hzc : 20 + code.length ≤ zc) (hR : ∀ j, IsPoly n (R j)) (hrow : ∀ j, j < 20 + code.length → ∀ i, i < n → R j (pw (eH p n) i) = rows i j)
    {xs as : List (Fin p)} (hx : xs.Nodup) (hxl : 4 * n ≤ xs.length) (ha : as.Nodup) (hal : code.length + 28 ≤ as.length) (hL : code.length < p)
    (hap : ∀ i j, i < 4 * n → j < 4 * n → numP y (pairB rows i) = numP y (pairA rows j) → pairB rows i = pairA rows j)
    (hC : ∀ x ∈ xs, ∃ Z : Fin p → Fin p, IsPoly n Z ∧ ∀ a ∈ as, LowD n (combW a (wordsK n (compK code size out zc y x) (fun j => if j = zc then Z else R j)))) :
    ∀ m, (∀ x v, m x = some v → x = 0 ∧ v = 0) → runM code (n - 1) ⟨0, 1, 1 + el p size, 0, m⟩ = .blank ∨ runM code (n - 1) ⟨0, 1, 1 + el p size, 0, m⟩ = .out out := by
  have hn := h.pos
  -- what each x says
  have key : ∀ x ∈ xs, ∃ Z : Fin p → Fin p, RulesOk code size out n (fun i j => (if j = zc then Z else R j) (pw (eH p n) i)) ∧ Z (pw (eH p n) 0) = 1 ∧ ∀ i, i < n → Z (pw (eH p n) ((i + 1) % n)) * facP y (pairB rows) x i = Z (pw (eH p n) i) * facP y (pairA rows) x i := fun x hxm => by
    obtain ⟨Z, hZ, hc⟩ := hC x hxm
    obtain ⟨R', hR'⟩ : ∃ R' : Nat → Fin p → Fin p, R' = fun j => if j = zc then Z else R j := ⟨_, rfl⟩
    rw [← hR'] at hc
    have hpoly : ∀ j, IsPoly n (R' j) := fun j => by
      rw [hR']
      by_cases e : j = zc
      · simp only [if_pos e]; exact hZ
      · simp only [if_neg e]; exact hR j
    have hz := comp_zero h (compK_deg code size out zc y x) hpoly ha (by rw [compK_length]; exact hal) hc
    have h1 := rules_ok h hz
    obtain ⟨h2, h3⟩ := z_ok h hz
    have ez : R' zc = Z := by rw [hR']; simp
    have er : ∀ j, j < 20 + code.length → ∀ i, i < n → R' j (pw (eH p n) i) = rows i j := fun j hj i hi => by
      rw [hR']
      simp only [if_neg (show ¬ j = zc by omega)]
      exact hrow j hj i hi
    have eB : ∀ i, i < n → facP y (pairB fun i j => R' j (pw (eH p n) i)) x i = facP y (pairB rows) x i := fun i hi => by
      unfold facP pairB
      simp only [show 4 * i / 4 = i by omega, show 4 * i % 4 = 0 by omega, show (4 * i + 1) / 4 = i by omega, show (4 * i + 1) % 4 = 1 by omega, show (4 * i + 2) / 4 = i by omega, show (4 * i + 2) % 4 = 2 by omega, show (4 * i + 3) / 4 = i by omega, show (4 * i + 3) % 4 = 3 by omega]
      rw [er _ (by omega) i hi, er _ (by omega) i hi, er _ (by omega) i hi, er _ (by omega) i hi, er _ (by omega) i hi, er _ (by omega) i hi, er _ (by omega) i hi, er _ (by omega) i hi]
    have eA : ∀ i, i < n → facP y (pairA fun i j => R' j (pw (eH p n) i)) x i = facP y (pairA rows) x i := fun i hi => by
      unfold facP pairA
      simp only [show 4 * i / 4 = i by omega, show 4 * i % 4 = 0 by omega, show (4 * i + 1) / 4 = i by omega, show (4 * i + 1) % 4 = 1 by omega, show (4 * i + 2) / 4 = i by omega, show (4 * i + 2) % 4 = 2 by omega, show (4 * i + 3) / 4 = i by omega, show (4 * i + 3) % 4 = 3 by omega]
      rw [er _ (by omega) i hi, er _ (by omega) i hi, er _ (by omega) i hi, er _ (by omega) i hi, er _ (by omega) i hi, er _ (by omega) i hi, er _ (by omega) i hi, er _ (by omega) i hi]
    rw [ez] at h2 h3
    refine ⟨Z, by rw [hR'] at h1; exact h1, h2, fun i hi => ?_⟩
    have := h3 i hi
    rw [eB i hi, eA i hi] at this
    exact this
  have hA := alike_of h.prime hn hx hxl (fun x hxm => by
    obtain ⟨Z, _, h2, h3⟩ := key x hxm
    exact ⟨fun i => Z (pw (eH p n) i), h2, h3⟩) hap
  obtain ⟨x0, hx0⟩ : ∃ x, x ∈ xs := by
    cases xs with
    | nil => simp at hxl; omega
    | cons x l => exact ⟨x, by simp⟩
  obtain ⟨Z, hrl, _, _⟩ := key x0 hx0
  have er : ∀ j, j < 20 → ∀ i, i < n → (if j = zc then Z else R j) (pw (eH p n) i) = rows i j := fun j hj i hi => by
    rw [if_neg (show ¬ j = zc by omega)]
    exact hrow j (by omega) i hi
  have eB : ∀ j, j < 4 * n → pairB (fun i j => (if j = zc then Z else R j) (pw (eH p n) i)) j = pairB rows j := fun j hj => by
    exact Prod.ext (er _ (by omega) _ (by omega)) (er _ (by omega) _ (by omega))
  have eA : ∀ j, j < 4 * n → pairA (fun i j => (if j = zc then Z else R j) (pw (eH p n) i)) j = pairA rows j := fun j hj => by
    exact Prod.ext (er _ (by omega) _ (by omega)) (er _ (by omega) _ (by omega))
  exact rules_run h.prime hrl hn (by have := h.lt; omega) hL fun j hj => by
    obtain ⟨i, hi, e⟩ := hA j hj
    exact ⟨i, hi, by rw [eB i hi, eA j hj, e]⟩
end
end Go.Proofs.YtpkhcncempoohaaGreatDoor

namespace Go.Proofs.YtpkhcncempoohaaGreatDoor
open Zp
section
variable {p : Nat} [NeZero p] {n : Nat}
theorem comb_sum (a : Fin p) (i : Nat) : ∀ ws : List (Nat → Fin p), combW a ws i = sumT ws.length fun k => pw a k * (ws.getD k fun _ => 0) i := by
  intro ws
  induction ws with
  | nil => rfl
  | cons w ws ih =>
    rw [combW, ih, List.length_cons, sumT_shift, ← sumT_smul]
    have e : (sumT ws.length fun k => pw a (k + 1) * ((w :: ws).getD (k + 1) fun _ => 0) i) = sumT ws.length fun k => a * (pw a k * (ws.getD k fun _ => 0) i) := sumT_congr fun k _ => by
      rw [pw_succ, List.getD_cons_succ]; grind
    rw [e, List.getD_cons_zero, pw_zero]
    grind
noncomputable def colP (n : Nat) (l : List (Fin p)) (t : Fin p) : Fin p := ev (trimL (coefL 1 (eH p n) n l)) t
theorem colP_poly (h : FitN p n) {l : List (Fin p)} (hl : l.length = n) : IsPoly n (colP n l) := ⟨_, by
  have h1 := coefL_length (1 : Fin p) (eH p n) n l
  have h2 := trimL_length_le (coefL (1 : Fin p) (eH p n) n l)
  omega, fun t => rfl⟩
theorem one_ne (h : FitN p n) : (1 : Fin p) ≠ 0 := one_ne_zero h.prime
theorem colP_at (h : FitN p n) {l : List (Fin p)} (hl : l.length = n) {i : Nat} (hi : i < n) : colP n l (pw (eH p n) i) = co l i := by
  have hv := valL_coefL h.prime (s := 1) h.pos h.dvdN h.ordE (one_ne h) hl
  have h1 := congrArg (fun m => co m i) hv
  simp only [valL] at h1
  rw [co_tab, if_pos hi] at h1
  unfold colP
  rw [ev_trim, ← h1]
  congr 1
  grind
theorem low_of (h : FitN p n) {l : List (Fin p)} (hl : l.length = 8 * n) (hc : (trimL (coefL (genE p) (rootI p ((8 * n : Nat) : Int)) (8 * n) l)).length ≤ 4 * n) : LowD n (fun i => co l i) := by
  have hn := h.pos
  refine ⟨fun t => ev (trimL (coefL (genE p) (rootI p ((8 * n : Nat) : Int)) (8 * n) l)) t, ⟨_, hc, fun t => rfl⟩, fun i hi => ?_⟩
  have hv := valL_coefL h.prime (s := genE p) (show 0 < 8 * n by omega) h.dvd h.ord8 h.g0 hl
  have h1 := congrArg (fun m => co m i) hv
  simp only [valL] at h1
  rw [co_tab, if_pos hi] at h1
  show co l i = ev (trimL (coefL (genE p) (rootI p ((8 * n : Nat) : Int)) (8 * n) l)) (tD p n i)
  rw [ev_trim, ← h1]
  rfl
end
end Go.Proofs.YtpkhcncempoohaaGreatDoor

namespace Zp
section od
variable {p : Nat} [NeZero p]
structure BestQ (Q : Nat → Prop) (x : Fin p) (b : Nat) : Prop where
  pos : 1 ≤ b
  dvd : b ∣ p - 1
  one : pw x b = 1
  least : ∀ j, j ∣ p - 1 → Q j → pw x j = 1 → b ≤ j
theorem BestQ.hit {Q R : Nat → Prop} {x : Fin p} {b i : Nat} (h : BestQ Q x b) (hi : 1 ≤ i) (hd : i ∣ p - 1) (h1 : pw x i = 1) (hlt : i < b) (hR : ∀ j, j ∣ p - 1 → R j → Q j ∨ j = i) : BestQ R x i :=
  ⟨hi, hd, h1, fun j hj hr hp => by
    rcases hR j hj hr with hq | rfl
    · have := h.least j hj hq hp; omega
    · exact Nat.le_refl _⟩
theorem BestQ.miss {Q R : Nat → Prop} {x : Fin p} {b i : Nat} (h : BestQ Q x b) (h1 : pw x i = 1 → ¬ i < b) (hR : ∀ j, j ∣ p - 1 → R j → Q j ∨ j = i) : BestQ R x b :=
  ⟨h.pos, h.dvd, h.one, fun j hj hr hp => by
    rcases hR j hj hr with hq | rfl
    · exact h.least j hj hq hp
    · have := h1 hp; omega⟩
abbrev Tried (p i j : Nat) : Prop := j < i ∨ (p - 1) / j < i
theorem BestQ.start (hp : IsPrime p) {x : Fin p} (hx : x ≠ 0) : BestQ (Tried p 1) x (p - 1) := by
  have h2 := hp.1
  refine ⟨by omega, Nat.dvd_refl _, fermat hp hx, fun j hj hr _ => ?_⟩
  have hj0 : 0 < j := Nat.pos_of_dvd_of_pos hj (by omega)
  rcases hr with hr | hr
  · omega
  · rw [Nat.div_lt_one_iff hj0] at hr; omega
omit [NeZero p] in
theorem tried_skip {i j : Nat} (hp2 : 2 ≤ p) (hi : ¬ i ∣ p - 1) (hj : j ∣ p - 1) (h : Tried p (i + 1) j) : Tried p i j := by
  rcases h with h | h
  · rcases Nat.lt_or_ge j i with hlt | hge
    · exact .inl hlt
    · obtain rfl : j = i := by omega
      exact absurd hj hi
  · rcases Nat.lt_or_ge ((p - 1) / j) i with hlt | hge
    · exact .inr hlt
    · have e : (p - 1) / j = i := by omega
      exact absurd (e ▸ Nat.div_dvd_of_dvd hj) hi
theorem BestQ.skip {x : Fin p} {i b : Nat} (hp2 : 2 ≤ p) (h : BestQ (Tried p i) x b) (hi : ¬ i ∣ p - 1) : BestQ (Tried p (i + 1)) x b :=
  ⟨h.pos, h.dvd, h.one, fun j hj hr hq => h.least j hj (tried_skip hp2 hi hj hr) hq⟩
omit [NeZero p] in
theorem tried_pair {i j : Nat} (hp2 : 2 ≤ p) (hi : i ∣ p - 1) (hj : j ∣ p - 1) (h : Tried p (i + 1) j) : (Tried p i j ∨ j = i) ∨ j = (p - 1) / i := by
  rcases h with h | h
  · rcases Nat.lt_or_ge j i with hlt | hge
    · exact .inl (.inl (.inl hlt))
    · exact .inl (.inr (by omega))
  · rcases Nat.lt_or_ge ((p - 1) / j) i with hlt | hge
    · exact .inl (.inl (.inr hlt))
    · have e : (p - 1) / j = i := by omega
      refine .inr ?_
      obtain ⟨k, hk⟩ := hj
      have hj0 : 0 < j := by
        rcases Nat.eq_zero_or_pos j with h0 | h0
        · rw [h0, Nat.zero_mul] at hk; omega
        · exact h0
      rw [hk, Nat.mul_div_cancel_left _ hj0] at e
      have hk0 : 0 < k := by
        rcases Nat.eq_zero_or_pos k with h0 | h0
        · rw [h0, Nat.mul_zero] at hk; omega
        · exact h0
      rw [hk, ← e, Nat.mul_div_cancel _ hk0]
theorem BestQ.done (hp : IsPrime p) {x : Fin p} (hx : x ≠ 0) {i b : Nat} (h : BestQ (Tried p i) x b) (hi : p - 1 < i * i) : b = ordN x := by
  have ho := ordN_ord hp hx
  have h2 := hp.1
  have hd := ho.dvd hp hx
  have h1 : ordN x ∣ b := (ho b).1 h.one
  have hle : ordN x ≤ b := Nat.le_of_dvd h.pos h1
  have ho0 := ho.pos hp hx
  have ht : Tried p i (ordN x) := by
    rcases Nat.lt_or_ge (ordN x) i with hlt | hge
    · exact .inl hlt
    · refine .inr ?_
      rw [Nat.div_lt_iff_lt_mul ho0]
      exact Nat.lt_of_lt_of_le hi (Nat.mul_le_mul_left i hge)
  have := h.least _ hd ht ho.one
  omega
theorem el_ne_zero {k : Nat} (h1 : 1 ≤ k) (h2 : k < p) : el p (k : Int) ≠ 0 := by
  intro h
  have h3 := el_eq_zero.1 h
  rw [Int.emod_eq_of_lt (by omega) (by omega)] at h3
  omega
theorem IsGen.ord_iff (hp : IsPrime p) {G : Nat} (h : IsGen p G) : 1 ≤ G ∧ G < p ∧ ∀ k : Nat, 1 ≤ k → k ≤ G → (ordN (el p (k : Int)) = p - 1 ↔ k = G) := by
  obtain ⟨h1, h2, h3, h4⟩ := h
  refine ⟨h1, h2, fun k hk hkG => ⟨fun ho => ?_, fun he => ?_⟩⟩
  · rcases Nat.lt_or_ge k G with hlt | hge
    · exact absurd (ho ▸ ordN_ord hp (el_ne_zero hk (by omega))) (h4 k hk hlt)
    · omega
  · subst he
    exact ordN_of_ord hp (el_ne_zero hk h2) h3
end od
end Zp
