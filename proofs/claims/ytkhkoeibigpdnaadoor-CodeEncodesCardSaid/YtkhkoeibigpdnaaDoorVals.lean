/- The walk of (*Domain).Values. -/
import Derived.Test.YtkhkoeibigpdnaaDoorSpread
import Derived.Test.YtkhkoeibigpdnaaDoorInts
set_option linter.unusedVariables false
namespace Go.Proofs.YtkhkoeibigpdnaaDoor
open Go.RowKit Zp

/-- a root of a power of two: the half of its order makes -1 -/
theorem root_cond {p : Nat} [NeZero p] (hp : IsPrime p) {n : Nat} (h : SizeOk p n) {r : Fin p} (hr : Ord r n) : n = 1 ∨ ∃ m, n = 2 * m ∧ pw r m = -1 := by
  obtain ⟨⟨k, _, e⟩, _⟩ := h
  cases k with
  | zero => exact .inl e
  | succ k =>
    have e2 : n = 2 * 2 ^ k := by rw [e, Nat.pow_succ, Nat.mul_comm]
    rw [e2] at hr
    exact .inr ⟨2 ^ k, e2, ord_half hp (Nat.pow_pos (by omega)) hr⟩

def ValRel {p : Nat} [NeZero p] (s : Fin p) (n : Nat) (xs : List Int) (w : World) (g : Nat) (sh i : Value) (wr : World) : Prop := ∃ (k : Nat) (L : List (Fin p)), k ≤ xs.length ∧ i = vi k ∧ sh = vi (fv (pw s k)) ∧ OwnE wr w.heap.size g n L ∧ Wrapped s n (els p xs) k L ∧ Below w.heap.size w wr

set_option maxRecDepth 100000 in
set_option maxHeartbeats 2000000 in
theorem values_any (p S D b : Nat) [NeZero p] (n : Nat) (s : Fin p) (A : Option Addr) (cap : Nat) (xs : List Int) (hxs : ∀ x ∈ xs, I64 x) (hreach : xs.length * 8 ≤ 281474976710656) (w : World) (hD : Dom w S D b p n s) (hs : SL w A xs) :
    Calls Tryd.prog 30 #[.pointer (some ⟨D, 0, none⟩), .slice A xs.length cap] w fun e w' => Gives (fvs (valL s (rootI p n) n (els p xs))) w e w' := by
  have hp := hD.fld.prime
  have hp1 := hD.fld.two
  have hp2 := hD.fld.max
  have hn0 := hD.size.pos
  have hn1 := hD.size.le
  have hDle := hD.le
  have hc1 := hD.c1
  obtain ⟨len, hlen⟩ : ∃ len, len = xs.length := ⟨_, rfl⟩
  rw [← hlen]
  rw [← hlen] at hreach
  have HL := Lib.hid hlen
  clear hlen
  obtain ⟨R, hR⟩ : ∃ R, R = fvs (valL s (rootI p n) n (els p xs)) := ⟨_, rfl⟩
  rw [← hR]
  have HR := Lib.hid hR
  clear hR
  have hmk := make_ints n n (Nat.le_refl _) (by omega)
  have hOE := OwnE.made (p := p) w w.heap.size n (Nat.le_refl _) (by omega)
  go_enter Tryd.func30, Tryd.ntmps30
  go_wp2
  go_loopw [6, 16] (fun sh i wr => ValRel s n xs w w.heap.size sh i wr) (fun _ i _ => len - (intOf i).toNat)
  case atStart => exact ⟨0, _, Nat.zero_le _, rfl, by rw [pw_zero, fv_one hp1], hOE, Wrapped.start s n _, (Below.refl _ _).alloc (Nat.le_refl _) _⟩
  case round =>
    obtain ⟨k, L, hk, rfl, rfl, hoe, hwr, hb⟩ := hrel
    rw [← HL.out] at hk
    have HWR := Lib.hid hwr
    clear hwr
    have hDr := hD.below hb hDle
    have hd0 := hDr.c0
    have hd1 := hDr.c1
    have hd2 := hDr.c2
    have hd3 := hDr.c3
    have hcb := hDr.fld.c0
    by_cases hlt : k < len
    · have hkx : k < xs.length := by rw [← HL.out]; exact hlt
      obtain ⟨ad, rfl, _, hcell⟩ := (hs.below hb).at_ hkx
      have hI := hxs _ (List.getElem_mem hkx)
      have hxe : co (els p xs) k = el p xs[k] := by rw [co_of_lt (by simpa using hkx)]; simp
      obtain ⟨x, hx⟩ : ∃ x, x = xs[k] := ⟨_, rfl⟩
      rw [← hx] at hI hcell hxe
      obtain ⟨j, hj⟩ : ∃ j, j = k % n := ⟨_, rfl⟩
      have hjn : j < n := by rw [hj]; exact Nat.mod_lt _ hn0
      have hst := HWR.out.step hn0 (by simpa using hkx)
      rw [← hj, hxe] at hst
      obtain ⟨X, hX⟩ : ∃ X, X = pw s k := ⟨_, rfl⟩
      rw [← hX] at hst ⊢
      obtain ⟨Y, hY⟩ : ∃ Y, Y = X * el p x := ⟨_, rfl⟩
      obtain ⟨o, ho⟩ : ∃ o, o = co L j := ⟨_, rfl⟩
      obtain ⟨U, hU⟩ : ∃ U, U = o + Y := ⟨_, rfl⟩
      rw [← hY, ← ho, ← hU] at hst
      have hol := hoe.at_ j hjn
      rw [← ho] at hol
      have hof := hoe.frozen j
      have iX : I64 (fv X) := i64_fv X hp2
      have iY : I64 (fv Y) := i64_fv Y hp2
      have io : I64 (fv o) := i64_fv o hp2
      have iS : I64 (fv s) := i64_fv s hp2
      have hmul : ∀ W : World, W.cell? ⟨b, 0, none⟩ = some (vi p) → Calls Tryd.prog 70 #[.pointer (some ⟨b, 0, none⟩), vi (fv X), vi x] W fun e w' => e = .returned (vi (fv Y)) ∧ ∃ k, w' = W.drewN k := fun W h => by
        have := mul_any p hp2 b (fv X) x iX hI W h
        rw [el_fv, ← hY] at this; exact this
      have hadd : ∀ W : World, W.cell? ⟨b, 0, none⟩ = some (vi p) → Calls Tryd.prog 73 #[.pointer (some ⟨b, 0, none⟩), vi (fv o), vi (fv Y)] W fun e w' => e = .returned (vi (fv U)) ∧ ∃ k, w' = W.drewN k := fun W h => by
        have := add_any p hp2 b (fv o) (fv Y) io iY W h
        rw [el_fv, el_fv, ← hU] at this; exact this
      have hX1 : X * s = pw s (k + 1) := by rw [hX, pw_succ]
      have hnx : ∀ W : World, W.cell? ⟨b, 0, none⟩ = some (vi p) → Calls Tryd.prog 70 #[.pointer (some ⟨b, 0, none⟩), vi (fv X), vi (fv s)] W fun e w' => e = .returned (vi (fv (pw s (k + 1)))) ∧ ∃ k, w' = W.drewN k := fun W h => by
        have := mul_any p hp2 b (fv X) (fv s) iX iS W h
        rw [el_fv, el_fv, hX1] at this; exact this
      have HMUL := Lib.hid hmul
      have HADD := Lib.hid hadd
      have HNX := Lib.hid hnx
      have HST := Lib.hid hst
      have et : (k : Int).tmod n = (j : Int) := by rw [Int.tmod_eq_emod_of_nonneg (by omega), hj, Int.natCast_emod]
      have hn0' : ¬ n = 0 := by omega
      have i1 : (0 : Int) ≤ j := by omega
      have i2 : (j : Int) < n := by omega
      have hne1 : ¬ D = w.heap.size := by have := hD.lt; omega
      have hne2 : ¬ b = w.heap.size := by have := hD.fld.lt; omega
      clear hmul hadd hnx hst hX1 hU ho hY hX hj hx hxe
      have hmx : Tryd.prog.follows .mixedOrders = true := by kernel_rfl
      go_wp2
      refine wp_region_quiet_tail 29 hmx (by kernel_rfl) ?_
      simp only [List.take_succ_cons, List.take_zero, List.drop_succ_cons, List.drop_zero]
      repeat (quiet_step (first | (go_at_call 70; exact Calls.quiet_of (HMUL.out _ (by exact hcb))) | (go_at_call 73; exact Calls.quiet_of (HADD.out _ (by exact hcb)))))
      refine wpQuiet_nil ?_
      intro _ hw'
      obtain ⟨nq1, hw''⟩ := hw'
      subst hw''
      clear et i1 i2
      go_wp2
      go_quiet ((go_at_call 70; exact Calls.quiet_of (HNX.out _ (by exact setCell_keep hcb hne2))))
      go_wp2
      go_roundw
      case rel =>
        have h1 : OwnE (wr.drewN nq1) w.heap.size w.heap.size n L := hoe
        exact ⟨k + 1, L.set j U, by rw [← HL.out]; omega, by go_num, rfl, h1.store j U, HST.out, below_drewN ((below_drewN hb nq1).setCell (p := ⟨w.heap.size, j, none⟩) (Nat.le_refl _) _) _⟩
      case measure => simp [intOf]; omega
    · obtain rfl : k = len := by omega
      have hord := rootI_ord hp hn0 hD.size.2
      have hcond := root_cond hp hD.size hord
      have hdone := (show Wrapped s n (els p xs) (els p xs).length L by rw [List.length_map, ← HL.out]; exact HWR.out).done hord.one
      obtain ⟨⟨kk, hkk, hnk⟩, _⟩ := hD.size
      have hsp := spread_any p S D b n s kk hkk
      rw [← hnk] at hsp
      have hrun := hsp wr w.heap.size (.slice (some ⟨w.heap.size, 0, none⟩) n n) (fvs L) (fv (rootI p n)) (by simp [hoe.1]) (i64_fvs L hp2) (i64_fv _ hp2) (by rw [el_fv]; exact hcond) hDr hoe.2 hb.size
      have HRUN := Lib.hid hrun
      have HDONE := Lib.hid hdone
      clear hsp hrun hdone hcond hord hnk hd0 hd1 hd2 hcb
      go_wp2_with fail
      refine (HRUN.out).mono ?_
      rintro e w1 ⟨v1, ys, rfl, hown, _, hyd, hy1, hy2, hb1⟩
      rw [el_fv, els_fvs, HDONE.out] at hyd hy2
      have hys : ys = R := by
        rw [HR.out]
        by_cases h1 : n = 1
        · rw [hy1 h1, ← hyd, hy1 h1, els_fvs]
        · exact hy2 h1
      obtain ⟨A1, c1, rfl, hl1, hm1, _, hsl⟩ := hown.shape
      clear hyd hy1 hy2
      subst hys
      have hm2 : c1 ≤ 9223372036854775807 := by unfold maxLen at hm1; exact hm1
      go_wp2_with fail
      refine (clip_any A1 ys.length c1 hl1 hm2 _).mono ?_
      rintro e w2 ⟨rfl, rfl⟩
      go_wp2
      go_ret
      exact ⟨A1, ys.length, rfl, Nat.le_refl _, Nat.le_trans hl1 hm1, hsl, hb.trans (hb1.mono hb.size)⟩

/-- a slice of n ints that is read alone -/
def GivesN (n : Nat) (xs : List Int) (w : World) (e : Ending) (w' : World) : Prop := ∃ A c, xs.length = n ∧ e = .returned (.slice A n c) ∧ n ≤ c ∧ c ≤ maxLen ∧ SL w' A xs ∧ Below w.heap.size w w'
theorem Gives.n {xs : List Int} {w w' : World} {e : Ending} (h : Gives xs w e w') {n : Nat} (hn : xs.length = n) : GivesN n xs w e w' := by
  obtain ⟨A, c, h1, h2, h3, h4, h5⟩ := h
  subst hn
  exact ⟨A, c, rfl, h1, h2, h3, h4, h5⟩
theorem values_n (p S D b : Nat) [NeZero p] (n : Nat) (s : Fin p) (A : Option Addr) (m cap : Nat) (xs : List Int) (hml : xs.length = m) (hxs : ∀ x ∈ xs, I64 x) (hreach : m * 8 ≤ 281474976710656) (w : World) (hD : Dom w S D b p n s) (hs : SL w A xs) :
    Calls Tryd.prog 30 #[.pointer (some ⟨D, 0, none⟩), .slice A m cap] w fun e w' => GivesN n (fvs (valL s (rootI p n) n (els p xs))) w e w' := by
  subst hml
  exact (values_any p S D b n s A cap xs hxs hreach w hD hs).mono fun _ _ h => h.n (by simp [valL_length])
theorem SL.co {p : Nat} [NeZero p] {w : World} {A : Option Addr} {l : List (Fin p)} (h : SL w A (fvs l)) {k : Nat} (hk : k < l.length) : ∃ ad, A = some ad ∧ w.cell? (ad.add k) = some (vi (fv (co l k))) := by
  obtain ⟨ad, h1, _, h2⟩ := h.at_ (k := k) (by simpa using hk)
  exact ⟨ad, h1, by rw [h2, co_of_lt hk, List.getElem_map]⟩
end Go.Proofs.YtkhkoeibigpdnaaDoor
