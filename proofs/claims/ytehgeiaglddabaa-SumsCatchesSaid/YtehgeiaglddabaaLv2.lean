/- Walks: attestlaw2's plain and lives. -/
import Derived.Test.YtehgeiaglddabaaLv1
import Derived.Test.YtehgeiaglddabaaVals
set_option linter.unusedVariables false
namespace Go.Proofs.Ytehgeiaglddabaa
open Go.RowKit Zp

/-- is there a domain? -/
def HasDom (p size t : Int) : Prop := HasField p ∧ ∃ n : Nat, size = n ∧ SizeOk p.toNat n ∧ ¬ t % p = 0

/-- domain.New where there is no domain of this field -/
def NoDomE (w : World) (e : Ending) (w' : World) : Prop := (e = NoDom 2 ∨ e = NoDom 3) ∧ w = w'
theorem dnew_none (q S b : Nat) [NeZero q] (size t : Int) (hs : I64 size) (ht : I64 t) (w : World) (F : Fld w S b q) (h : ¬ ∃ n : Nat, size = n ∧ SizeOk q n ∧ ¬ t % (q : Int) = 0) :
    Calls Try.prog 56 #[.pointer (some ⟨b, 0, none⟩), vi size, vi t] w fun e w' => NoDomE w e w' := by
  have hc := F.c0
  by_cases h1 : size < 1 ∨ 65536 < size
  · exact (dnew_size1 b size t h1 w).mono fun e w' ⟨h1, h2⟩ => ⟨.inl h1, h2⟩
  · obtain ⟨n, rfl⟩ := Int.eq_ofNat_of_zero_le (a := size) (by omega)
    by_cases h2 : SizeOk q n
    · have h3 : el q t = 0 := by
        false_or_by_contra
        rename_i h3
        exact h ⟨n, rfl, h2, fun h4 => h3 (el_eq_zero.2 h4)⟩
      exact (dnew_shift q b n t ht F.two F.max h2 h3 w hc).mono fun e w' ⟨h1, h2⟩ => ⟨.inr h1, h2⟩
    · exact (dnew_size2 q b n t (by omega) (by omega) F.two F.max h2 w hc).mono fun e w' ⟨h1, h2⟩ => ⟨.inl h1, h2⟩

set_option maxHeartbeats 1000000 in
theorem plain2_no (p size t : Int) (hs : I64 size) (ht : I64 t) (h : ¬ HasDom p size t) (w : World) :
    Calls Try.prog 23 #[vi p, vi size, vi t] w fun e w' => SaysW (.tuple #[.pointer none, .pointer none]) w e w' := by
  by_cases hF : HasField p
  · have h' : ¬ ∃ n : Nat, size = n ∧ SizeOk p.toNat n ∧ ¬ t % p = 0 := fun h2 => h ⟨hF, h2⟩
    obtain ⟨h3, hm, hpr⟩ := hF
    obtain ⟨q, rfl⟩ := Int.eq_ofNat_of_zero_le (a := p) (by omega)
    rw [Int.toNat_natCast] at hpr h'
    haveI := hpr.ne
    have hn := fun w => new_prime q w (by omega) (by omega) hpr
    have HN := Lib.hid hn
    have H' := Lib.hid h'
    clear hn hm h3 h h'
    go_enter Try.func23, Try.ntmps23
    go_wp2_with fail
    refine (HN.out _).mono ?_
    rintro e w1 ⟨b, rfl, F, hbel, _⟩
    go_wp2_with fail
    refine (dnew_none q _ b size t hs ht _ F H'.out).mono ?_
    rintro e w2 ⟨rfl | rfl, rfl⟩
    · go_wp2
      go_ret2
      exact ⟨rfl, hbel⟩
    · go_wp2
      go_ret2
      exact ⟨rfl, hbel⟩
  · have hn := fun w => new_none p w hF
    have HN := Lib.hid hn
    clear hn hF h
    go_enter Try.func23, Try.ntmps23
    go_wp2_with fail
    refine (HN.out _).mono ?_
    rintro e w1 ⟨rfl, rfl⟩
    go_wp2
    go_ret2
    exact ⟨rfl, Below.refl _ _⟩

def PlainDom (q n : Nat) [NeZero q] (t : Int) (w : World) (e : Ending) (w' : World) : Prop :=
  ∃ b D : Nat, e = .returned (.tuple #[.pointer (some ⟨b, 0, none⟩), .pointer (some ⟨D, 0, none⟩)]) ∧ Dom w' w'.heap.size D b q n (el q t) ∧ Below w.heap.size w w'
set_option maxHeartbeats 1000000 in
theorem plain2_yes (q n : Nat) [NeZero q] (t : Int) (ht : I64 t) (hq : IsPrime q) (h3 : 3 ≤ q) (hm : q ≤ 2147483647) (hn : SizeOk q n) (h0 : ¬ t % (q : Int) = 0) (w : World) :
    Calls Try.prog 23 #[vi q, vi n, vi t] w fun e w' => PlainDom q n t w e w' := by
  have hn1 := fun w => new_prime q w h3 hm hq
  have hd := fun w S b F => dnew_ok q S b n t ht hn (fun h => h0 (el_eq_zero.1 h)) w F
  have HN := Lib.hid hn1
  have HD := Lib.hid hd
  clear hn1 hd h0 hn
  go_enter Try.func23, Try.ntmps23
  go_wp2_with fail
  refine (HN.out _).mono ?_
  rintro e w1 ⟨b, rfl, F, hbel, _⟩
  go_wp2_with fail
  refine (HD.out _ _ b F).mono ?_
  rintro e w2 ⟨D, rfl, hDm, hb2, _⟩
  go_wp2
  go_ret2
  exact ⟨b, D, rfl, hDm, hbel.trans (hb2.mono hbel.size)⟩

/-- the parts of HasDom -/
theorem HasDom.parts {p size t : Int} (h : HasDom p size t) : ∃ q n : Nat, p = q ∧ size = n ∧ 3 ≤ q ∧ q ≤ 2147483647 ∧ IsPrime q ∧ SizeOk q n ∧ ¬ t % (q : Int) = 0 := by
  obtain ⟨⟨h3, hm, hpr⟩, n, rfl, hs, h0⟩ := h
  obtain ⟨q, rfl⟩ := Int.eq_ofNat_of_zero_le (a := p) (by omega)
  rw [Int.toNat_natCast] at hpr hs
  exact ⟨q, n, rfl, rfl, by omega, by omega, hpr, hs, h0⟩

/-- a list written out reads as it is -/
theorem sl_lit (w : World) (xs : List Int) : SL (w.alloc (.cells (xs.map vi).toArray 3)) (some ⟨w.heap.size, 0, none⟩) xs := by
  refine ⟨by simp, fun hn => ⟨_, rfl, by simp, fun j u hu => ?_⟩⟩
  have e : (⟨w.heap.size, 0, none⟩ : Addr).add j = ⟨w.heap.size, j, none⟩ := by simp [Addr.add]; intro h; exact h.symm
  rw [e, (Blk.new w 3 (xs.map vi).toArray).cell]
  simpa using hu

theorem size4 : SizeOk 17 4 := ⟨⟨2, by omega, rfl⟩, ⟨4, rfl⟩⟩
theorem root17 : rootI 17 ((4 : Nat) : Int) = el 17 13 := by
  rw [rootI_nat (by omega) (by decide) (by omega), gen17]
  decide
theorem vals17 : fvs (valL (el 17 3) (rootI 17 ((4 : Nat) : Int)) 4 (els 17 [1, 1])) = [4, 6, 15, 13] := by
  rw [root17]
  decide

set_option maxHeartbeats 1000000 in
theorem lives2_any (w : World) : Calls Try.prog 22 #[] w fun e w' => SaysW (.bool true) w e w' := by
  have hpl := plain2_yes 17 4 3 (by constructor <;> omega) prime17 (by omega) (by omega) size4 (by decide) w
  have HP := Lib.hid hpl
  clear hpl
  go_enter Try.func22, Try.ntmps22
  go_wp2_with fail
  refine (HP.out).mono ?_
  rintro e w1 ⟨b, D, rfl, hD, hb1⟩
  have hv := values_any 17 w1.heap.size D b 4 (el 17 3) (some ⟨w1.heap.size, 0, none⟩) 2 [1, 1] (by decide) (by decide) _ (hD.alloc _) (sl_lit w1 [1, 1])
  rw [vals17] at hv
  have HV := Lib.hid hv
  clear hv
  go_wp2_with fail
  refine (HV.out).mono ?_
  rintro e w2 ⟨A, c, rfl, _, _, hs, hb2⟩
  have hb3 : Below w.heap.size w w2 := (hb1.alloc hb1.size _).trans (hb2.mono (by simp; have := hb1.size; omega))
  have hi := ints_any A (some ⟨w2.heap.size, 0, none⟩) c 4 [4, 6, 15, 13] [4, 6, 15, 13] (by decide) (by decide) (w2.alloc (.cells #[vi 4, vi 6, vi 15, vi 13] 3)) (hs.below ((Below.refl _ _).alloc (Nat.le_refl _) _)) (sl_lit w2 [4, 6, 15, 13])
  rw [eqB_true rfl] at hi
  have HI := Lib.hid hi
  clear hi
  go_wp2_with fail
  refine (HI.out).mono ?_
  rintro e w3 ⟨rfl, k, rfl⟩
  go_wp2
  go_ret
  exact ⟨rfl, below_drewN (hb3.alloc hb3.size _) k⟩
theorem ints_n (A B : Option Addr) (n c m d : Nat) (xs ys : List Int) (hnx : xs.length = n) (hmy : ys.length = m) (hn : n ≤ 9223372036854775807) (hm : m ≤ 9223372036854775807) (w : World) (hsx : SL w A xs) (hsy : SL w B ys) :
    Calls Try.prog 42 #[.slice A n c, .slice B m d] w fun e w' => e = .returned (.bool (eqB xs ys)) ∧ ∃ k, w' = w.drewN k := by
  subst hnx hmy
  exact ints_any A B c d xs ys hn hm w hsx hsy
end Go.Proofs.Ytehgeiaglddabaa
