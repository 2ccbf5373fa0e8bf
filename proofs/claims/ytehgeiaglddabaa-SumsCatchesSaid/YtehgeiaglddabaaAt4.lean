/- Walk: attestref4.At. -/
import Derived.Test.YtehgeiaglddabaaRv
set_option linter.unusedVariables false
namespace Zp
section
variable {p : Nat} [NeZero p]
/-- the polynomial through points -/
noncomputable def fitL (xs ys : List (Fin p)) : List (Fin p) := open Classical in if h : ∃ o, Fitted xs ys xs.length o then h.choose else []
theorem fitL_eq (hp : IsPrime p) {xs ys o : List (Fin p)} (hx : xs.Nodup) (h : Fitted xs ys xs.length o) : fitL xs ys = o := by
  have he : ∃ o, Fitted xs ys xs.length o := ⟨o, h⟩
  unfold fitL
  rw [dif_pos he]
  exact Fitted.unique hp hx he.choose_spec h
theorem fit_exists (hp : IsPrime p) {xs : List (Fin p)} (ys : List (Fin p)) (hx : xs.Nodup) : ∀ k, k ≤ xs.length → ∃ o, Fitted xs ys k o
  | 0, _ => ⟨[], Fitted.start _ _⟩
  | k + 1, hk => by
    obtain ⟨o, ho⟩ := fit_exists hp ys hx k (by omega)
    exact ⟨_, ho.step hp hx hk⟩
theorem fitL_fitted (hp : IsPrime p) {xs : List (Fin p)} (ys : List (Fin p)) (hx : xs.Nodup) : Fitted xs ys xs.length (fitL xs ys) := by
  obtain ⟨o, ho⟩ := fit_exists hp ys hx xs.length (Nat.le_refl _)
  rw [fitL_eq hp hx ho]
  exact ho
/-- 0, 1, .. -/
def idsI (n : Nat) : List Int := (List.range n).map (fun (i : Nat) => (i : Int))
theorem idsI_length (n : Nat) : (idsI n).length = n := by simp [idsI]
theorem idsI_take (n k : Nat) (hk : k < n) : (idsI n).take k ++ [(k : Int)] = (idsI n).take (k + 1) := by
  rw [List.take_succ_eq_append_getElem (by rw [idsI_length]; exact hk)]; simp [idsI]
theorem co_ids {n k : Nat} (hk : k < n) : co (els p (idsI n)) k = el p (k : Int) := by
  rw [co_of_lt (by rw [List.length_map, idsI_length]; exact hk)]; simp [idsI]
theorem ids_nodup {n : Nat} (hn : n ≤ p) : (els p (idsI n)).Nodup := by
  have hl : (els p (idsI n)).length = n := by rw [List.length_map, idsI_length]
  refine nodup_of_lt fun i k hi hk he => ?_
  rw [← co_of_lt hi, ← co_of_lt (by omega), co_ids (by omega), co_ids (by omega), el_eq_iff] at he
  rw [Int.emod_eq_of_lt (by omega) (by omega), Int.emod_eq_of_lt (by omega) (by omega)] at he
  omega
end
end Zp
namespace Go.Proofs.Ytehgeiaglddabaa
open Go.RowKit Zp

theorem ids_i64 (n : Nat) (hn : n ≤ 2097152) : ∀ x ∈ idsI n, I64 x := fun x hx => by
  obtain ⟨i, hi, rfl⟩ := List.mem_map.1 hx
  have := List.mem_range.1 hi
  constructor <;> omega
set_option maxRecDepth 100000 in
set_option maxHeartbeats 1000000 in
theorem at4_any (q : Nat) [NeZero q] (hp : IsPrime q) (hp1 : 2 ≤ q) (hp2 : q ≤ 2147483647) (A : Option Addr) (n c : Nat) (l : List Int) (hml : l.length = n) (hl : ∀ x ∈ l, I64 x) (hn : n ≤ 2097152) (hnq : n ≤ q) (r : Int) (hr : I64 r) (w : World) (hs : SL w A l) :
    Calls Try.prog 35 #[vi q, .slice A n c, vi r] w fun e w' => SaysW (vi (fv (ev (fitL (els q (idsI n)) (els q l)) (el q r)))) w e w' := by
  have hfit := fun (B : Option Addr) (cb : Nat) W hsx hsy => rfit_n q hp hp1 hp2 B A n cb c (idsI n) l (idsI_length n) hml (ids_i64 n hn) hl hn (ids_nodup hnq) W hsx hsy
  have HEQ := Lib.hid (fun o (h : Fitted (els q (idsI n)) (els q l) (els q (idsI n)).length o) => fitL_eq hp (ids_nodup hnq) h)
  have hlen : (els q (idsI n)).length = n := by rw [List.length_map, idsI_length]
  have HLEN := Lib.hid hlen
  have HFIT := Lib.hid hfit
  clear hp hml hfit hlen
  go_enter Try.func35, Try.ntmps35
  go_wp2
  go_loopw [7, 8] (fun v i wr => ∃ k : Nat, k ≤ n ∧ i = vi k ∧ Own wr w.heap.size v ((idsI n).take k) ∧ Below w.heap.size w wr) (fun _ i _ => n - (intOf i).toNat)
  case atStart => exact ⟨0, Nat.zero_le _, rfl, World.ownsRow_nil _ _ _ _, Below.refl _ _⟩
  case round =>
    obtain ⟨k, hk, rfl, hown, hb⟩ := hrel
    by_cases hkn : k < n
    · have h2 := idsI_take n k hkn
      have hlk : ((idsI n).take k).length < 17592186044416 := by
        have := List.length_take_le k (idsI n); omega
      have H2 := Lib.hid h2
      have HLK := Lib.hid hlk
      clear h2 hlk
      go_wp2_with (at_builtin; refine wpList_app1 wr (k : Int) rfl _ _ rfl w.heap.size _ _ rfl rfl hown HLK.out hb.size ?_; intro v' w1 hg)
      go_roundw
      case rel => exact ⟨k + 1, by omega, by go_num, by rw [← H2.out]; exact hg.own, hg.below hb hown (Nat.le_refl _) hb.size⟩
      case measure => simp [intOf]; omega
    · obtain rfl : k = n := by omega
      rw [List.take_of_length_le (by rw [idsI_length]; exact Nat.le_refl _)] at hown
      obtain ⟨A1, n1, c1, rfl, hl1, _, _, hs1⟩ := hown.shapeN
      rw [idsI_length] at hl1
      subst hl1
      clear hown
      go_wp2_with fail
      refine (HFIT.out A1 c1 _ hs1 (hs.below hb)).mono ?_
      rintro e w2 ⟨o, ho, v2, rfl, hown2, hb2⟩
      have he := HEQ.out o ho
      have hol := ho.len
      rw [HLEN.out] at hol
      obtain ⟨A2, n2, c2, rfl, hl2, _, _, hs2⟩ := hown2.shapeN
      have hev := reval_n q hp1 hp2 A2 n2 c2 (fvs o) hl2 (i64_fvsR _ hp2) (by rw [← hl2, List.length_map]; omega) r hr _ hs2
      rw [els_fvs, ← he] at hev
      have HEV := Lib.hid hev
      clear hev he ho hown2 hl2 hol
      go_wp2_with fail
      refine (HEV.out).mono ?_
      rintro e w' ⟨rfl, rfl⟩
      go_wp2
      go_ret
      exact ⟨rfl, hb.trans (hb2.mono hb.size)⟩
end Go.Proofs.Ytehgeiaglddabaa
