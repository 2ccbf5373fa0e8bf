/- Walks of the reference's Points and Values. -/
import Derived.Test.YtkhkoeibigpdnaaDoorQd
import Derived.Test.YtkhkoeibigpdnaaDoorRq
import Derived.Test.YtkhkoeibigpdnaaDoorCoef
set_option linter.unusedVariables false
namespace Go.Proofs.YtkhkoeibigpdnaaDoor
open Go.RowKit Zp

/-- a reference's domain lies at a block -/
structure RD (w : World) (B q n : Nat) (s r : Int) : Prop where
  c0 : w.cell? ⟨B, 0, none⟩ = some (vi q)
  c1 : w.cell? ⟨B, 1, none⟩ = some (vi n)
  c2 : w.cell? ⟨B, 2, none⟩ = some (vi s)
  c3 : w.cell? ⟨B, 3, none⟩ = some (vi r)
theorem RD.new (w : World) (t : TypeId) (q n : Nat) (s r : Int) : RD (w.alloc (.cells #[vi q, vi n, vi s, vi r] t)) w.heap.size q n s r := by
  have h := Blk.new w t #[vi q, vi n, vi s, vi r]
  exact ⟨(h.cell 0).trans rfl, (h.cell 1).trans rfl, (h.cell 2).trans rfl, (h.cell 3).trans rfl⟩
theorem RD.below {w w' : World} {B q n : Nat} {s r : Int} (h : RD w B q n s r) {X : Nat} (hb : Below X w w') (hB : B < X) : RD w' B q n s r :=
  ⟨(hb.cell (p := ⟨B, 0, none⟩) hB).trans h.c0, (hb.cell (p := ⟨B, 1, none⟩) hB).trans h.c1, (hb.cell (p := ⟨B, 2, none⟩) hB).trans h.c2, (hb.cell (p := ⟨B, 3, none⟩) hB).trans h.c3⟩
theorem made_boxed {w w0 w' : World} {xs : List Int} {e : Ending} (hb : Below w.heap.size w w0) (h : Made xs w0 e w') : Made xs w e w' := by
  obtain ⟨v, h1, h2, h3⟩ := h
  exact ⟨v, h1, h2.more hb.size, hb.trans (h3.mono hb.size)⟩
theorem powL_get {p : Nat} [NeZero p] (s r : Fin p) (n k : Nat) (hk : k < (powL s r n).length) : (powL s r n)[k] = s * pw r k := by
  rw [powL_length] at hk
  rw [← co_of_lt (by rw [powL_length]; exact hk)]; unfold powL; rw [co_tab, if_pos hk]

set_option maxRecDepth 100000 in
set_option maxHeartbeats 2000000 in
theorem rpoints_any (q : Nat) [NeZero q] (hqm : q ≤ 2147483647) (n : Nat) (hn : n ≤ 65536) (s r : Fin q) (w : World) :
    Calls Tryd.prog 20 #[RDom q n (fv s) (fv r)] w fun e w' => Made (fvs (powL s r n)) w e w' := by
  obtain ⟨l, hl⟩ : ∃ l, l = powL s r n := ⟨_, rfl⟩
  rw [← hl]
  have hll : l.length = n := by rw [hl, powL_length]
  have hget : ∀ k (hk : k < l.length), l[k] = s * pw r k := fun k hk => by
    have := powL_get s r n k (by rw [← hl]; exact hk)
    rw [← this]; congr 1
  have HLL := Lib.hid hll
  have HG := Lib.hid hget
  have hba : Below w.heap.size w (w.alloc (.cells #[vi q, vi n, vi (fv s), vi (fv r)] 31)) := (Below.refl _ _).alloc (Nat.le_refl _) _
  have hrd := RD.new w 31 q n (fv s) (fv r)
  have hlt : w.heap.size < (w.alloc (.cells #[vi q, vi n, vi (fv s), vi (fv r)] 31)).heap.size := by simp
  clear hl hll hget
  go_enter Tryd.func20, Tryd.ntmps20
  go_wp2
  generalize w.alloc (.cells #[vi q, vi n, vi (fv s), vi (fv r)] 31) = w0 at hba hrd hlt ⊢
  obtain ⟨B, hB⟩ : ∃ B, B = w.heap.size := ⟨_, rfl⟩
  rw [← hB] at hrd hlt ⊢
  have HB := Lib.hid hB
  clear hB
  go_loopw [3, 4, 5] (fun v x i wr => ∃ k : Nat, k ≤ n ∧ i = vi k ∧ x = vi (fv (s * pw r k)) ∧ Own wr w0.heap.size v ((fvs l).take k) ∧ Below w0.heap.size w0 wr) (fun _ _ i _ => n - (intOf i).toNat)
  case atStart => exact ⟨0, Nat.zero_le _, rfl, by rw [pw_zero, mul_one_], World.ownsRow_nil _ _ _ _, Below.refl _ _⟩
  case round =>
    obtain ⟨k, hk, rfl, rfl, hown, hb⟩ := hrel
    have hrw := hrd.below hb hlt
    have c1 := hrw.c1
    by_cases hkn : k < n
    · have hkl : k < l.length := by rw [HLL.out]; exact hkn
      have h2 := map_take_succ fv l k hkl
      rw [HG.out k hkl] at h2
      have hmul := fun W => rmul_any q hqm (fv (s * pw r k)) (fv r) (i64_fv _ hqm) (i64_fv _ hqm) W
      have hst : s * pw r k * r = s * pw r (k + 1) := by rw [pw_succ]; grind
      rw [el_fv, el_fv, hst] at hmul
      generalize s * pw r k = X at h2 hmul hst
      have hlk : ((fvs l).take k).length < 17592186044416 := by
        have := List.length_take_le k (fvs l); omega
      have H2 := Lib.hid h2
      have HMUL := Lib.hid hmul
      have HLK := Lib.hid hlk
      clear h2 hmul hst hlk
      go_wp2_with (first | (go_at_call 69; refine (HMUL.out _).mono ?_; rintro e w' ⟨rfl, rfl⟩) | (at_builtin; refine wpList_app1 wr (fv X) rfl _ _ rfl w0.heap.size _ _ rfl rfl hown HLK.out hb.size ?_; intro v' w1 hg; have hb1 := hg.below hb hown (Nat.le_refl _) hb.size; have hr1 := hrd.below hb1 hlt; have d0 := hr1.c0; have d3 := hr1.c3))
      go_roundw
      case rel => exact ⟨k + 1, by omega, by go_num, rfl, by rw [← H2.out]; exact hg.own, hb1⟩
      case measure => simp [intOf]; omega
    · obtain rfl : k = n := by omega
      go_wp2
      go_ret
      rw [List.take_of_length_le (by rw [List.length_map, HLL.out]; exact Nat.le_refl _)] at hown
      exact made_boxed hba ⟨_, rfl, hown, hb⟩

/-- the first k points are values already -/
def ValsRel {q : Nat} [NeZero q] (V P : Nat → Fin q) (n : Nat) (base : Nat) (g c : Nat) (i : Value) (wr : World) : Prop :=
  ∃ (k : Nat) (L : List (Fin q)), k ≤ n ∧ i = vi k ∧ L.length = n ∧ (∀ j, j < n → co L j = if j < k then V j else P j) ∧ Own wr base (.slice (some ⟨g, 0, none⟩) n c) (fvs L)
set_option maxRecDepth 100000 in
set_option maxHeartbeats 2000000 in
theorem rvalues_any (q : Nat) [NeZero q] (hq2 : 2 ≤ q) (hqm : q ≤ 2147483647) (n : Nat) (hn1 : 1 ≤ n) (hn : n ≤ 65536) (s r : Fin q) (A : Option Addr) (m ca : Nat) (xs : List Int) (hml : xs.length = m) (hxs : ∀ x ∈ xs, I64 x) (hr : m * 8 ≤ 281474976710656) (w : World) (hs : SL w A xs) :
    Calls Tryd.prog 31 #[RDom q n (fv s) (fv r), .slice A m ca] w fun e w' => Made (fvs (valL s r n (els q xs))) w e w' := by
  have hba : Below w.heap.size w (w.alloc (.cells #[vi q, vi n, vi (fv s), vi (fv r)] 31)) := (Below.refl _ _).alloc (Nat.le_refl _) _
  have hrd := RD.new w 31 q n (fv s) (fv r)
  have hlt : w.heap.size < (w.alloc (.cells #[vi q, vi n, vi (fv s), vi (fv r)] 31)).heap.size := by simp
  have HP := Lib.hid (fun w => rpoints_any q hqm n hn s r w)
  have hpl : (powL s r n).length = n := powL_length _ _ _
  have hpg : ∀ j, j < n → co (powL s r n) j = s * pw r j := fun j hj => by unfold powL; rw [co_tab, if_pos hj]
  have hvl : ∀ L : List (Fin q), L.length = n → (∀ j, j < n → co L j = ev (els q xs) (s * pw r j)) → L = valL s r n (els q xs) := fun L h1 h2 =>
    ext_co (by rw [h1, valL_length]) (fun i hi => by rw [h2 i (by omega)]; unfold valL; rw [co_tab, if_pos (by omega)])
  generalize hP : powL s r n = P at HP hpl hpg
  have hev := fun x hx W hsW => reval_n q hq2 hqm A m ca xs hml hxs hr x hx W hsW
  have HPL := Lib.hid hpl
  have HPG := Lib.hid hpg
  have HVL := Lib.hid hvl
  have HEV := Lib.hid hev
  clear hP hpl hpg hvl hev hml
  go_enter Tryd.func31, Tryd.ntmps31
  go_wp2_with fail
  refine (HP.out _).mono ?_
  rintro e w1 ⟨v, rfl, hown, hb1⟩
  obtain ⟨g, c, rfl, hg1, hg2⟩ := hown.block (by rw [List.length_map, HPL.out]; exact hn1)
  have hl : (fvs P).length = n := by rw [List.length_map, HPL.out]
  rw [hl] at hown ⊢
  have hrd1 := hrd.below hb1 hlt
  have hbw1 := hba.trans (hb1.mono hba.size)
  have hs1 := hs.below hbw1
  have hown' := hown.more (Nat.le_of_lt hlt)
  have hgw : w.heap.size < g := Nat.lt_of_lt_of_le hlt hg1
  clear hl hown hb1 hrd
  obtain ⟨B, hB⟩ : ∃ B, B = w.heap.size := ⟨_, rfl⟩
  rw [← hB] at hrd1 hgw hown' ⊢
  have HB := Lib.hid hB
  clear hB
  go_wp2
  go_loopw [6] (fun i wr => ValsRel (fun j => ev (els q xs) (s * pw r j)) (fun j => s * pw r j) n B g c i wr ∧ Below (B + 1) w1 wr) (fun i _ => n - (intOf i).toNat)
  case atStart => exact ⟨⟨0, P, Nat.zero_le _, rfl, HPL.out, fun j hj => by rw [if_neg (by omega)]; exact HPG.out j hj, hown'⟩, Below.refl _ _⟩
  case round =>
    obtain ⟨⟨k, L, hk, rfl, hLl, hLc, hownL⟩, hb⟩ := hrel
    have HLL := Lib.hid hLl
    have HLC := Lib.hid hLc
    clear hLl hLc
    by_cases hkn : k < n
    · have hkL : k < (fvs L).length := by rw [List.length_map, HLL.out]; exact hkn
      have hat := hownL.at_ (by rw [List.length_map, HLL.out]) k hkL
      have hfz := hownL.frozen_ (by rw [List.length_map, HLL.out]) k
      have hLk : (fvs L)[k] = fv (s * pw r k) := by
        have h1 := HLC.out k hkn
        rw [if_neg (by omega), co_of_lt (by rw [HLL.out]; exact hkn)] at h1
        simp [h1]
      rw [hLk] at hat
      have hsW := hs.below (hbw1.trans (hb.mono (by have := HB.out; omega)))
      have c0 := (hrd1.below hb (Nat.lt_succ_self _)).c0
      have hev := fun W hsW => HEV.out (fv (s * pw r k)) (i64_fv _ hqm) W hsW
      simp only [el_fv] at hev
      obtain ⟨V, hV⟩ : ∃ V, V = ev (els q xs) (s * pw r k) := ⟨_, rfl⟩
      rw [← hV] at hev
      have hst := hownL.store (by rw [List.length_map, HLL.out]) k (fv V)
      have hset : (fvs L).set k (fv V) = fvs (L.set k V) := by simp [List.map_set]
      rw [hset] at hst
      have hnew : ∀ j, j < n → co (L.set k V) j = if j < k + 1 then ev (els q xs) (s * pw r j) else s * pw r j := fun j hj => by
        rw [co_of_lt (by rw [List.length_set, HLL.out]; exact hj), List.getElem_set]
        by_cases hjk : k = j
        · rw [if_pos hjk, if_pos (by omega), hV, hjk]
        · rw [if_neg hjk, ← co_of_lt (by rw [HLL.out]; exact hj), HLC.out j hj]
          by_cases hlt2 : j < k
          · rw [if_pos hlt2, if_pos (by omega)]
          · rw [if_neg hlt2, if_neg (by omega)]
      generalize s * pw r k = X at hat hev hV
      have HE2 := Lib.hid hev
      have HST := Lib.hid hst
      have HNEW := Lib.hid hnew
      have i1 : (0 : Int) ≤ (k : Int) := by omega
      have i2 : (k : Int) < n := by omega
      have hmx : Tryd.prog.follows .mixedOrders = true := by kernel_rfl
      clear hev hst hset hnew hV hLk hownL
      go_wp2
      refine wp_region_quiet_tail 11 hmx (by kernel_rfl) ?_
      simp only [List.take_succ_cons, List.take_zero, List.drop_succ_cons, List.drop_zero]
      repeat (quiet_step ((go_at_call 76; exact quiet_eq (HE2.out _ (by exact hsW)))))
      refine wpQuiet_nil ?_
      intro _ hw'
      obtain ⟨nq1, hw''⟩ := hw'
      subst hw''
      go_wp2
      go_roundw
      case rel => exact ⟨⟨k + 1, L.set k V, by omega, by go_num, by rw [List.length_set]; exact HLL.out, HNEW.out, by exact HST.out.drewN nq1⟩, (below_drewN hb nq1).setCell (p := ⟨g, k, none⟩) (by show B + 1 ≤ g; omega) _⟩
      case measure => simp [intOf]; omega
    · obtain rfl : k = n := by omega
      have he := HVL.out L HLL.out (fun j hj => by rw [HLC.out j hj, if_pos (by omega)])
      rw [he] at hownL
      have hB := HB.out
      have hbf := hbw1.trans (hb.mono (by omega))
      go_wp2
      go_ret
      exact ⟨_, rfl, by rw [← hB]; exact hownL, hbf⟩
end Go.Proofs.YtkhkoeibigpdnaaDoor
