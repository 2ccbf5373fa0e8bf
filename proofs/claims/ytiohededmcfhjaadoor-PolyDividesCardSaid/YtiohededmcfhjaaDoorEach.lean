/- Walks: poly.at, each, Add, Sub. -/
import Derived.Test.YtiohededmcfhjaaDoorMul
import Derived.Test.YtiohededmcfhjaaDoorDm
set_option linter.unusedVariables false
namespace Go.Proofs.YtiohededmcfhjaaDoor
open Go.RowKit Zp

theorem pat_any (A : Option Addr) (m c : Nat) (xs : List Int) (hml : xs.length = m) (hx : m ≤ 9223372036854775807) (i : Nat) (hi : (i : Int) ≤ 9223372036854775807) (w : World) (hs : SL w A xs) :
    Calls Tryd.prog 61 #[.slice A m c, vi i] w fun e w' => e = .returned (vi (xs.getD i 0)) ∧ w = w' := by
  by_cases hk : i < m
  · have hkx : i < xs.length := by rw [hml]; exact hk
    obtain ⟨ad, rfl, _, hc⟩ := hs.at_ hkx
    have hr : xs.getD i 0 = xs[i] := by rw [List.getD_eq_getElem?_getD, List.getElem?_eq_getElem hkx]; rfl
    rw [← hr] at hc
    obtain ⟨x, hx'⟩ : ∃ x, x = xs.getD i 0 := ⟨_, rfl⟩
    rw [← hx'] at hc ⊢
    have HM := Lib.hid hml
    have HX := Lib.hid hx'
    clear hr hml hx'
    go_enter Tryd.func61, Tryd.ntmps61
    go_wp2
    go_ret
    exact ⟨rfl, rfl⟩
  · have hr : xs.getD i 0 = 0 := by rw [List.getD_eq_getElem?_getD, List.getElem?_eq_none (by omega)]; rfl
    have HR := Lib.hid hr
    have HM := Lib.hid hml
    clear hr hml
    go_enter Tryd.func61, Tryd.ntmps61
    go_wp2
    go_ret
    exact ⟨ret_int HR.out.symm, rfl⟩

theorem i64_getD {xs : List Int} (h : ∀ n ∈ xs, I64 n) (k : Nat) : I64 (xs.getD k 0) := by
  rw [List.getD_eq_getElem?_getD]
  cases hx : xs[k]? with
  | none => constructor <;> decide
  | some x => exact h x (List.mem_of_getElem? hx)

/-- a function that has a body is entered -/
theorem callFunc_enters {K : Nat} {fn : Func} (hf : Tryd.prog.funcs[K]? = some fn) (hname : (fn.name == "runtime.NumGoroutine") = false) (hb : fn.body.isSome = true) (args : Array Value) (w : World) :
    (callFunc K args).run Tryd.prog w = .ok (.enter K args) w := by
  have h1 : fn.name ≠ "runtime.NumGoroutine" := by simpa using hname
  obtain ⟨c, hc⟩ := Option.isSome_iff_exists.1 hb
  simp [callFunc, hf, h1, hc]

def EachRel {p : Nat} [NeZero p] (l : List (Fin p)) (n : Nat) (w : World) (v i : Value) (wr : World) : Prop := ∃ k g : Nat, k ≤ n ∧ i = vi k ∧ v = .slice (some ⟨g, 0, none⟩) k n ∧ Own wr w.heap.size v ((fvs l).take k) ∧ Below w.heap.size w wr

set_option maxRecDepth 100000 in
set_option maxHeartbeats 1000000 in
theorem each_any (p : Nat) [NeZero p] (hp2 : p ≤ 2147483647) (K : Nat) (hK : ∀ (args : Array Value) (w : World), (callFunc K args).run Tryd.prog w = .ok (.enter K args) w) (op : Fin p → Fin p → Fin p) (b : Nat)
    (hop : ∀ (W : World) (m n : Int), I64 m → I64 n → W.cell? ⟨b, 0, none⟩ = some (vi p) → Calls Tryd.prog K #[.pointer (some ⟨b, 0, none⟩), vi m, vi n] W fun e w' => e = .returned (vi (fv (op (el p m) (el p n)))) ∧ ∃ k, w' = W.drewN k)
    (A B : Option Addr) (na ca nb cb : Nat) (xs ys : List Int) (hna : xs.length = na) (hnb : ys.length = nb) (hxs : ∀ n ∈ xs, I64 n) (hys : ∀ n ∈ ys, I64 n) (hrx : na * 8 ≤ 281474976710656) (hry : nb * 8 ≤ 281474976710656)
    (w : World) (hc : w.cell? ⟨b, 0, none⟩ = some (vi p)) (hsx : SL w A xs) (hsy : SL w B ys) :
    Calls Tryd.prog 53 #[.pointer (some ⟨b, 0, none⟩), .func (.func K) #[.pointer (some ⟨b, 0, none⟩)] #[], .slice A na ca, .slice B nb cb] w fun e w' => Made (fvs (trimL (tab (max na nb) (fun i => op (co (els p xs) i) (co (els p ys) i))))) w e w' := by
  have hbl : b < w.heap.size := block_lt_of_cell hc
  obtain ⟨n, hn⟩ : ∃ n, n = max na nb := ⟨_, rfl⟩
  rw [← hn]
  have hn8 : n * 8 ≤ 281474976710656 := by omega
  have hmk := make_ints0 n hn8
  obtain ⟨l, hl⟩ : ∃ l, l = tab n (fun i => op (co (els p xs) i) (co (els p ys) i)) := ⟨_, rfl⟩
  rw [← hl]
  have hll : l.length = n := by rw [hl, tab_length]
  have HL := Lib.hid hl
  have HN := Lib.hid hn
  have HLL := Lib.hid hll
  have HNA := Lib.hid hna
  have HNB := Lib.hid hnb
  have HOP := Lib.hid hop
  clear hl hn hll hna hnb hop
  have hcase : (na < nb ∧ n = nb) ∨ (¬ na < nb ∧ n = na) := by have := HN.out; omega
  have hna9 : na ≤ 9223372036854775807 := by omega
  have hnb9 : nb ≤ 9223372036854775807 := by omega
  rcases hcase with ⟨hlt, hnn⟩ | ⟨hlt, hnn⟩
  · obtain rfl : n = nb := hnn
    go_enter Tryd.func53, Tryd.ntmps53
    go_wp2
    go_loopw [9, 22] (fun v i wr => EachRel l n w v i wr) (fun _ i _ => n - (intOf i).toNat)
    case atStart => exact ⟨0, w.heap.size, Nat.zero_le _, rfl, rfl, own_made0 w _ n (Nat.le_refl _) hn8, (Below.refl _ _).alloc (Nat.le_refl _) _⟩
    case round =>
      obtain ⟨k, g, hk, rfl, rfl, hown, hb⟩ := hrel
      have hcr : wr.cell? ⟨b, 0, none⟩ = some (vi p) := (hb.cell (p := ⟨b, 0, none⟩) hbl).trans hc
      by_cases hkn : k < n
      · have hsx' := hsx.below hb
        have hsy' := hsy.below hb
        have h2 := map_take_succ fv l k (by rw [HLL.out]; exact hkn)
        have h3 : l[k]'(by rw [HLL.out]; exact hkn) = op (el p (xs.getD k 0)) (el p (ys.getD k 0)) := by
          rw [← co_of_lt (by rw [HLL.out]; exact hkn), HL.out, co_tab, if_pos hkn, co_els, co_els]
        rw [h3] at h2
        obtain ⟨x, hx⟩ : ∃ x, x = xs.getD k 0 := ⟨_, rfl⟩
        obtain ⟨y, hy⟩ : ∃ y, y = ys.getD k 0 := ⟨_, rfl⟩
        have ix : I64 x := by rw [hx]; exact i64_getD hxs k
        have iy : I64 y := by rw [hy]; exact i64_getD hys k
        have hatx := fun (W : World) hs => pat_any A _ ca xs HNA.out hna9 k (by omega) W hs
        have haty := fun (W : World) hs => pat_any B _ cb ys HNB.out hnb9 k (by omega) W hs
        rw [← hx] at hatx h2
        rw [← hy] at haty h2
        have hopc := fun (W : World) hc => HOP.out W x y ix iy hc
        obtain ⟨Z, hZ⟩ : ∃ Z, Z = op (el p x) (el p y) := ⟨_, rfl⟩
        rw [← hZ] at hopc h2
        have hlk : ((fvs l).take k).length = k := by rw [List.length_take, List.length_map, HLL.out]; omega
        have HLK := Lib.hid hlk
        have H2 := Lib.hid h2
        have HATX := Lib.hid hatx
        have HATY := Lib.hid haty
        have HOPC := Lib.hid hopc
        clear hatx haty hopc hx hy hZ h2 h3 hlk
        go_wp2_with fail
        refine (HATX.out _ hsx').mono ?_
        rintro e w' ⟨rfl, rfl⟩
        go_wp2_with fail
        refine (HATY.out _ hsy').mono ?_
        rintro e w' ⟨rfl, rfl⟩
        go_wp2_with fail
        refine (HOPC.out _ hcr).mono ?_
        rintro e w' ⟨rfl, k5, rfl⟩
        have hown' : Own (wr.drewN k5) w.heap.size (.slice (some ⟨g, 0, none⟩) k n) ((fvs l).take k) := hown
        go_wp2_with (at_builtin; refine wpList_app1_fits (wr.drewN k5) (fv Z) rfl _ _ rfl w.heap.size g k n _ rfl rfl hown' HLK.out.symm hkn ?_; intro w1 hown1 hg)
        go_roundw
        case rel => exact ⟨k + 1, g, by omega, by go_num, rfl, by rw [← H2.out]; exact hown1, (below_drewN hb k5).grown hg hb.size (fun j hj => by injection hj with hj; subst hj; exact (hown.lt g rfl).1)⟩
        case measure => simp [intOf]; omega
      · obtain rfl : k = n := by omega
        have hLn : (fvs l).length = k := by rw [List.length_map, HLL.out]
        rw [List.take_of_length_le (by rw [hLn]; exact Nat.le_refl _)] at hown
        have hsl : SL wr (some ⟨g, 0, none⟩) (fvs l) := by
          obtain ⟨A1, c1, h1, h2⟩ := hown.len
          injection h1 with h1 _ _
          rw [h1]; exact h2
        have ht := trim_any p hp2 b (some ⟨g, 0, none⟩) k (fvs l) (i64_fvs l hp2) (by rw [hLn]; exact hn8) (by rw [hLn]; exact Nat.le_refl _) wr hcr hsl
        rw [hLn, els_fvs] at ht
        have HT := Lib.hid ht
        clear ht hLn
        go_wp2_with fail
        refine (HT.out).mono ?_
        rintro e w4 ⟨v4, rfl, hown4, hb4⟩
        go_wp2
        go_ret
        exact ⟨v4, rfl, hown4.more hb.size, hb.trans (hb4.mono hb.size)⟩
  · obtain rfl : n = na := hnn
    go_enter Tryd.func53, Tryd.ntmps53
    go_wp2
    go_loopw [9, 22] (fun v i wr => EachRel l n w v i wr) (fun _ i _ => n - (intOf i).toNat)
    case atStart => exact ⟨0, w.heap.size, Nat.zero_le _, rfl, rfl, own_made0 w _ n (Nat.le_refl _) hn8, (Below.refl _ _).alloc (Nat.le_refl _) _⟩
    case round =>
      obtain ⟨k, g, hk, rfl, rfl, hown, hb⟩ := hrel
      have hcr : wr.cell? ⟨b, 0, none⟩ = some (vi p) := (hb.cell (p := ⟨b, 0, none⟩) hbl).trans hc
      by_cases hkn : k < n
      · have hsx' := hsx.below hb
        have hsy' := hsy.below hb
        have h2 := map_take_succ fv l k (by rw [HLL.out]; exact hkn)
        have h3 : l[k]'(by rw [HLL.out]; exact hkn) = op (el p (xs.getD k 0)) (el p (ys.getD k 0)) := by
          rw [← co_of_lt (by rw [HLL.out]; exact hkn), HL.out, co_tab, if_pos hkn, co_els, co_els]
        rw [h3] at h2
        obtain ⟨x, hx⟩ : ∃ x, x = xs.getD k 0 := ⟨_, rfl⟩
        obtain ⟨y, hy⟩ : ∃ y, y = ys.getD k 0 := ⟨_, rfl⟩
        have ix : I64 x := by rw [hx]; exact i64_getD hxs k
        have iy : I64 y := by rw [hy]; exact i64_getD hys k
        have hatx := fun (W : World) hs => pat_any A _ ca xs HNA.out hna9 k (by omega) W hs
        have haty := fun (W : World) hs => pat_any B _ cb ys HNB.out hnb9 k (by omega) W hs
        rw [← hx] at hatx h2
        rw [← hy] at haty h2
        have hopc := fun (W : World) hc => HOP.out W x y ix iy hc
        obtain ⟨Z, hZ⟩ : ∃ Z, Z = op (el p x) (el p y) := ⟨_, rfl⟩
        rw [← hZ] at hopc h2
        have hlk : ((fvs l).take k).length = k := by rw [List.length_take, List.length_map, HLL.out]; omega
        have HLK := Lib.hid hlk
        have H2 := Lib.hid h2
        have HATX := Lib.hid hatx
        have HATY := Lib.hid haty
        have HOPC := Lib.hid hopc
        clear hatx haty hopc hx hy hZ h2 h3 hlk
        go_wp2_with fail
        refine (HATX.out _ hsx').mono ?_
        rintro e w' ⟨rfl, rfl⟩
        go_wp2_with fail
        refine (HATY.out _ hsy').mono ?_
        rintro e w' ⟨rfl, rfl⟩
        go_wp2_with fail
        refine (HOPC.out _ hcr).mono ?_
        rintro e w' ⟨rfl, k5, rfl⟩
        have hown' : Own (wr.drewN k5) w.heap.size (.slice (some ⟨g, 0, none⟩) k n) ((fvs l).take k) := hown
        go_wp2_with (at_builtin; refine wpList_app1_fits (wr.drewN k5) (fv Z) rfl _ _ rfl w.heap.size g k n _ rfl rfl hown' HLK.out.symm hkn ?_; intro w1 hown1 hg)
        go_roundw
        case rel => exact ⟨k + 1, g, by omega, by go_num, rfl, by rw [← H2.out]; exact hown1, (below_drewN hb k5).grown hg hb.size (fun j hj => by injection hj with hj; subst hj; exact (hown.lt g rfl).1)⟩
        case measure => simp [intOf]; omega
      · obtain rfl : k = n := by omega
        have hLn : (fvs l).length = k := by rw [List.length_map, HLL.out]
        rw [List.take_of_length_le (by rw [hLn]; exact Nat.le_refl _)] at hown
        have hsl : SL wr (some ⟨g, 0, none⟩) (fvs l) := by
          obtain ⟨A1, c1, h1, h2⟩ := hown.len
          injection h1 with h1 _ _
          rw [h1]; exact h2
        have ht := trim_any p hp2 b (some ⟨g, 0, none⟩) k (fvs l) (i64_fvs l hp2) (by rw [hLn]; exact hn8) (by rw [hLn]; exact Nat.le_refl _) wr hcr hsl
        rw [hLn, els_fvs] at ht
        have HT := Lib.hid ht
        clear ht hLn
        go_wp2_with fail
        refine (HT.out).mono ?_
        rintro e w4 ⟨v4, rfl, hown4, hb4⟩
        go_wp2
        go_ret
        exact ⟨v4, rfl, hown4.more hb.size, hb.trans (hb4.mono hb.size)⟩
theorem tab_sub {p : Nat} [NeZero p] (na nb : Nat) (a b : List (Fin p)) (ha : a.length = na) (hb : b.length = nb) : tab (max na nb) (fun i => co a i - co b i) = subL a b := by rw [subL, ha, hb]
theorem psub_any (p : Nat) [NeZero p] (hp2 : p ≤ 2147483647) (b : Nat)
    (A B : Option Addr) (na ca nb cb : Nat) (xs ys : List Int) (hna : xs.length = na) (hnb : ys.length = nb) (hxs : ∀ n ∈ xs, I64 n) (hys : ∀ n ∈ ys, I64 n) (hrx : na * 8 ≤ 281474976710656) (hry : nb * 8 ≤ 281474976710656)
    (w : World) (hc : w.cell? ⟨b, 0, none⟩ = some (vi p)) (hsx : SL w A xs) (hsy : SL w B ys) :
    Calls Tryd.prog 40 #[.pointer (some ⟨b, 0, none⟩), .slice A na ca, .slice B nb cb] w fun e w' => Made (fvs (trimL (subL (els p xs) (els p ys)))) w e w' := by
  have h := each_any p hp2 26 (callFunc_enters Tryd.func26 (by kernel_rfl) (by kernel_rfl)) (fun x y => x - y) b (fun W m n hm hn hc => (sub_any p hp2 b m n hm hn W hc).mono fun e w' ⟨h1, h2⟩ => ⟨h1, 0, h2.symm⟩) A B na ca nb cb xs ys hna hnb hxs hys hrx hry w hc hsx hsy
  rw [tab_sub na nb _ _ (by simpa using hna) (by simpa using hnb)] at h
  have H := Lib.hid h
  clear h hna hnb
  have hmf : ∀ (fn : Fn) (first cap : Array Value) (w : World), (Instr.makeFunc fn first cap).run Tryd.prog w = .ok (.func fn first cap) w := fun _ _ _ _ => rfl
  go_enter Tryd.func40, Tryd.ntmps40
  go_wp2_with fail
  refine (H.out).mono ?_
  rintro e w1 ⟨v, rfl, hown, hb⟩
  go_wp2
  go_ret
  exact ⟨v, rfl, hown, hb⟩
end Go.Proofs.YtiohededmcfhjaaDoor
