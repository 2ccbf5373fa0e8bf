/- A bundle of texts: Rowm, Each, Sm5, Sm6, Rl, Sd, Ms, Rb, Rp, Fx. -/
import Derived.Test.YtgmkcmahbefcoaaDoorB02
import Derived.Test.YtgmkcmahbefcoaaDoorB00
import Derived.Deep.RegionLaw
import Derived.Test.YtgmkcmahbefcoaaDoorB01
/- Own slices of slices of ints: append of one; how they read; slices of slices of ints that came in. -/
set_option linter.unusedVariables false
namespace Go.Proofs.YtgmkcmahbefcoaaDoor
open Go.RowKit

theorem info_ints : (Tryd.prog.info? 23).map (fun i => (i.zero, i.size, i.bytes)) = some (some (.slice none 0 0), 1, 24) := by kernel_rfl

/-- the call's own slice of slices of ints -/
abbrev OwnR (w : World) (base : Nat) (v : Value) (us : List Value) : Prop := w.ownsRow base 23 1 v us.length us
/-- each is a slice of ints of the call's own -/
def RowsOwn (w : World) (base : Nat) (us : List Value) (ls : List (List Int)) : Prop := us.length = ls.length ∧ ∀ k (h : k < us.length) (h' : k < ls.length), Own w base us[k] ls[k]

theorem own_ne {w : World} {base base' : Nat} {v u : Value} {xs : List Int} {us : List Value} (h : Own w base v xs) (k : OwnR w base' u us) : v.ownBlock = none ∨ v.ownBlock ≠ u.ownBlock := by
  rcases h.2 with ⟨rfl, _⟩ | ⟨g, cap, cur, rfl, _, hg, _⟩
  · exact .inl rfl
  · refine .inr ?_
    rcases k.2 with ⟨rfl, _⟩ | ⟨g', cap', cur', rfl, _, hg', _⟩
    · intro e; cases e
    · intro e
      injection e with e
      subst e
      rw [hg] at hg'
      injection hg' with hg'
      injection hg' with _ ht
      exact absurd ht (by decide)

/-- what an append of an own row leaves -/
structure GrewR (w w' : World) (base : Nat) (v v' : Value) (us : List Value) : Prop where
  own : OwnR w' base v' us
  grown : w.grownBy w' v.ownBlock

theorem GrewR.below {w0 w w' : World} {base : Nat} {v v' : Value} {us vs : List Value} (h : GrewR w w' base v v' us) {B : Nat} (hb : Below B w0 w) (ho : OwnR w base v vs) (hB : B ≤ base) (hs : B ≤ w.heap.size) : Below B w0 w' :=
  hb.grown h.grown hs (fun k hk => Nat.le_trans hB (World.ownsRow.lt ho k hk).1)
theorem GrewR.rows {w w' : World} {base base2 : Nat} {v v' : Value} {us vs ws : List Value} {ls : List (List Int)} (h : GrewR w w' base v v' us) (ho : OwnR w base v vs) (hr : RowsOwn w base2 ws ls) : RowsOwn w' base2 ws ls :=
  ⟨hr.1, fun k h1 h2 => (hr.2 k h1 h2).grown h.grown (own_ne (hr.2 k h1 h2) ho)⟩

theorem run_appR (w : World) (base : Nat) (v : Value) (us : List Value) (A : Option Addr) (n c : Nat) (hown : OwnR w base v us) (hlen : us.length < 5864062014805) (hbase : base ≤ w.heap.size) (ty : TypeId) :
    ∃ v' w', (Builtin.append_ #[22, 22] ty #[v, .slice (some ⟨w.heap.size, 0, none⟩) 1 1]).run Tryd.prog (w.alloc (.cells #[.slice A n c] 23)) = .ok v' w' ∧ GrewR w w' base v v' (us ++ [.slice A n c]) := by
  obtain ⟨i0, hi, hz0, hz1, hz2⟩ := info_parts info_ints
  obtain ⟨v', w', hrun, h2, h3, _, h5⟩ := run_append_own_at (P := Tryd.prog) (w.alloc (.cells #[.slice A n c] 23)) base 22 ty 23 i0 _ 1 24 Tryd.underlying22 hi hz0 hz1 hz2 rfl (by omega)
    v us.length us (hown.alloc _) ⟨w.heap.size, 0, none⟩ 1 1 [.slice A n c] rfl (by
      intro j u hj
      match j, hj with
      | 0, hj => simp at hj; subst hj; simp [Addr.add]) (by simp [Value.oneCell']) (by simp only [maxLen]; omega) (by omega) (by simp; omega)
  refine ⟨v', w', hrun, ?_, grownBy_trans (World.grownBy_alloc w _ _) h3⟩
  have e : (us ++ [Value.slice A n c]).length = us.length + 1 := by simp
  rw [OwnR, e]
  exact h2

/-- append of one row -/
theorem wpList_appR {ops : Array Oper} {rest : List Oper} {o : Oper} {a : Act} {Q : Exit → Act → World → Prop} (w : World) (A : Option Addr) (n c : Nat) (hgd : o.guard = none) (s x : Operand)
    (ho : o.op = .call { callee := .builtin .append, args := #[s, x], argTypes := #[22, 22] })
    (base : Nat) (v : Value) (us : List Value) (hs : a.eval s = v) (hx : a.eval x = .slice (some ⟨w.heap.size, 0, none⟩) 1 1) (hown : OwnR w base v us) (hlen : us.length < 5864062014805) (hbase : base ≤ w.heap.size)
    (h : ∀ v' w', GrewR w w' base v v' (us ++ [.slice A n c]) → wpList Tryd.prog ops Q rest (a.put o.dst v') w') : wpList Tryd.prog ops Q (o :: rest) a (w.alloc (.cells #[.slice A n c] 23)) :=
  wpList_plain hgd fun _ hK => by
    obtain ⟨v', w', hrun, hg⟩ := run_appR w base v us A n c hown hlen hbase o.type
    unfold Oper.wp execOp
    simp only [ho, resolve, invoke, builtin, Sem.run_bind, Sem.run_pure, Result.andThen_ok, List.map_toArray, List.map_cons, List.map_nil, hs, hx, hrun]
    exact hK _ _ (h v' w' hg)

theorem RowsOwn.nil (w : World) (base : Nat) : RowsOwn w base [] [] := ⟨rfl, fun k h => absurd h (by simp)⟩
theorem RowsOwn.snoc {w : World} {base : Nat} {us : List Value} {ls : List (List Int)} {u : Value} {l : List Int} (h : RowsOwn w base us ls) (hu : Own w base u l) : RowsOwn w base (us ++ [u]) (ls ++ [l]) := by
  have hl := h.1
  refine ⟨by simp [hl], fun k h1 h2 => ?_⟩
  by_cases hk : k < us.length
  · rw [List.getElem_append_left hk, List.getElem_append_left (by omega)]
    exact h.2 k hk (by omega)
  · have e : k = us.length := by simp at h1; omega
    subst e
    rw [List.getElem_append_right (Nat.le_refl _), List.getElem_append_right (by omega)]
    simpa [hl] using hu
theorem RowsOwn.below {w w' : World} {base : Nat} {us : List Value} {ls : List (List Int)} (h : RowsOwn w base us ls) (hb : Below w.heap.size w w') : RowsOwn w' base us ls := ⟨h.1, fun k h1 h2 => (h.2 k h1 h2).below hb⟩
theorem RowsOwn.more {w : World} {base base' : Nat} {us : List Value} {ls : List (List Int)} (h : RowsOwn w base us ls) (hb : base' ≤ base) : RowsOwn w base' us ls := ⟨h.1, fun k h1 h2 => (h.2 k h1 h2).more hb⟩

/-- own rows read as tables -/
theorem tb_own {w : World} {base base2 : Nat} {A : Option Addr} {n c : Nat} {us : List Value} {ls : List (List Int)} (h : OwnR w base (.slice A n c) us) (hr : RowsOwn w base2 us ls) (hi : ∀ l ∈ ls, ∀ x ∈ l, I64 x) : TB w A ls := fun k hk => by
  have hku : k < us.length := by rw [hr.1]; exact hk
  have hn : us.length = n := by
    rcases h.2 with ⟨e, h0⟩ | ⟨g, cap, cur, e, _⟩
    · injection e with _ e2 _; omega
    · injection e with _ e2 _; exact e2.symm
  subst hn
  have hrd := Reads.of_own h
  obtain ⟨ad, u, e1, e2, e3, e4⟩ := Reads.at_ (k := k) hrd (by omega)
  have e5 : u = us[k] := by
    rw [List.getElem?_eq_getElem hku] at e3
    injection e3 with e3
    exact e3.symm
  obtain ⟨A1, n1, c1, e6, e7, e8, e9, e10⟩ := (hr.2 k hku hk).shapeN
  have hm : maxLen < 9223372036854775808 := by simp [maxLen]
  exact ⟨ad, A1, n1, c1, e1, by rw [block_of_add]; exact e2, by rw [e4, e5, e6], e7, by omega, e10, hi _ (List.getElem_mem hk)⟩
theorem ownR_shape {w : World} {base : Nat} {v : Value} {us : List Value} (h : OwnR w base v us) : ∃ A n c, v = .slice A n c ∧ us.length = n ∧ n ≤ c := by
  rcases h.2 with ⟨rfl, h0⟩ | ⟨g, cap, cur, rfl, _, _, h1, _⟩
  · exact ⟨none, 0, 0, rfl, h0, Nat.le_refl _⟩
  · exact ⟨_, _, _, rfl, rfl, h1⟩

/-- '.slice A n c' came in and reads as rows -/
structure ArgM (w : World) (A : Option Addr) (n c : Nat) (ts : List (List Int)) : Prop where
  len : ts.length = n
  cap : n ≤ c
  max : c ≤ 9223372036854775807
  tb : TB w A ts
theorem ArgM.nil (w : World) : ArgM w none 0 0 [] := ⟨rfl, Nat.le_refl _, by omega, fun k hk => absurd hk (by simp)⟩
theorem ArgM.mk_ {w : World} {a : Addr} {len cap : Nat} {A : Nat → Option Addr} {L C : Nat → Nat} {Z : Nat → List Int} (hl : len ≤ cap) (hm : cap ≤ maxLen)
    (h : ∀ r, r < cap → w.cell? (a.add r) = some (.slice (A r) (L r) (C r)) ∧ L r ≤ C r ∧ C r ≤ maxLen ∧ (Z r).length = C r ∧ (∀ n ∈ Z r, (Lit.int .i64 n).wf = true) ∧ (A r = none → C r = 0) ∧
        ∀ a', A r = some a' → 0 ≤ a'.block ∧ ∀ c, c < C r → w.cell? (a'.add c) = some (.int .i64 ((Z r).getD c 0))) :
    ArgM w (some a) len cap ((List.range len).map fun r => (Z r).take (L r)) := by
  have hmm : maxLen ≤ 9223372036854775807 := by simp [maxLen]
  refine ⟨by simp, hl, by omega, fun k hk => ?_⟩
  have hk' : k < len := by simpa using hk
  obtain ⟨h1, h2, h3, h4, h5, h6, h7⟩ := h k (by omega)
  have e : ((List.range len).map fun r => (Z r).take (L r))[k] = (Z k).take (L k) := by simp
  rw [e]
  have hlen : ((Z k).take (L k)).length = L k := by rw [List.length_take, h4]; omega
  refine ⟨a, A k, L k, C k, rfl, block_lt_of_cell h1, h1, hlen, by omega, ⟨by simp, fun hn => ?_⟩, fun x hx => i64_of_wf (h5 x (List.mem_of_mem_take hx))⟩
  rw [hlen] at hn
  cases hA : A k with
  | none => have := h6 hA; omega
  | some a' =>
    obtain ⟨_, h8⟩ := h7 a' hA
    have hc0 := h8 0 (by omega)
    refine ⟨a', rfl, ?_, fun j u hu => ?_⟩
    · have := block_lt_of_cell hc0
      rwa [block_of_add] at this
    · rw [List.getElem?_map] at hu
      cases hj : ((Z k).take (L k))[j]? with
      | none => rw [hj] at hu; cases hu
      | some x =>
        rw [hj] at hu
        injection hu with hu
        rw [List.getElem?_take] at hj
        split at hj
        · have hjl : j < (Z k).length := (List.getElem?_eq_some_iff.1 hj).1
          rw [h8 j (by omega), ← hu]
          simp [List.getD_eq_getElem?_getD, hj]
        · cases hj
end Go.Proofs.YtgmkcmahbefcoaaDoor

/- Walks: poly.at, each, Add, Sub. -/
set_option linter.unusedVariables false
namespace Go.Proofs.YtgmkcmahbefcoaaDoor
open Go.RowKit Zp

theorem pat_any (A : Option Addr) (m c : Nat) (xs : List Int) (hml : xs.length = m) (hx : m ≤ 9223372036854775807) (i : Nat) (hi : (i : Int) ≤ 9223372036854775807) (w : World) (hs : SL w A xs) :
    Calls Tryd.prog 122 #[.slice A m c, vi i] w fun e w' => e = .returned (vi (xs.getD i 0)) ∧ w = w' := by
  by_cases hk : i < m
  · have hkx : i < xs.length := by rw [hml]; exact hk
    obtain ⟨ad, rfl, _, hc⟩ := hs.at_ hkx
    have hr : xs.getD i 0 = xs[i] := by rw [List.getD_eq_getElem?_getD, List.getElem?_eq_getElem hkx]; rfl
    rw [← hr] at hc
    obtain ⟨x, hx'⟩ : ∃ x, x = xs.getD i 0 := ⟨_, rfl⟩
    rw [← hx'] at hc ⊢
    have HM := Lib.hid hml
    have HX := Lib.hid hx'
    clear hr hml hx'
    go_enter Tryd.func122, Tryd.ntmps122
    go_wp2
    go_ret
    exact ⟨rfl, rfl⟩
  · have hr : xs.getD i 0 = 0 := by rw [List.getD_eq_getElem?_getD, List.getElem?_eq_none (by omega)]; rfl
    have HR := Lib.hid hr
    have HM := Lib.hid hml
    clear hr hml
    go_enter Tryd.func122, Tryd.ntmps122
    go_wp2
    go_ret
    exact ⟨ret_int HR.out.symm, rfl⟩

theorem i64_getD {xs : List Int} (h : ∀ n ∈ xs, I64 n) (k : Nat) : I64 (xs.getD k 0) := by
  rw [List.getD_eq_getElem?_getD]
  cases hx : xs[k]? with
  | none => constructor <;> decide
  | some x => exact h x (List.mem_of_getElem? hx)

/-- a function that has a body is entered -/
theorem callFunc_enters {K : Nat} {fn : Func} (hf : Tryd.prog.funcs[K]? = some fn) (hname : (fn.name == "runtime.NumGoroutine") = false) (hb : fn.body.isSome = true) (args : Array Value) (w : World) :
    (callFunc K args).run Tryd.prog w = .ok (.enter K args) w := by
  have h1 : fn.name ≠ "runtime.NumGoroutine" := by simpa using hname
  obtain ⟨c, hc⟩ := Option.isSome_iff_exists.1 hb
  simp [callFunc, hf, h1, hc]

def EachRel {p : Nat} [NeZero p] (l : List (Fin p)) (n : Nat) (w : World) (v i : Value) (wr : World) : Prop := ∃ k g : Nat, k ≤ n ∧ i = vi k ∧ v = .slice (some ⟨g, 0, none⟩) k n ∧ Own wr w.heap.size v ((fvs l).take k) ∧ Below w.heap.size w wr

set_option maxRecDepth 100000 in
set_option maxHeartbeats 1000000 in
theorem each_any (p : Nat) [NeZero p] (hp2 : p ≤ 2147483647) (K : Nat) (hK : ∀ (args : Array Value) (w : World), (callFunc K args).run Tryd.prog w = .ok (.enter K args) w) (op : Fin p → Fin p → Fin p) (b : Nat)
    (hop : ∀ (W : World) (m n : Int), I64 m → I64 n → W.cell? ⟨b, 0, none⟩ = some (vi p) → Calls Tryd.prog K #[.pointer (some ⟨b, 0, none⟩), vi m, vi n] W fun e w' => e = .returned (vi (fv (op (el p m) (el p n)))) ∧ ∃ k, w' = W.drewN k)
    (A B : Option Addr) (na ca nb cb : Nat) (xs ys : List Int) (hna : xs.length = na) (hnb : ys.length = nb) (hxs : ∀ n ∈ xs, I64 n) (hys : ∀ n ∈ ys, I64 n) (hrx : na * 8 ≤ 281474976710656) (hry : nb * 8 ≤ 281474976710656)
    (w : World) (hc : w.cell? ⟨b, 0, none⟩ = some (vi p)) (hsx : SL w A xs) (hsy : SL w B ys) :
    Calls Tryd.prog 112 #[.pointer (some ⟨b, 0, none⟩), .func (.func K) #[.pointer (some ⟨b, 0, none⟩)] #[], .slice A na ca, .slice B nb cb] w fun e w' => Made (fvs (trimL (tab (max na nb) (fun i => op (co (els p xs) i) (co (els p ys) i))))) w e w' := by
  have hbl : b < w.heap.size := block_lt_of_cell hc
  obtain ⟨n, hn⟩ : ∃ n, n = max na nb := ⟨_, rfl⟩
  rw [← hn]
  have hn8 : n * 8 ≤ 281474976710656 := by omega
  have hmk := make_ints0 n hn8
  obtain ⟨l, hl⟩ : ∃ l, l = tab n (fun i => op (co (els p xs) i) (co (els p ys) i)) := ⟨_, rfl⟩
  rw [← hl]
  have hll : l.length = n := by rw [hl, tab_length]
  have HL := Lib.hid hl
  have HN := Lib.hid hn
  have HLL := Lib.hid hll
  have HNA := Lib.hid hna
  have HNB := Lib.hid hnb
  have HOP := Lib.hid hop
  clear hl hn hll hna hnb hop
  have hcase : (na < nb ∧ n = nb) ∨ (¬ na < nb ∧ n = na) := by have := HN.out; omega
  have hna9 : na ≤ 9223372036854775807 := by omega
  have hnb9 : nb ≤ 9223372036854775807 := by omega
  rcases hcase with ⟨hlt, hnn⟩ | ⟨hlt, hnn⟩
  · obtain rfl : n = nb := hnn
    go_enter Tryd.func112, Tryd.ntmps112
    go_wp2
    go_loopw [9, 22] (fun v i wr => EachRel l n w v i wr) (fun _ i _ => n - (intOf i).toNat)
    case atStart => exact ⟨0, w.heap.size, Nat.zero_le _, rfl, rfl, own_made0 w _ n (Nat.le_refl _) hn8, (Below.refl _ _).alloc (Nat.le_refl _) _⟩
    case round =>
      obtain ⟨k, g, hk, rfl, rfl, hown, hb⟩ := hrel
      have hcr : wr.cell? ⟨b, 0, none⟩ = some (vi p) := (hb.cell (p := ⟨b, 0, none⟩) hbl).trans hc
      by_cases hkn : k < n
      · have hsx' := hsx.below hb
        have hsy' := hsy.below hb
        have h2 := map_take_succ fv l k (by rw [HLL.out]; exact hkn)
        have h3 : l[k]'(by rw [HLL.out]; exact hkn) = op (el p (xs.getD k 0)) (el p (ys.getD k 0)) := by
          rw [← co_of_lt (by rw [HLL.out]; exact hkn), HL.out, co_tab, if_pos hkn, co_els, co_els]
        rw [h3] at h2
        obtain ⟨x, hx⟩ : ∃ x, x = xs.getD k 0 := ⟨_, rfl⟩
        obtain ⟨y, hy⟩ : ∃ y, y = ys.getD k 0 := ⟨_, rfl⟩
        have ix : I64 x := by rw [hx]; exact i64_getD hxs k
        have iy : I64 y := by rw [hy]; exact i64_getD hys k
        have hatx := fun (W : World) hs => pat_any A _ ca xs HNA.out hna9 k (by omega) W hs
        have haty := fun (W : World) hs => pat_any B _ cb ys HNB.out hnb9 k (by omega) W hs
        rw [← hx] at hatx h2
        rw [← hy] at haty h2
        have hopc := fun (W : World) hc => HOP.out W x y ix iy hc
        obtain ⟨Z, hZ⟩ : ∃ Z, Z = op (el p x) (el p y) := ⟨_, rfl⟩
        rw [← hZ] at hopc h2
        have hlk : ((fvs l).take k).length = k := by rw [List.length_take, List.length_map, HLL.out]; omega
        have HLK := Lib.hid hlk
        have H2 := Lib.hid h2
        have HATX := Lib.hid hatx
        have HATY := Lib.hid haty
        have HOPC := Lib.hid hopc
        clear hatx haty hopc hx hy hZ h2 h3 hlk
        go_wp2_with fail
        refine (HATX.out _ hsx').mono ?_
        rintro e w' ⟨rfl, rfl⟩
        go_wp2_with fail
        refine (HATY.out _ hsy').mono ?_
        rintro e w' ⟨rfl, rfl⟩
        go_wp2_with fail
        refine (HOPC.out _ hcr).mono ?_
        rintro e w' ⟨rfl, k5, rfl⟩
        have hown' : Own (wr.drewN k5) w.heap.size (.slice (some ⟨g, 0, none⟩) k n) ((fvs l).take k) := hown
        go_wp2_with (at_builtin; refine wpList_app1_fits (wr.drewN k5) (fv Z) rfl _ _ rfl w.heap.size g k n _ rfl rfl hown' HLK.out.symm hkn ?_; intro w1 hown1 hg)
        go_roundw
        case rel => exact ⟨k + 1, g, by omega, by go_num, rfl, by rw [← H2.out]; exact hown1, (below_drewN hb k5).grown hg hb.size (fun j hj => by injection hj with hj; subst hj; exact (hown.lt g rfl).1)⟩
        case measure => simp [intOf]; omega
      · obtain rfl : k = n := by omega
        have hLn : (fvs l).length = k := by rw [List.length_map, HLL.out]
        rw [List.take_of_length_le (by rw [hLn]; exact Nat.le_refl _)] at hown
        have hsl : SL wr (some ⟨g, 0, none⟩) (fvs l) := by
          obtain ⟨A1, c1, h1, h2⟩ := hown.len
          injection h1 with h1 _ _
          rw [h1]; exact h2
        have ht := trim_any p hp2 b (some ⟨g, 0, none⟩) k (fvs l) (i64_fvs l hp2) (by rw [hLn]; exact hn8) (by rw [hLn]; exact Nat.le_refl _) wr hcr hsl
        rw [hLn, els_fvs] at ht
        have HT := Lib.hid ht
        clear ht hLn
        go_wp2_with fail
        refine (HT.out).mono ?_
        rintro e w4 ⟨v4, rfl, hown4, hb4⟩
        go_wp2
        go_ret
        exact ⟨v4, rfl, hown4.more hb.size, hb.trans (hb4.mono hb.size)⟩
  · obtain rfl : n = na := hnn
    go_enter Tryd.func112, Tryd.ntmps112
    go_wp2
    go_loopw [9, 22] (fun v i wr => EachRel l n w v i wr) (fun _ i _ => n - (intOf i).toNat)
    case atStart => exact ⟨0, w.heap.size, Nat.zero_le _, rfl, rfl, own_made0 w _ n (Nat.le_refl _) hn8, (Below.refl _ _).alloc (Nat.le_refl _) _⟩
    case round =>
      obtain ⟨k, g, hk, rfl, rfl, hown, hb⟩ := hrel
      have hcr : wr.cell? ⟨b, 0, none⟩ = some (vi p) := (hb.cell (p := ⟨b, 0, none⟩) hbl).trans hc
      by_cases hkn : k < n
      · have hsx' := hsx.below hb
        have hsy' := hsy.below hb
        have h2 := map_take_succ fv l k (by rw [HLL.out]; exact hkn)
        have h3 : l[k]'(by rw [HLL.out]; exact hkn) = op (el p (xs.getD k 0)) (el p (ys.getD k 0)) := by
          rw [← co_of_lt (by rw [HLL.out]; exact hkn), HL.out, co_tab, if_pos hkn, co_els, co_els]
        rw [h3] at h2
        obtain ⟨x, hx⟩ : ∃ x, x = xs.getD k 0 := ⟨_, rfl⟩
        obtain ⟨y, hy⟩ : ∃ y, y = ys.getD k 0 := ⟨_, rfl⟩
        have ix : I64 x := by rw [hx]; exact i64_getD hxs k
        have iy : I64 y := by rw [hy]; exact i64_getD hys k
        have hatx := fun (W : World) hs => pat_any A _ ca xs HNA.out hna9 k (by omega) W hs
        have haty := fun (W : World) hs => pat_any B _ cb ys HNB.out hnb9 k (by omega) W hs
        rw [← hx] at hatx h2
        rw [← hy] at haty h2
        have hopc := fun (W : World) hc => HOP.out W x y ix iy hc
        obtain ⟨Z, hZ⟩ : ∃ Z, Z = op (el p x) (el p y) := ⟨_, rfl⟩
        rw [← hZ] at hopc h2
        have hlk : ((fvs l).take k).length = k := by rw [List.length_take, List.length_map, HLL.out]; omega
        have HLK := Lib.hid hlk
        have H2 := Lib.hid h2
        have HATX := Lib.hid hatx
        have HATY := Lib.hid haty
        have HOPC := Lib.hid hopc
        clear hatx haty hopc hx hy hZ h2 h3 hlk
        go_wp2_with fail
        refine (HATX.out _ hsx').mono ?_
        rintro e w' ⟨rfl, rfl⟩
        go_wp2_with fail
        refine (HATY.out _ hsy').mono ?_
        rintro e w' ⟨rfl, rfl⟩
        go_wp2_with fail
        refine (HOPC.out _ hcr).mono ?_
        rintro e w' ⟨rfl, k5, rfl⟩
        have hown' : Own (wr.drewN k5) w.heap.size (.slice (some ⟨g, 0, none⟩) k n) ((fvs l).take k) := hown
        go_wp2_with (at_builtin; refine wpList_app1_fits (wr.drewN k5) (fv Z) rfl _ _ rfl w.heap.size g k n _ rfl rfl hown' HLK.out.symm hkn ?_; intro w1 hown1 hg)
        go_roundw
        case rel => exact ⟨k + 1, g, by omega, by go_num, rfl, by rw [← H2.out]; exact hown1, (below_drewN hb k5).grown hg hb.size (fun j hj => by injection hj with hj; subst hj; exact (hown.lt g rfl).1)⟩
        case measure => simp [intOf]; omega
      · obtain rfl : k = n := by omega
        have hLn : (fvs l).length = k := by rw [List.length_map, HLL.out]
        rw [List.take_of_length_le (by rw [hLn]; exact Nat.le_refl _)] at hown
        have hsl : SL wr (some ⟨g, 0, none⟩) (fvs l) := by
          obtain ⟨A1, c1, h1, h2⟩ := hown.len
          injection h1 with h1 _ _
          rw [h1]; exact h2
        have ht := trim_any p hp2 b (some ⟨g, 0, none⟩) k (fvs l) (i64_fvs l hp2) (by rw [hLn]; exact hn8) (by rw [hLn]; exact Nat.le_refl _) wr hcr hsl
        rw [hLn, els_fvs] at ht
        have HT := Lib.hid ht
        clear ht hLn
        go_wp2_with fail
        refine (HT.out).mono ?_
        rintro e w4 ⟨v4, rfl, hown4, hb4⟩
        go_wp2
        go_ret
        exact ⟨v4, rfl, hown4.more hb.size, hb.trans (hb4.mono hb.size)⟩
theorem tab_sub {p : Nat} [NeZero p] (na nb : Nat) (a b : List (Fin p)) (ha : a.length = na) (hb : b.length = nb) : tab (max na nb) (fun i => co a i - co b i) = subL a b := by rw [subL, ha, hb]
theorem psub_any (p : Nat) [NeZero p] (hp2 : p ≤ 2147483647) (b : Nat)
    (A B : Option Addr) (na ca nb cb : Nat) (xs ys : List Int) (hna : xs.length = na) (hnb : ys.length = nb) (hxs : ∀ n ∈ xs, I64 n) (hys : ∀ n ∈ ys, I64 n) (hrx : na * 8 ≤ 281474976710656) (hry : nb * 8 ≤ 281474976710656)
    (w : World) (hc : w.cell? ⟨b, 0, none⟩ = some (vi p)) (hsx : SL w A xs) (hsy : SL w B ys) :
    Calls Tryd.prog 89 #[.pointer (some ⟨b, 0, none⟩), .slice A na ca, .slice B nb cb] w fun e w' => Made (fvs (trimL (subL (els p xs) (els p ys)))) w e w' := by
  have h := each_any p hp2 94 (callFunc_enters Tryd.func94 (by kernel_rfl) (by kernel_rfl)) (fun x y => x - y) b (fun W m n hm hn hc => (sub_any p hp2 b m n hm hn W hc).mono fun e w' ⟨h1, h2⟩ => ⟨h1, 0, h2.symm⟩) A B na ca nb cb xs ys hna hnb hxs hys hrx hry w hc hsx hsy
  rw [tab_sub na nb _ _ (by simpa using hna) (by simpa using hnb)] at h
  have H := Lib.hid h
  clear h hna hnb
  have hmf : ∀ (fn : Fn) (first cap : Array Value) (w : World), (Instr.makeFunc fn first cap).run Tryd.prog w = .ok (.func fn first cap) w := fun _ _ _ _ => rfl
  go_enter Tryd.func89, Tryd.ntmps89
  go_wp2_with fail
  refine (H.out).mono ?_
  rintro e w1 ⟨v, rfl, hown, hb⟩
  go_wp2
  go_ret
  exact ⟨v, rfl, hown, hb⟩
end Go.Proofs.YtgmkcmahbefcoaaDoor

/- Walks: sums.checked. -/
set_option linter.unusedVariables false
namespace Go.Proofs.YtgmkcmahbefcoaaDoor
open Go.RowKit Zp

theorem varsI_I64 (n : Nat) : I64 (varsI n) := by
  by_cases h : IsCube n
  · obtain ⟨v, hv⟩ := h
    rw [varsI_of hv]
    have := hv.1
    constructor <;> omega
  · rw [varsI_no h]; constructor <;> decide
theorem variables_any (A : Option Addr) (n cap : Nat) (hn : n < 9223372036854775808) (w : World) :
    Calls Tryd.prog 69 #[.slice A n cap] w fun e w' => e = .returned (vi (varsI n)) ∧ w = w' := by
  by_cases h : IsCube n
  · obtain ⟨v, hv⟩ := h
    rw [varsI_of hv]
    exact variables_yes A n cap v hv w
  · rw [varsI_no h]
    exact variables_no A n cap hn h w

set_option maxRecDepth 100000 in
theorem chk1_any (A : Option Addr) (n c : Nat) (hn : n < 9223372036854775808) (V : Nat) (v : Int) (hv : I64 v) (w : World) (hcV : w.cell? ⟨V, 0, none⟩ = some (vi v)) :
    Calls Tryd.prog 70 #[.slice A n c, .pointer (some ⟨V, 0, none⟩)] w fun e w' => e = .returned (.bool (varsI n != v)) ∧ ∃ k, w' = w.drewN k := by
  have hvar := Lib.hid (fun W => variables_any A n c hn W)
  obtain ⟨u, hu⟩ : ∃ u, u = varsI n := ⟨_, rfl⟩
  rw [← hu] at hvar ⊢
  clear hu
  go_enter Tryd.func70, Tryd.ntmps70
  go_wp2
  go_quiet ((go_at_call 69; exact quiet_eq (hvar.out _)))
  go_wp2
  go_ret
  exact ⟨rfl, _, rfl⟩

set_option maxRecDepth 100000 in
set_option maxHeartbeats 1000000 in
theorem indexf_any (A : Option Addr) (d c : Nat) (ts : List (List Int)) (hd : ts.length = d) (hd2 : d ≤ 4) (V : Nat) (v : Int) (hv : I64 v) (w : World) (hcV : w.cell? ⟨V, 0, none⟩ = some (vi v)) (hs : TB w A ts) :
    Calls Tryd.prog 75 #[.slice A d c, .func (.func 70) #[] #[.pointer (some ⟨V, 0, none⟩)]] w fun e w' => (∃ r, e = .returned (vi r) ∧ ((0 ≤ r ∧ ¬ ∀ t ∈ ts, varsI t.length = v) ∨ (r < 0 ∧ ∀ t ∈ ts, varsI t.length = v))) ∧ ∃ k, w' = w.drewN k := by
  have HD := Lib.hid hd
  have hK := callFunc_enters Tryd.func70 (by kernel_rfl) (by kernel_rfl)
  clear hd
  go_enter Tryd.func75, Tryd.ntmps75
  go_wp2
  go_loopw [8] (fun i wr => ∃ k m : Nat, k ≤ d ∧ i = vi k ∧ (∀ j (hj : j < ts.length), j < k → varsI ts[j].length = v) ∧ wr = w.drewN m) (fun i _ => d - (intOf i).toNat)
  case atStart => exact ⟨0, 0, Nat.zero_le _, rfl, fun j _ h => absurd h (by omega), rfl⟩
  case round =>
    obtain ⟨k, m, hk, rfl, hall, rfl⟩ := hrel
    have HALL := Lib.hid hall
    clear hall
    by_cases hkd : k < d
    · have hkt : k < ts.length := by rw [HD.out]; exact hkd
      obtain ⟨a0, A1, n1, c1, rfl, z1, hc1, hl1, hb1, z2, z3⟩ := hs k hkt
      have hc1' : (w.drewN m).cell? (a0.add k) = some (.slice A1 n1 c1) := hc1
      have hcall := chk1_any A1 n1 c1 hb1 V v hv (w.drewN m) hcV
      have HL := Lib.hid hl1
      cases hq : (varsI n1 != v)
      · rw [hq] at hcall
        have hq' : varsI n1 = v := by simpa using hq
        have HQ := Lib.hid hq'
        have HC := Lib.hid hcall
        clear hl1 hq hq' hcall z1 z2 z3
        go_wp2_with fail
        refine (HC.out).mono ?_
        rintro e w' ⟨rfl, m2, rfl⟩
        go_wp2
        go_roundw
        case rel =>
          refine ⟨k + 1, m + m2, by omega, by go_num, fun j hj hlt => ?_, rfl⟩
          by_cases e : j = k
          · subst e; rw [HL.out, HQ.out]
          · exact HALL.out j hj (by omega)
        case measure => simp [intOf]; omega
      · rw [hq] at hcall
        have hq' : ¬ varsI n1 = v := by simpa using hq
        have HQ := Lib.hid hq'
        have HC := Lib.hid hcall
        clear hl1 hq hq' hcall z1 z2 z3
        go_wp2_with fail
        refine (HC.out).mono ?_
        rintro e w' ⟨rfl, m2, rfl⟩
        go_wp2
        go_ret
        exact ⟨⟨k, rfl, .inl ⟨by omega, fun h => HQ.out (by rw [← HL.out]; exact h _ (List.getElem_mem hkt))⟩⟩, m + m2, rfl⟩
    · obtain rfl : k = d := by omega
      go_wp2
      go_ret
      refine ⟨⟨-1, rfl, .inr ⟨by omega, fun t ht => ?_⟩⟩, _, rfl⟩
      obtain ⟨j, hj, rfl⟩ := List.getElem_of_mem ht
      exact HALL.out j hj (by rw [← HD.out]; exact hj)
end Go.Proofs.YtgmkcmahbefcoaaDoor

/- Walks: sums.checked, Total. -/
set_option linter.unusedVariables false
namespace Go.Proofs.YtgmkcmahbefcoaaDoor
open Go.RowKit Zp

theorem varsI_eq {n v : Nat} (h : varsI n = (v : Int)) : Cube n v := by
  by_cases hi : IsCube n
  · obtain ⟨u, hu⟩ := hi
    rw [varsI_of hu] at h
    obtain rfl : u = v := by omega
    exact hu
  · rw [varsI_no hi] at h; omega
theorem cell_new1 (w : World) (v : Value) (t : TypeId) : (w.alloc (.cells #[v] t)).cell? ⟨w.heap.size, 0, none⟩ = some v := by
  simp
/-- all tables have v variables -/
def Over (ts : List (List Int)) (v : Nat) : Prop := ∀ t ∈ ts, Cube t.length v

set_option maxRecDepth 100000 in
theorem containsf_any (A : Option Addr) (d c : Nat) (ts : List (List Int)) (hd : ts.length = d) (hd2 : d ≤ 4) (V : Nat) (v : Int) (hv : I64 v) (w : World) (hcV : w.cell? ⟨V, 0, none⟩ = some (vi v)) (hs : TB w A ts) (r : Bool) (hr : r = true ↔ ¬ ∀ t ∈ ts, varsI t.length = v) :
    Calls Tryd.prog 42 #[.slice A d c, .func (.func 70) #[] #[.pointer (some ⟨V, 0, none⟩)]] w fun e w' => e = .returned (.bool r) ∧ ∃ k, w' = w.drewN k := by
  have hix := Lib.hid (indexf_any A d c ts hd hd2 V v hv w hcV hs)
  have HR := Lib.hid hr
  clear hd hr
  go_enter Tryd.func42, Tryd.ntmps42
  go_wp2_with fail
  refine (hix.out).mono ?_
  rintro e w' ⟨⟨q, rfl, hq⟩, m, rfl⟩
  rcases hq with ⟨h0, hq⟩ | ⟨h0, hq⟩
  · have hb := HR.out.2 hq
    clear hq
    go_wp2
    go_ret
    exact ⟨ret_bool (by first | (rw [hb]; done) | (rw [hb]; rfl) | (rw [hb]; simp; omega)), _, rfl⟩
  · have hb : r = false := by
      cases r
      · rfl
      · exact absurd hq (HR.out.1 rfl)
    clear hq
    go_wp2
    go_ret
    exact ⟨ret_bool (by first | (rw [hb]; done) | (rw [hb]; rfl) | (rw [hb]; simp; omega)), _, rfl⟩

theorem checked_d (A : Option Addr) (d c : Nat) (hd : d < 9223372036854775808) (h : d = 0 ∨ 4 < d) (w : World) :
    Calls Tryd.prog 31 #[.slice A d c] w fun e w' => e = NoInt 2 ∧ w = w' := by
  rcases h with h | h
  · subst h
    go_enter Tryd.func31, Tryd.ntmps31
    go_wp2
    go_ret2
    exact ⟨rfl, rfl⟩
  · go_enter Tryd.func31, Tryd.ntmps31
    go_wp2
    go_ret2
    exact ⟨rfl, rfl⟩

set_option maxRecDepth 100000 in
set_option maxHeartbeats 1000000 in
theorem checked_yes (A : Option Addr) (d c : Nat) (ts : List (List Int)) (hd : ts.length = d) (hd1 : 1 ≤ d) (hd2 : d ≤ 4) (v : Nat) (hv : Over ts v) (w : World) (hs : TB w A ts) :
    Calls Tryd.prog 31 #[.slice A d c] w fun e w' => GivesI (v : Int) w e w' := by
  have hv12 : v ≤ 12 := (hv _ (List.getElem_mem (show 0 < ts.length by omega))).1
  have hvI : I64 (v : Int) := by constructor <;> omega
  obtain ⟨a0, A0, n0, c0, rfl, z1, hc0, hl0, hb0, z2, z3⟩ := hs 0 (by omega)
  have hc00 : w.cell? a0 = some (.slice A0 n0 c0) := by
    have e : a0.add 0 = a0 := by cases a0; simp [Addr.add]
    rw [← e]; exact hc0
  have hcu : Cube n0 v := by rw [← hl0]; exact hv _ (List.getElem_mem _)
  have hvar := Lib.hid (fun W => variables_yes A0 n0 c0 v hcu W)
  have hall : ∀ t ∈ ts, varsI t.length = (v : Int) := fun t ht => varsI_of (hv t ht)
  have hcf := Lib.hid (fun V W hcV hsW => containsf_any (some a0) d c ts hd hd2 V (v : Int) hvI W hcV hsW false (Iff.intro (fun h => Bool.noConfusion h) (fun h => absurd hall h)))
  have h1 : ¬ (d : Int) < 1 := by omega
  clear z1 z2 z3 hc0 hl0 hcu hv hall hd
  go_enter Tryd.func31, Tryd.ntmps31
  go_wp2_with fail
  refine (hvar.out _).mono ?_
  rintro e w' ⟨rfl, rfl⟩
  go_wp2_with fail
  have hba : Below w.heap.size w (w.alloc (.cells #[vi v] 3)) := (Below.refl _ _).alloc (Nat.le_refl _) _
  refine (hcf.out _ _ (cell_new1 _ _ _) (hs.below hba)).mono ?_
  rintro e w' ⟨rfl, m, rfl⟩
  have hcV : ((w.alloc (.cells #[vi v] 3)).drewN m).cell? ⟨w.heap.size, 0, none⟩ = some (vi v) := cell_new1 _ _ _
  go_wp2
  go_ret2
  exact ⟨rfl, below_drewN hba m⟩

set_option maxRecDepth 100000 in
set_option maxHeartbeats 1000000 in
theorem checked_no (A : Option Addr) (d c : Nat) (ts : List (List Int)) (hd : ts.length = d) (hd1 : 1 ≤ d) (hd2 : d ≤ 4) (hv : ¬ ∃ v, Over ts v) (w : World) (hs : TB w A ts) :
    Calls Tryd.prog 31 #[.slice A d c] w fun e w' => e = NoInt 2 ∧ Below w.heap.size w w' := by
  obtain ⟨a0, A0, n0, c0, rfl, z1, hc0, hl0, hb0, z2, z3⟩ := hs 0 (by omega)
  have hc00 : w.cell? a0 = some (.slice A0 n0 c0) := by
    have e : a0.add 0 = a0 := by cases a0; simp [Addr.add]
    rw [← e]; exact hc0
  have h1 : ¬ (d : Int) < 1 := by omega
  by_cases hi : IsCube n0
  · obtain ⟨v, hcu⟩ := hi
    have hv12 := hcu.1
    have hvI : I64 (v : Int) := by constructor <;> omega
    have hvar := Lib.hid (fun W => variables_yes A0 n0 c0 v hcu W)
    have hall : ¬ ∀ t ∈ ts, varsI t.length = (v : Int) := fun h => hv ⟨v, fun t ht => varsI_eq (h t ht)⟩
    have hcf := Lib.hid (fun V W hcV hsW => containsf_any (some a0) d c ts hd hd2 V (v : Int) hvI W hcV hsW true (Iff.intro (fun _ => hall) (fun _ => rfl)))
    clear z1 z2 z3 hc0 hl0 hcu hv hall hd
    go_enter Tryd.func31, Tryd.ntmps31
    go_wp2_with fail
    refine (hvar.out _).mono ?_
    rintro e w' ⟨rfl, rfl⟩
    go_wp2_with fail
    have hba : Below w.heap.size w (w.alloc (.cells #[vi v] 3)) := (Below.refl _ _).alloc (Nat.le_refl _) _
    refine (hcf.out _ _ (cell_new1 _ _ _) (hs.below hba)).mono ?_
    rintro e w' ⟨rfl, m, rfl⟩
    go_wp2
    go_ret2
    exact ⟨rfl, below_drewN hba m⟩
  · have hvar := Lib.hid (fun W => variables_no A0 n0 c0 hb0 hi W)
    clear z1 z2 z3 hc0 hl0 hv hi hd
    go_enter Tryd.func31, Tryd.ntmps31
    go_wp2_with fail
    refine (hvar.out _).mono ?_
    rintro e w' ⟨rfl, rfl⟩
    go_wp2
    go_ret2
    exact ⟨rfl, (Below.refl _ w).alloc (Nat.le_refl _) _⟩
end Go.Proofs.YtgmkcmahbefcoaaDoor

/- Plain and memory: tables Fixed; what a round tells, as lists; rows of one's own. -/
set_option linter.unusedVariables false
namespace Go.Proofs.YtgmkcmahbefcoaaDoor
open Go.RowKit Zp


/-- the tables with their first variable let be r, as lists -/
def fixI (q h : Nat) [NeZero q] (ts : List (List Int)) (d : Nat) (r : Fin q) : List (List Int) := (List.range d).map fun j => fvs (fixL h (tabOf q ts j) r)
theorem fixI_length (q h : Nat) [NeZero q] (ts : List (List Int)) (d : Nat) (r : Fin q) : (fixI q h ts d r).length = d := by simp [fixI]
theorem fixI_take (q h : Nat) [NeZero q] (ts : List (List Int)) (d : Nat) (r : Fin q) (k : Nat) (hk : k < d) : (fixI q h ts d r).take k ++ [fvs (fixL h (tabOf q ts k) r)] = (fixI q h ts d r).take (k + 1) := by
  rw [List.take_succ_eq_append_getElem (by rw [fixI_length]; exact hk)]; simp [fixI]
theorem fixI_over (q u : Nat) [NeZero q] (ts : List (List Int)) (d : Nat) (r : Fin q) (hu : u ≤ 12) : Over (fixI q (2 ^ u) ts d r) u := fun l hl => by
  obtain ⟨j, _, rfl⟩ := List.mem_map.1 hl
  exact ⟨hu, by rw [List.length_map, fixL_length]⟩
theorem fixI_i64 (q h : Nat) [NeZero q] (hq : q ≤ 2147483647) (ts : List (List Int)) (d : Nat) (r : Fin q) : ∀ l ∈ fixI q h ts d r, ∀ x ∈ l, I64 x := fun l hl => by
  obtain ⟨j, _, rfl⟩ := List.mem_map.1 hl
  exact fun x hx => by obtain ⟨y, _, rfl⟩ := List.mem_map.1 hx; exact i64_fv _ hq
theorem fixI_tot (q h : Nat) [NeZero q] (ts : List (List Int)) (d : Nat) (r : Fin q) : totP d h (tabOf q (fixI q h ts d r)) = totP d h (fixT h (tabOf q ts) r) := by
  refine sumT_congr fun i _ => prodT_congr fun j hj => ?_
  have e : tabOf q (fixI q h ts d r) j = fixL h (tabOf q ts j) r := by
    unfold tabOf fixI
    rw [List.getD_eq_getElem?_getD, List.getElem?_map, List.getElem?_range hj]
    simp only [Option.map_some, Option.getD_some]
    rw [els_fvs]
    rfl
  rw [e]; rfl

theorem OwnR.below {w w' : World} {base : Nat} {v : Value} {us : List Value} (h : OwnR w base v us) (hb : Below w.heap.size w w') : OwnR w' base v us := by
  rcases h.2 with h0 | ⟨g, cap, cur, e, h1, hg, h2⟩
  · exact ⟨h.1, .inl h0⟩
  · have hlt : g < w.heap.size := (World.ownsRow.lt h g (by rw [e]; rfl)).2
    exact ⟨h.1, .inr ⟨g, cap, cur, e, h1, (hb.block g hlt).trans hg, h2⟩⟩
theorem Fld.drewR {w : World} {S b p : Nat} [NeZero p] (h : Fld w S b p) : Fld w.drew S b p := ⟨h.prime, h.three, h.max, h.lt, h.le, h.c0, h.c1, h.c2⟩
/-- rows of one's own are made -/
def MadeRows (ls : List (List Int)) (w : World) (e : Ending) (w' : World) : Prop :=
  ∃ v us, e = .returned v ∧ OwnR w' w.heap.size v us ∧ RowsOwn w' w.heap.size us ls ∧ Below w.heap.size w w'
def FixRel (q h : Nat) [NeZero q] (ts : List (List Int)) (d : Nat) (r : Fin q) (w4 : World) (v i : Value) (wr : World) : Prop :=
  ∃ (k : Nat) (us : List Value), k ≤ d ∧ i = vi k ∧ OwnR wr w4.heap.size v us ∧ RowsOwn wr w4.heap.size us ((fixI q h ts d r).take k) ∧ Below w4.heap.size w4 wr
theorem fixI_len (q h : Nat) [NeZero q] (ts : List (List Int)) (d : Nat) (r : Fin q) : ∀ t ∈ fixI q h ts d r, t.length = h := fun l hl => by
  obtain ⟨j, _, rfl⟩ := List.mem_map.1 hl
  rw [List.length_map, fixL_length]
/-- the values of a round's polynomial at 0 .. d -/
def roundL (q h : Nat) [NeZero q] (ts : List (List Int)) (d : Nat) : List (Fin q) := (List.range (d + 1)).map fun (i : Nat) => totP d h (fixT h (tabOf q ts) (el q (i : Int)))
theorem roundL_length (q h : Nat) [NeZero q] (ts : List (List Int)) (d : Nat) : (roundL q h ts d).length = d + 1 := by simp [roundL]
theorem roundL_take (q h : Nat) [NeZero q] (ts : List (List Int)) (d k : Nat) (hk : k < d + 1) : (fvs (roundL q h ts d)).take k ++ [fv (totP d h (fixT h (tabOf q ts) (el q (k : Int))))] = (fvs (roundL q h ts d)).take (k + 1) := by
  rw [List.take_succ_eq_append_getElem (by rw [List.length_map, roundL_length]; exact hk)]; simp [roundL]
end Go.Proofs.YtgmkcmahbefcoaaDoor

/- Walks: sums.all, sums.round. -/
set_option linter.unusedVariables false
namespace Go.Proofs.YtgmkcmahbefcoaaDoor
open Go.RowKit Zp

/-- n rows of nothing, behind a name -/
def blanks (n : Nat) : Array Value := madeCells #[.slice none 0 0] n
theorem blanks_size (n : Nat) : (blanks n).size = n := size_madeCells _ _
theorem make_rows0 (c : Nat) (hc : c ≤ 65536) (w : World) :
    (Instr.makeSlice 22 (.int .i64 0) (vi c)).run Tryd.prog w = .ok (.slice (some ⟨w.heap.size, 0, none⟩) 0 c) (w.alloc (.cells (blanks c) 23)) := by
  obtain ⟨i0, hi, hz0, hz1, hz2⟩ := info_parts info_ints
  have h := run_make (P := Tryd.prog) w 22 23 i0 (.slice none 0 0) Tryd.underlying22 hi hz0 .i64 .i64 (0 : Nat) c (by omega) (by omega) (by rw [hz2]; omega) (by omega)
  rw [hz1, Int.toNat_natCast, Int.toNat_natCast, Nat.mul_one] at h
  exact h
set_option maxRecDepth 100000 in
set_option maxHeartbeats 1000000 in
theorem all_any (q S b : Nat) [NeZero q] (A : Option Addr) (d cap : Nat) (ts : List (List Int)) (hd : ts.length = d) (hd2 : d ≤ 4) (n h : Nat) (hn : ∀ t ∈ ts, t.length = n) (hn2 : n = 2 * h) (hn3 : n ≤ 65536) (r : Int) (hr : I64 r) (w : World) (F : Fld w S b q) (hs : TB w A ts) :
    Calls Tryd.prog 34 #[.pointer (some ⟨b, 0, none⟩), .slice A d cap, vi r] w fun e w' => MadeRows (fixI q h ts d (el q r)) w e w' := by
  have HD := Lib.hid hd
  have HN2 := Lib.hid hn2
  have HN := Lib.hid hn
  have hmk := make_rows0 d (by omega)
  have hb0 : Below w.heap.size w (w.alloc (.cells (blanks d) 23)) := (Below.refl _ _).alloc (Nat.le_refl _) _
  have ho0 : OwnR (w.alloc (.cells (blanks d) 23)) w.heap.size (.slice (some ⟨w.heap.size, 0, none⟩) 0 d) [] :=
    World.ownsRow_made w _ d (Nat.le_refl _) (by simp only [maxLen]; omega) (by rw [blanks_size, Nat.mul_one])
  have hr0 : RowsOwn (w.alloc (.cells (blanks d) 23)) w.heap.size [] [] := RowsOwn.nil _ _
  clear hd hn2 hn
  go_enter Tryd.func34, Tryd.ntmps34
  go_wp2
  go_loopw [7, 9, 15] (fun v _ i wr => FixRel q h ts d (el q r) w v i wr) (fun _ _ i _ => d - (intOf i).toNat)
  case atStart => exact ⟨0, [], Nat.zero_le _, rfl, ho0, hr0, hb0⟩
  case round =>
    obtain ⟨k, us, hk, rfl, hown, hrows, hb⟩ := hrel
    by_cases hkd : k < d
    · have hkt : k < ts.length := by rw [HD.out]; exact hkd
      obtain ⟨ad, A1, n1, c1, hA, hl, hc, hl1, h63, hs1, hi1⟩ := (hs.below hb) k hkt
      have hnn : n1 = n := by rw [← hl1]; exact HN.out _ (List.getElem_mem hkt)
      have FR := F.below hb F.le
      have hn16 : n1 ≤ 65536 := by omega
      have hfx := fun (W : World) (FW : Fld W S b q) (hW : SL W A1 ts[k]) => fixed_any q S b n1 h (.inl (by rw [hnn]; exact HN2.out)) hn16 A1 c1 ts[k] hl1 hi1 r hr W FW hW
      have htk : els q ts[k] = tabOf q ts k := by unfold tabOf; rw [List.getD_eq_getElem?_getD, List.getElem?_eq_getElem hkt]; rfl
      rw [htk] at hfx
      have hst := fixI_take q h ts d (el q r) k hkd
      have hlen := hrows.1
      rw [List.length_take, fixI_length] at hlen
      have hus : us.length = k := by omega
      have HFX := Lib.hid hfx
      have HST := Lib.hid hst
      have HUS := Lib.hid hus
      subst hA
      have i1 : (0 : Int) ≤ (k : Int) := by omega
      have i2 : (k : Int) < d := by omega
      clear hfx hst hlen hus htk hnn hl1
      go_wp2_with fail
      refine (HFX.out _ FR hs1).mono ?_
      rintro e w5 ⟨v5, rfl, hown5, hb5⟩
      obtain ⟨A5, n5, c5, rfl, hl5, hc5, _, _⟩ := hown5.shapeN
      have hb45 := hb.trans (hb5.mono hb.size)
      have hownR5 := OwnR.below hown hb5
      have hrows5 := (hrows.below hb5).snoc (Own.more hown5 hb.size)
      rw [HST.out] at hrows5
      have hsz := hb45.size
      clear hown hrows hown5 hl5 hc5
      go_wp2_with (at_builtin; refine wpList_appR w5 A5 n5 c5 rfl _ _ rfl w.heap.size _ us rfl rfl hownR5 (by rw [HUS.out]; omega) hsz ?_; intro v' w6 hg)
      go_roundw
      case rel => exact ⟨k + 1, us ++ [.slice A5 n5 c5], by omega, by go_num, hg.own, hg.rows hownR5 hrows5, hg.below hb45 hownR5 (Nat.le_refl _) hsz⟩
      case measure => simp [intOf]; omega
    · obtain rfl : k = d := by omega
      rw [List.take_of_length_le (by rw [fixI_length]; exact Nat.le_refl _)] at hrows
      go_wp2
      go_ret
      exact ⟨_, us, rfl, hown, hrows, hb⟩
set_option maxRecDepth 100000 in
set_option maxHeartbeats 1000000 in
theorem round_sum (q S b : Nat) [NeZero q] (A : Option Addr) (d cap : Nat) (ts : List (List Int)) (hd : ts.length = d) (hd1 : 1 ≤ d) (hd2 : d ≤ 4) (n h : Nat) (hn : ∀ t ∈ ts, t.length = n) (hn2 : n = 2 * h) (hn3 : n ≤ 65536) (w : World) (F : Fld w S b q) (hs : TB w A ts) :
    Calls Tryd.prog 33 #[.pointer (some ⟨b, 0, none⟩), .slice A d cap] w fun e w' => Made (fvs (roundL q h ts d)) w e w' := by
  have hq2 := F.two
  have hqm := F.max
  have HF := Lib.hid (fun r (hr : I64 r) W (FW : Fld W S b q) (hW : TB W A ts) => all_any q S b A d cap ts hd hd2 n h hn hn2 hn3 r hr W FW hW)
  have HTT := Lib.hid (fun r A2 c2 W (hcW : W.cell? ⟨b, 0, none⟩ = some (vi q)) (hW : TB W A2 (fixI q h ts d r)) => total_any q b hq2 hqm A2 d c2 (fixI q h ts d r) (fixI_length _ _ _ _ _) hd1 hd2 h (fixI_len _ _ _ _ _) W hcW hW)
  have HTK := Lib.hid (roundL_take q h ts d)
  have HII := Lib.hid (fun r => fixI_i64 q h hqm ts d r)
  have HIL := Lib.hid (fun r => fixI_length q h ts d r)
  have HTO := Lib.hid (fun r => fixI_tot q h ts d r)
  have HLL := Lib.hid (show (fvs (roundL q h ts d)).length = d + 1 by rw [List.length_map, roundL_length])
  generalize fvs (roundL q h ts d) = L at HTK HLL ⊢
  have hmk := make_ints0 (d + 1) (by omega)
  rw [show (((d + 1 : Nat)) : Int) = (d : Int) + 1 from rfl] at hmk
  have hb0 : Below w.heap.size w (w.alloc (.cells (zeros (d + 1)) 3)) := (Below.refl _ _).alloc (Nat.le_refl _) _
  have ho0 := own_made0 w w.heap.size (d + 1) (Nat.le_refl _) (by omega)
  clear hd hn hn2
  go_enter Tryd.func33, Tryd.ntmps33
  go_wp2
  go_loopw [5, 6, 14] (fun v _ i wr => ∃ k : Nat, k ≤ d + 1 ∧ i = vi k ∧ Own wr w.heap.size v (L.take k) ∧ Below w.heap.size w wr) (fun _ _ i _ => d + 1 - (intOf i).toNat)
  case atStart => exact ⟨0, Nat.zero_le _, rfl, ho0, hb0⟩
  case round =>
    obtain ⟨k, hk, rfl, hown, hb⟩ := hrel
    by_cases hkd : k ≤ d
    · have hf := fun W (FW : Fld W S b q) (hW : TB W A ts) => HF.out (k : Int) ⟨by omega, by omega⟩ W FW hW
      have HFK := Lib.hid hf
      have htb := hs.below hb
      have FR := F.below hb F.le
      have hlk : (L.take k).length < 17592186044416 := by have := List.length_take_le k L; omega
      have h2 := HTK.out k (by omega)
      have HLK := Lib.hid hlk
      have H2 := Lib.hid h2
      clear hf hlk h2
      go_wp2_with fail
      refine (HFK.out _ FR htb).mono ?_
      rintro e w2 ⟨v2, us, rfl, hownR, hrows, hb2⟩
      obtain ⟨A6, n6, c6, rfl, hl6, _⟩ := ownR_shape hownR
      have hl6' := hrows.1
      rw [HIL.out, hl6] at hl6'
      have htb2 := tb_own hownR hrows (HII.out _)
      have hown2 := hown.below hb2
      have hbw2 := hb.trans (hb2.mono hb.size)
      have FR2 := FR.below hb2 FR.le
      subst hl6'
      clear hownR hrows htb hown hb2 hl6
      have htt := HTT.out _ A6 c6 _ FR2.c0 htb2
      rw [HTO.out] at htt
      have HT2 := Lib.hid htt
      clear htt
      go_wp2_with fail
      refine (HT2.out).mono ?_
      rintro e w3 ⟨rfl, m3, rfl⟩
      have hown3 := hown2.drewN m3
      have hbw3 := below_drewN hbw2 m3
      go_wp2_with (at_builtin; refine wpList_app1 _ _ rfl _ _ rfl w.heap.size _ _ rfl rfl hown3 HLK.out hbw3.size ?_; intro v' w4 hg)
      go_roundw
      case rel => exact ⟨k + 1, by omega, by go_num, by rw [← H2.out]; exact hg.own, hg.below hbw3 hown3 (Nat.le_refl _) hbw3.size⟩
      case measure => simp [intOf]; omega
    · obtain rfl : k = d + 1 := by omega
      rw [List.take_of_length_le (by rw [HLL.out]; exact Nat.le_refl _)] at hown
      go_wp2
      go_ret
      exact ⟨_, rfl, hown, hb⟩
end Go.Proofs.YtgmkcmahbefcoaaDoor

/- The walk of sums.Make. -/
set_option linter.unusedVariables false
namespace Go.Proofs.YtgmkcmahbefcoaaDoor
open Go.RowKit Zp

/-- tables in memory, whose blocks are those of P -/
def TBP (w : World) (A0 : Option Addr) (ts : List (List Int)) (P : Nat → Prop) : Prop :=
  ∀ k (hk : k < ts.length), ∃ ad A n c, A0 = some ad ∧ P ad.block ∧ ad.block < w.heap.size ∧ w.cell? (ad.add k) = some (.slice A n c) ∧ ts[k].length = n ∧ n < 9223372036854775808 ∧ SL w A ts[k] ∧ (∀ a, A = some a → P a.block) ∧ ∀ x ∈ ts[k], I64 x
theorem TBP.tb {w : World} {A0 : Option Addr} {ts : List (List Int)} {P : Nat → Prop} (h : TBP w A0 ts P) : TB w A0 ts := fun k hk => by
  obtain ⟨ad, A, n, c, h1, _, h2, h3, h4, h5, h6, _, h7⟩ := h k hk
  exact ⟨ad, A, n, c, h1, by rw [block_of_add]; exact h2, h3, h4, h5, h6, h7⟩
theorem SL.keepP {w w' : World} {A : Option Addr} {xs : List Int} (h : SL w A xs) (hs : w.heap.size ≤ w'.heap.size) (hk : ∀ a, A = some a → w'.heap[a.block]? = w.heap[a.block]?) : SL w' A xs := by
  refine ⟨h.1, fun hn => ?_⟩
  obtain ⟨ad, e, hb, hc⟩ := h.2 hn
  exact ⟨ad, e, Nat.lt_of_lt_of_le hb hs, fun j u hu => (World.cell?_of_block (by rw [block_of_add]; exact hk ad e)).trans (hc j u hu)⟩
theorem TBP.keep {w w' : World} {A0 : Option Addr} {ts : List (List Int)} {P : Nat → Prop} (h : TBP w A0 ts P) (hs : w.heap.size ≤ w'.heap.size) (hk : ∀ x, P x → w'.heap[x]? = w.heap[x]?) : TBP w' A0 ts P := fun k hk' => by
  obtain ⟨ad, A, n, c, h1, h2, h3, h4, h5, h6, h7, h8, h9⟩ := h k hk'
  exact ⟨ad, A, n, c, h1, h2, Nat.lt_of_lt_of_le h3 hs, (World.cell?_of_block (by rw [block_of_add]; exact hk _ h2)).trans h4, h5, h6, h7.keepP hs (fun a e => hk _ (h8 a e)), h8, h9⟩
/-- the tables that came in -/
theorem TBP.of_tb {w : World} {A0 : Option Addr} {ts : List (List Int)} (h : TB w A0 ts) (hp : ∀ t ∈ ts, 0 < t.length) : TBP w A0 ts (fun x => x < w.heap.size) := fun k hk => by
  obtain ⟨ad, A, n, c, h1, h2, h3, h4, h5, h6, h7⟩ := h k hk
  refine ⟨ad, A, n, c, h1, by rw [block_of_add] at h2; exact h2, by rw [block_of_add] at h2; exact h2, h3, h4, h5, h6, fun a e => ?_, h7⟩
  obtain ⟨ad', e', hb, _⟩ := h6.2 (hp _ (List.getElem_mem hk))
  rw [e] at e'
  injection e' with e'
  rw [e']; exact hb
/-- tables of one's own -/
theorem TBP.own {w : World} {base : Nat} {A : Option Addr} {n c : Nat} {us : List Value} {ls : List (List Int)} (h : OwnR w base (.slice A n c) us) (hr : RowsOwn w base us ls) (hi : ∀ l ∈ ls, ∀ x ∈ l, I64 x) : TBP w A ls (fun x => base ≤ x ∧ x < w.heap.size) := fun k hk => by
  have hku : k < us.length := by rw [hr.1]; exact hk
  obtain ⟨ad, A1, n1, c1, e1, e2, e3, e4, e5, e6, e7⟩ := tb_own h hr hi k hk
  have had : base ≤ ad.block ∧ ad.block < w.heap.size := by
    rcases h.2 with ⟨e, _⟩ | ⟨g, cap, cur, e, hb, hh, _⟩
    · injection e with e _ _; rw [e1] at e; cases e
    · injection e with e _ _
      rw [e1] at e
      injection e with e
      rw [e]
      refine ⟨hb, ?_⟩
      rcases Nat.lt_or_ge g w.heap.size with hlt | hge
      · exact hlt
      · rw [Array.getElem?_eq_none hge] at hh; cases hh
  refine ⟨ad, A1, n1, c1, e1, had, had.2, e3, e4, e5, e6, fun a ea => ?_, e7⟩
  have hn : us.length = n := by
    rcases h.2 with ⟨e, h0⟩ | ⟨g', cap', cur, e, _⟩
    · injection e with _ e2 _; omega
    · injection e with _ e2 _; exact e2.symm
  subst hn
  have hc := Reads.of_own h
  obtain ⟨ad', u, f1, f2, f3, f4⟩ := Reads.at_ (k := k) hc hku
  rw [e1] at f1
  injection f1 with f1
  subst f1
  rw [e3] at f4
  injection f4 with f4
  rw [List.getElem?_eq_getElem hku] at f3
  injection f3 with f3
  have hrow := hr.2 k hku hk
  rw [f3, ← f4] at hrow
  rcases hrow.2 with ⟨e, _⟩ | ⟨g', cap', cur, e, hb', hh, _⟩
  · injection e with e _ _; rw [ea] at e; cases e
  · injection e with e _ _
    rw [ea] at e
    injection e with e
    rw [e]
    refine ⟨hb', ?_⟩
    rcases Nat.lt_or_ge g' w.heap.size with hlt | hge
    · exact hlt
    · rw [Array.getElem?_eq_none hge] at hh; cases hh
/-- a row of one's own lies in no block of another type -/
theorem own_not {w : World} {base o : Nat} {v : Value} {xs : List Int} {t : TypeId} {cs : Array Value} (h : Own w base v xs) (hB : Blk w o t cs) (ht : t ≠ 3) : v.ownBlock ≠ some o := by
  intro e
  rcases h.2 with ⟨e0, _⟩ | ⟨g, cap, cur, e0, _, hh, _⟩
  · rw [e0] at e; cases e
  · rw [e0] at e
    have e1 : g = o := by injection e
    subst e1
    unfold Blk at hB
    rw [hB] at hh
    injection hh with hh
    injection hh with _ hh
    exact ht hh
theorem ownR_not {w : World} {base o : Nat} {v : Value} {us : List Value} {t : TypeId} {cs : Array Value} (h : OwnR w base v us) (hB : Blk w o t cs) (ht : t ≠ 23) : v.ownBlock ≠ some o := by
  intro e
  rcases h.2 with ⟨e0, _⟩ | ⟨g, cap, cur, e0, _, hh, _⟩
  · rw [e0] at e; cases e
  · rw [e0] at e
    have e1 : g = o := by injection e
    subst e1
    unfold Blk at hB
    rw [hB] at hh
    injection hh with hh
    injection hh with _ hh
    exact ht hh
theorem OwnR.keep {w w' : World} {base base' : Nat} {v : Value} {us : List Value} (h : OwnR w base v us) (hb : base' ≤ base) (hk : ∀ g, v.ownBlock = some g → w'.heap[g]? = w.heap[g]?) : OwnR w' base' v us := by
  refine ⟨h.1, ?_⟩
  rcases h.2 with h0 | ⟨g, cap, cur, hv, hg, hh, rest⟩
  · exact .inl h0
  · exact .inr ⟨g, cap, cur, hv, Nat.le_trans hb hg, by rw [hk g (by rw [hv]; rfl)]; exact hh, rest⟩
/-- a store into a block of another type -/
theorem OwnR.far {w : World} {base : Nat} {v : Value} {us : List Value} (h : OwnR w base v us) {q : Addr} (hq : v.ownBlock ≠ some q.block) (u : Value) : OwnR (w.setCell q u) base v us :=
  OwnR.keep h (Nat.le_refl _) fun g hg => Below.heap_setCell w q u g (fun e => hq (by rw [hg, e]))
theorem RowsOwn.far {w : World} {base : Nat} {us : List Value} {ls : List (List Int)} (h : RowsOwn w base us ls) {q : Addr} {t : TypeId} {cs : Array Value} (hB : Blk w q.block t cs) (ht : t ≠ 3) (u : Value) : RowsOwn (w.setCell q u) base us ls :=
  ⟨h.1, fun k h1 h2 => (h.2 k h1 h2).far (own_not (h.2 k h1 h2) hB ht) u⟩
theorem ownR_cap {w : World} {base n c : Nat} {A : Option Addr} {us : List Value} (h : OwnR w base (.slice A n c) us) : c ≤ 9223372036854775807 := by
  rcases h.2 with ⟨e, _⟩ | ⟨g, cap, cur, e, _, _, _, hm, _⟩
  · injection e with _ _ e; omega
  · injection e with _ _ e; unfold maxLen at hm; omega
/-- what an append of a row leaves, and where -/
structure GrewX (w w' : World) (base : Nat) (v v' : Value) (us : List Value) : Prop where
  g : GrewR w w' base v v' us
  at_ : v'.ownBlock = v.ownBlock ∨ ∃ k, v'.ownBlock = some k ∧ w.heap.size ≤ k
theorem run_appX (w : World) (base : Nat) (v : Value) (us : List Value) (A : Option Addr) (n c : Nat) (hown : OwnR w base v us) (hlen : us.length < 5864062014805) (hbase : base ≤ w.heap.size) (ty : TypeId) :
    ∃ v' w', (Builtin.append_ #[22, 22] ty #[v, .slice (some ⟨w.heap.size, 0, none⟩) 1 1]).run Tryd.prog (w.alloc (.cells #[.slice A n c] 23)) = .ok v' w' ∧ GrewX w w' base v v' (us ++ [.slice A n c]) := by
  obtain ⟨i0, hi, hz0, hz1, hz2⟩ := info_parts info_ints
  obtain ⟨v', w', hrun, h2, h3, _, h5⟩ := run_append_own_at (P := Tryd.prog) (w.alloc (.cells #[.slice A n c] 23)) base 22 ty 23 i0 _ 1 24 Tryd.underlying22 hi hz0 hz1 hz2 rfl (by omega)
    v us.length us (hown.alloc _) ⟨w.heap.size, 0, none⟩ 1 1 [.slice A n c] rfl (by
      intro j u hj
      match j, hj with
      | 0, hj => simp at hj; subst hj; simp [Addr.add]) (by simp [Value.oneCell']) (by simp only [maxLen]; omega) (by omega) (by simp; omega)
  refine ⟨v', w', hrun, ⟨⟨?_, grownBy_trans (World.grownBy_alloc w _ _) h3⟩, ?_⟩⟩
  · have e : (us ++ [Value.slice A n c]).length = us.length + 1 := by simp
    rw [OwnR, e]
    exact h2
  · rcases h5 with h | h
    · exact .inl h
    · exact .inr ⟨_, h, by simp⟩
/-- append of one row, at a step of a region that draws its order -/
theorem step_appX {ops : Array Oper} {o : Oper} {a : Act} {K : Act → World → Prop} {Q : Exit → Act → World → Prop} {E : Prop} (w : World) (A : Option Addr) (n c : Nat) (hgd : o.guard = none) (s x : Operand)
    (ho : o.op = .call { callee := .builtin .append, args := #[s, x], argTypes := #[22, 22] })
    (base : Nat) (v : Value) (us : List Value) (hs : a.eval s = v) (hx : a.eval x = .slice (some ⟨w.heap.size, 0, none⟩) 1 1) (hown : OwnR w base v us) (hlen : us.length < 5864062014805) (hbase : base ≤ w.heap.size)
    (h : ∀ v' w', GrewX w w' base v v' (us ++ [.slice A n c]) → K (a.put o.dst v') w') :
    if Region.wanted o (yielded ops a.tmps) = true then Oper.wp Tryd.prog o a (w.alloc (.cells #[.slice A n c] 23)) K Q else E := by
  have hw : Region.wanted o (yielded ops a.tmps) = true := by simp [Region.wanted, hgd]
  rw [if_pos hw]
  obtain ⟨v', w', hrun, hg⟩ := run_appX w base v us A n c hown hlen hbase o.type
  unfold Oper.wp execOp
  simp only [ho, resolve, invoke, builtin, Sem.run_bind, Sem.run_pure, Result.andThen_ok, List.map_toArray, List.map_cons, List.map_nil, hs, hx, hrun]
  exact h v' w' hg
/-- append of one int, at a step of a region that draws its order -/
theorem step_app1 {ops : Array Oper} {o : Oper} {a : Act} {K : Act → World → Prop} {Q : Exit → Act → World → Prop} {E : Prop} (w W : World) (n : Int) (hW : W = w.alloc (.cells #[vi n] 3)) (hgd : o.guard = none) (s x : Operand)
    (ho : o.op = .call { callee := .builtin .append, args := #[s, x], argTypes := #[23, 23] })
    (base : Nat) (v : Value) (xs : List Int) (hs : a.eval s = v) (hx : a.eval x = .slice (some ⟨w.heap.size, 0, none⟩) 1 1) (hown : Own w base v xs) (hlen : xs.length < 17592186044416) (hbase : base ≤ w.heap.size)
    (h : ∀ v' w', Grew w w' base v v' (xs ++ [n]) → K (a.put o.dst v') w') :
    if Region.wanted o (yielded ops a.tmps) = true then Oper.wp Tryd.prog o a W K Q else E := by
  have hw : Region.wanted o (yielded ops a.tmps) = true := by simp [Region.wanted, hgd]
  rw [if_pos hw]
  subst hW
  obtain ⟨v', w', hrun, hg⟩ := run_app1 w base v xs n hown hlen hbase o.type
  unfold Oper.wp execOp
  simp only [ho, resolve, invoke, builtin, Sem.run_bind, Sem.run_pure, Result.andThen_ok, List.map_toArray, List.map_cons, List.map_nil, hs, hx, hrun]
  exact h v' w' hg
section
variable (q : Nat) [NeZero q] (d v : Nat) (ts : List (List Int)) (rs : List Int)
/-- the tables behind k rounds -/
def ftK : Nat → List (List Int)
  | 0 => ts
  | k + 1 => fixI q (2 ^ (v - 1 - k)) (ftK k) d (el q (rs.getD k 0))
/-- what round k tells -/
def rdK (k : Nat) : List (Fin q) := roundL q (2 ^ (v - 1 - k)) (ftK q d v ts rs k) d
def rdL (k : Nat) : List (List Int) := (List.range k).map fun i => fvs (rdK q d v ts rs i)
/-- what is left of a table at the end -/
def finF (j : Nat) : Fin q := co (tabOf q (ftK q d v ts rs v) j) 0
theorem ftK_length (hd : ts.length = d) (k : Nat) : (ftK q d v ts rs k).length = d := by
  cases k with
  | zero => exact hd
  | succ k => exact fixI_length _ _ _ _ _
theorem ftK_len (hv : ∀ t ∈ ts, t.length = 2 ^ v) (k : Nat) (hk : k ≤ v) : ∀ t ∈ ftK q d v ts rs k, t.length = 2 ^ (v - k) := by
  cases k with
  | zero => exact hv
  | succ k =>
    intro t ht
    rw [fixI_len _ _ _ _ _ t ht, show v - 1 - k = v - (k + 1) by omega]
theorem ftK_i64 (hq : q ≤ 2147483647) (hi : ∀ t ∈ ts, ∀ x ∈ t, I64 x) (k : Nat) : ∀ t ∈ ftK q d v ts rs k, ∀ x ∈ t, I64 x := by
  cases k with
  | zero => exact hi
  | succ k => exact fixI_i64 _ _ hq _ _ _
end
theorem clipR_any (A : Option Addr) (n c : Nat) (hn : n ≤ c) (hc : c ≤ 9223372036854775807) (w : World) :
    Calls Tryd.prog 36 #[.slice A n c] w fun e w' => e = .returned (.slice A n n) ∧ w = w' := by
  go_enter Tryd.func36, Tryd.ntmps36
  go_wp2
  go_ret
  exact ⟨rfl, rfl⟩
/-- what shows nothing, and why -/
def NoSummed (k : Int) : Ending := .returned (.tuple #[.agg #[.slice none 0 0, .slice none 0 0], .iface 70 (.int .i64 k)])
theorem blk2 {w w1 : World} {t : TypeId} {a b : Value} (hb : Below (w.alloc (.cells #[a, b] t)).heap.size (w.alloc (.cells #[a, b] t)) w1) : Blk w1 w.heap.size t #[a, b] := (Blk.new w t #[a, b]).below hb (by simp)
set_option maxRecDepth 100000 in
set_option maxHeartbeats 2000000 in
theorem smake_bad (b : Nat) (A : Option Addr) (d c : Nat) (B : Option Addr) (m cb : Nat) (w : World)
    (hck : ∀ W : World, W = w.alloc (.cells #[.slice none 0 0, .slice none 0 0] 29) → Calls Tryd.prog 31 #[.slice A d c] W fun e w' => e = .returned (.tuple #[vi 0, .iface 70 (.int .i64 2)]) ∧ Below W.heap.size W w') :
    Calls Tryd.prog 10 #[.pointer (some ⟨b, 0, none⟩), .slice A d c, .slice B m cb] w fun e w' => e = NoSummed 2 ∧ Below w.heap.size w w' := by
  have HC := Lib.hid (hck _ rfl)
  have hbA : Below w.heap.size w (w.alloc (.cells #[.slice none 0 0, .slice none 0 0] 29)) := (Below.refl _ _).alloc (Nat.le_refl _) _
  clear hck
  go_enter Tryd.func10, Tryd.ntmps10
  go_wp2_with fail
  refine (HC.out).mono ?_
  rintro _ w1 ⟨rfl, hb1⟩
  have hB := blk2 hb1
  have c0 := hB.cell 0
  have c1 := hB.cell 1
  have f0 := hB.frozen 0
  have f1 := hB.frozen 1
  have HB := Lib.hid (hbA.trans (hb1.mono hbA.size))
  have HBK := Lib.hid hB
  clear hb1 hbA hB
  go_wp2
  have hB2 := (HBK.out.set_ 0 (.slice none 0 0)).set_ 1 (.slice none 0 0)
  have e0 := (hB2.cell 0).trans (show _ = some (Value.slice none 0 0) from rfl)
  have e1 := (hB2.cell 1).trans (show _ = some (Value.slice none 0 0) from rfl)
  refine bodyPost_ret (v := .tuple #[.agg #[.slice none 0 0, .slice none 0 0], .iface 70 (.int .i64 2)]) (by simp [results, Tryd.results10, go_sem, e0, e1]) rfl ⟨rfl, (HB.out.setCell (Nat.le_refl _) _).setCell (Nat.le_refl _) _⟩
set_option maxRecDepth 100000 in
set_option maxHeartbeats 2000000 in
theorem smake_len (b : Nat) (A : Option Addr) (d c : Nat) (ts : List (List Int)) (hd : ts.length = d) (hd1 : 1 ≤ d) (hd2 : d ≤ 4) (v : Nat) (hv : Over ts v) (B : Option Addr) (m cb : Nat) (hm : m ≠ v) (hm63 : m < 9223372036854775808) (w : World) (hs : TB w A ts) :
    Calls Tryd.prog 10 #[.pointer (some ⟨b, 0, none⟩), .slice A d c, .slice B m cb] w fun e w' => e = NoSummed 2 ∧ Below w.heap.size w w' := by
  have hbA : Below w.heap.size w (w.alloc (.cells #[.slice none 0 0, .slice none 0 0] 29)) := (Below.refl _ _).alloc (Nat.le_refl _) _
  have HC := Lib.hid (checked_yes A d c ts hd hd1 hd2 v hv _ (hs.below hbA))
  have hv12 : v ≤ 12 := (hv _ (List.getElem_mem (show 0 < ts.length by omega))).1
  have t1 : ((m : Int) != (v : Int)) = true := by rw [bne_iff_ne]; omega
  clear hm hs hd hv
  go_enter Tryd.func10, Tryd.ntmps10
  go_wp2_with fail
  refine (HC.out).mono ?_
  rintro _ w1 ⟨rfl, hb1⟩
  have hB := blk2 hb1
  have c0 := hB.cell 0
  have c1 := hB.cell 1
  have f0 := hB.frozen 0
  have f1 := hB.frozen 1
  have HB := Lib.hid (hbA.trans (hb1.mono hbA.size))
  have HBK := Lib.hid hB
  clear hb1 hbA hB
  go_wp2
  have hB2 := (HBK.out.set_ 0 (.slice none 0 0)).set_ 1 (.slice none 0 0)
  have e0 := (hB2.cell 0).trans (show _ = some (Value.slice none 0 0) from rfl)
  have e1 := (hB2.cell 1).trans (show _ = some (Value.slice none 0 0) from rfl)
  refine bodyPost_ret (v := .tuple #[.agg #[.slice none 0 0, .slice none 0 0], .iface 70 (.int .i64 2)]) (by simp [results, Tryd.results10, go_sem, e0, e1]) rfl ⟨rfl, (HB.out.setCell (Nat.le_refl _) _).setCell (Nat.le_refl _) _⟩
set_option maxRecDepth 100000 in
set_option maxHeartbeats 2000000 in
theorem smake_big (p b : Nat) (A : Option Addr) (d c : Nat) (ts : List (List Int)) (hd : ts.length = d) (hd1 : 1 ≤ d) (hd2 : d ≤ 4) (v : Nat) (hv : Over ts v) (B : Option Addr) (cb : Nat) (hp : p ≤ d) (w : World) (hcb : w.cell? ⟨b, 0, none⟩ = some (vi p)) (hs : TB w A ts) :
    Calls Tryd.prog 10 #[.pointer (some ⟨b, 0, none⟩), .slice A d c, .slice B v cb] w fun e w' => e = NoSummed 3 ∧ Below w.heap.size w w' := by
  have hbA : Below w.heap.size w (w.alloc (.cells #[.slice none 0 0, .slice none 0 0] 29)) := (Below.refl _ _).alloc (Nat.le_refl _) _
  have HC := Lib.hid (checked_yes A d c ts hd hd1 hd2 v hv _ (hs.below hbA))
  have hv12 : v ≤ 12 := (hv _ (List.getElem_mem (show 0 < ts.length by omega))).1
  have hbl := block_lt_of_cell hcb
  have t1 : (p : Int) ≤ (d : Int) := by omega
  clear hs hd hv
  go_enter Tryd.func10, Tryd.ntmps10
  go_wp2_with fail
  refine (HC.out).mono ?_
  rintro _ w1 ⟨rfl, hb1⟩
  have hB := blk2 hb1
  have c0 := hB.cell 0
  have c1 := hB.cell 1
  have f0 := hB.frozen 0
  have f1 := hB.frozen 1
  have HB := Lib.hid (hbA.trans (hb1.mono hbA.size))
  have HBK := Lib.hid hB
  have HP := Lib.hid (p_any p b w1 ((HB.out.cell (p := ⟨b, 0, none⟩) hbl).trans hcb))
  clear hb1 hbA hB
  go_wp2_with fail
  refine (HP.out).mono ?_
  rintro _ _ ⟨rfl, rfl⟩
  go_wp2
  have hB2 := (HBK.out.set_ 0 (.slice none 0 0)).set_ 1 (.slice none 0 0)
  have e0 := (hB2.cell 0).trans (show _ = some (Value.slice none 0 0) from rfl)
  have e1 := (hB2.cell 1).trans (show _ = some (Value.slice none 0 0) from rfl)
  refine bodyPost_ret (v := .tuple #[.agg #[.slice none 0 0, .slice none 0 0], .iface 70 (.int .i64 3)]) (by simp [results, Tryd.results10, go_sem, e0, e1]) rfl ⟨rfl, (HB.out.setCell (Nat.le_refl _) _).setCell (Nat.le_refl _) _⟩
/-- an api.Summed on its way -/
def SumO (w : World) (o : Nat) (R F : Value) : Prop := Blk w o 29 #[R, F]
def MkRel (q d v : Nat) [NeZero q] (ts : List (List Int)) (rs : List Int) (o : Nat) (w : World) (T t : Value) (wr : World) : Prop :=
  ∃ (k : Nat) (A : Option Addr) (c : Nat) (P : Nat → Prop) (R : Value) (us : List Value), k ≤ v ∧ t = vi k ∧ T = .slice A d c ∧ TBP wr A (ftK q d v ts rs k) P ∧ (∀ x, P x → x < wr.heap.size ∧ x ≠ o ∧ R.ownBlock ≠ some x) ∧
    SumO wr o R (.slice none 0 0) ∧ Blk wr w.heap.size 29 #[.slice none 0 0, .slice none 0 0] ∧ OwnR wr w.heap.size R us ∧ RowsOwn wr w.heap.size us (rdL q d v ts rs k) ∧ Below w.heap.size w wr
def MkFin (q d v : Nat) [NeZero q] (ts : List (List Int)) (rs : List Int) (o B : Nat) (R : Value) (w13 : World) (t : Value) (wr : World) : Prop :=
  ∃ (k : Nat) (F : Value), k ≤ d ∧ t = vi k ∧ SumO wr o R F ∧ Own wr B F ((List.range k).map fun j => fv (finF q d v ts rs j)) ∧ w13.grownBy wr (some o)
/-- what shows a sum -/
def SummedIs (q d v : Nat) [NeZero q] (ts : List (List Int)) (rs : List Int) (w : World) (e : Ending) (w' : World) : Prop :=
  ∃ A B : Option Addr, e = .returned (.tuple #[.agg #[.slice A v v, .slice B d d], .nilIface]) ∧ TB w' A (rdL q d v ts rs v) ∧ SL w' B ((List.range d).map fun j => fv (finF q d v ts rs j)) ∧ Below w.heap.size w w'
theorem SummedIs.drew {q d v : Nat} [NeZero q] {ts : List (List Int)} {rs : List Int} {w w' : World} {e : Ending} (h : SummedIs q d v ts rs w e w') : SummedIs q d v ts rs w e w'.drew := by
  obtain ⟨A, B, h0, h1, h2, h3⟩ := h
  exact ⟨A, B, h0, h1, h2, below_drewN h3 1⟩
theorem rdL_i64 (q d v : Nat) [NeZero q] (hq : q ≤ 2147483647) (ts : List (List Int)) (rs : List Int) (k : Nat) : ∀ l ∈ rdL q d v ts rs k, ∀ x ∈ l, I64 x := fun l hl x hx => by
  obtain ⟨i, _, rfl⟩ := List.mem_map.1 hl
  obtain ⟨y, _, rfl⟩ := List.mem_map.1 hx
  exact i64_fv _ hq
theorem SL.farB {w : World} {A : Option Addr} {xs : List Int} {base n c : Nat} (h : Own w base (.slice A n c) xs) : SL w A xs := (Own.shape h).elim fun A h => by
  obtain ⟨c, e, _, _, _, h⟩ := h; injection e with e _ _; subst e; exact h
set_option maxRecDepth 100000 in
set_option maxHeartbeats 8000000 in
theorem smake_any (q S b : Nat) [NeZero q] (A : Option Addr) (d c : Nat) (ts : List (List Int)) (hd : ts.length = d) (hd1 : 1 ≤ d) (hd2 : d ≤ 4) (v : Nat) (hv : Over ts v) (hdq : d < q) (B : Option Addr) (cb : Nat) (rs : List Int) (hr : rs.length = v) (hrI : ∀ x ∈ rs, I64 x) (w : World) (F : Fld w S b q) (hs : TB w A ts) (hB : SL w B rs) :
    Calls Tryd.prog 10 #[.pointer (some ⟨b, 0, none⟩), .slice A d c, .slice B v cb] w fun e w' => SummedIs q d v ts rs w e w' := by
  have hq2 := F.two
  have hqm := F.max
  have hbA : Below w.heap.size w (w.alloc (.cells #[.slice none 0 0, .slice none 0 0] 29)) := (Below.refl _ _).alloc (Nat.le_refl _) _
  have HC := Lib.hid (checked_yes A d c ts hd hd1 hd2 v hv _ (hs.below hbA))
  have hv12 : v ≤ 12 := (hv _ (List.getElem_mem (show 0 < ts.length by omega))).1
  have hlen : ∀ t ∈ ts, t.length = 2 ^ v := fun t ht => (hv t ht).2
  have hi64 : ∀ t ∈ ts, ∀ x ∈ t, I64 x := by
    intro t ht
    obtain ⟨k, hk, rfl⟩ := List.mem_iff_getElem.1 ht
    obtain ⟨_, _, _, _, _, _, _, _, _, _, h⟩ := hs k hk
    exact h
  have hpos : ∀ k, 0 < 2 ^ k := fun k => Nat.pow_pos (by omega)
  have hP0 := TBP.of_tb hs (fun t ht => by rw [hlen t ht]; exact hpos v)
  have HFL := Lib.hid (fun k => ftK_length q d v ts rs hd k)
  have HFN := Lib.hid (fun k hk => ftK_len q d v ts rs hlen k hk)
  have HFI := Lib.hid (fun k => ftK_i64 q d v ts rs hqm hi64 k)
  have HP0 := Lib.hid hP0
  have HR := Lib.hid hr
  have HRI := Lib.hid hrI
  have hbl : b < w.heap.size := Nat.lt_of_lt_of_le F.lt F.le
  have t1 : ((v : Int) != (v : Int)) = false := by simp
  have t2 : decide (q ≤ d) = false := by simp; omega
  clear hs hd hv hlen hi64 hP0 hr hrI
  go_enter Tryd.func10, Tryd.ntmps10
  go_wp2_with fail
  refine (HC.out).mono ?_
  rintro _ w1 ⟨rfl, hb1⟩
  have hbw1 := hbA.trans (hb1.mono hbA.size)
  have hsz1 : w.heap.size < w1.heap.size := by have := hb1.size; simp at this; omega
  have HP := Lib.hid (p_any q b w1 ((hbw1.cell (p := ⟨b, 0, none⟩) hbl).trans F.c0))
  have HBW1 := Lib.hid hbw1
  have HX1 := Lib.hid (blk2 hb1)
  clear hb1 hbA hbw1 HC
  go_wp2_with fail
  refine (HP.out).mono ?_
  rintro _ _ ⟨rfl, rfl⟩
  go_wp2
  obtain ⟨W2, hW2⟩ : ∃ W2, W2 = w1.alloc (.cells #[.slice none 0 0, .slice none 0 0] 29) := ⟨_, rfl⟩
  have hO2 : SumO W2 w1.heap.size (.slice none 0 0) (.slice none 0 0) := by rw [hW2]; exact Blk.new _ _ _
  have hb12 : Below w1.heap.size w1 W2 := by rw [hW2]; exact (Below.refl _ _).alloc (Nat.le_refl _) _
  have hb2 := HBW1.out.trans (hb12.mono HBW1.out.size)
  have hs2 : W2.heap.size = w1.heap.size + 1 := by rw [hW2]; simp
  obtain ⟨o, ho⟩ : ∃ o, o = w1.heap.size := ⟨_, rfl⟩
  rw [← hW2, ← ho]
  rw [← ho] at hO2 hs2 hb12
  have how : w.heap.size < o := by omega
  have hX2 : Blk W2 w.heap.size 29 #[.slice none 0 0, .slice none 0 0] := Blk.below HX1.out hb12 how
  have HX2 := Lib.hid hX2
  have hP2 : TBP W2 A ts (fun x => x < w.heap.size) := HP0.out.keep hb2.size (fun x hx => hb2.block x hx)
  clear hW2 ho hX2 hb12 HX1
  go_loopw [1, 42, 12] (fun T t _ wr => MkRel q d v ts rs o w T t wr) (fun _ t _ _ => v - (intOf t).toNat)
  case atStart => exact ⟨0, A, c, _, _, [], by omega, rfl, rfl, hP2, fun x hx => ⟨by omega, by omega, by intro e; cases e⟩, hO2, HX2.out, World.ownsRow_nil _ _ _ _, RowsOwn.nil _ _, hb2⟩
  case round =>
    clear hO2 hb2 hP2
    obtain ⟨k, A', c', P, R, us, hk, rfl, rfl, hT, hPx, hO, hXr, hOR, hRO, hb⟩ := hrel
    have HXR := Lib.hid hXr
    clear hXr
    by_cases hkv : k < v
    · have hkr : k < rs.length := by rw [HR.out]; exact hkv
      obtain ⟨bd, rfl, hbd, hcr⟩ := hB.at_ hkr
      have hcr' := (hb.cell (p := bd.add k) (by rw [block_of_add]; exact hbd)).trans hcr
      have hrk := HRI.out _ (List.getElem_mem hkr)
      obtain ⟨r, hrr⟩ : ∃ r, r = rs[k] := ⟨_, rfl⟩
      rw [← hrr] at hcr' hrk
      have hgr : rs.getD k 0 = r := by rw [hrr, List.getD_eq_getElem?_getD, List.getElem?_eq_getElem hkr]; rfl
      have k1 : (0 : Int) ≤ (k : Int) := by omega
      have k2 : (k : Int) < (v : Int) := by omega
      have hco := (Blk.cell hO 0).trans (show _ = some R from rfl)
      have hfo := Blk.frozen hO 0
      have hol := Blk.lt hO
      have h2 : 2 ^ (v - k) = 2 * 2 ^ (v - 1 - k) := by rw [← Nat.pow_succ']; congr 1; omega
      have hn3 : 2 ^ (v - k) ≤ 65536 := Nat.le_trans (Nat.pow_le_pow_right (by omega) (show v - k ≤ 16 by omega)) (by decide)
      have HRD := Lib.hid (fun W (FW : Fld W S b q) (hW : TB W A' (ftK q d v ts rs k)) => round_sum q S b A' d c' _ (HFL.out k) hd1 hd2 (2 ^ (v - k)) (2 ^ (v - 1 - k)) (HFN.out k hk) h2 hn3 W FW hW)
      have HAL := Lib.hid (fun W (FW : Fld W S b q) (hW : TB W A' (ftK q d v ts rs k)) => all_any q S b A' d c' _ (HFL.out k) hd2 (2 ^ (v - k)) (2 ^ (v - 1 - k)) (HFN.out k hk) h2 hn3 r hrk W FW hW)
      have HGR := Lib.hid hgr
      have HT := Lib.hid hT
      have HO := Lib.hid hO
      have HOR := Lib.hid hOR
      have HRO := Lib.hid hRO
      have HPX := Lib.hid hPx
      have hus : us.length < 5864062014805 := by have := hRO.1; simp [rdL] at this; omega
      have HUS := Lib.hid hus
      have hFr := F.below hb F.le
      clear h2 hgr hrr hT hO hOR hRO hPx hus hcr
      go_wp2
      go_region_law (first
        | (go_simp; go_at_call 33; refine (HRD.out _ (by first | exact hFr.drewR | exact hFr) (by exact HT.out.tb)).mono ?_; rintro _ w5 ⟨v5, rfl, ho5, hb5'⟩; have hb5 : Below wr.heap.size wr w5 := ⟨hb5'.os, hb5'.tape, hb5'.output, hb5'.size, hb5'.block⟩; obtain ⟨A5, n5, c5, rfl, hl5, _, _, _⟩ := ho5.shapeN; have HL5 := Lib.hid hl5; have hOR5 := OwnR.below HOR.out hb5; have hO5 := Blk.below HO.out hb5 hol; have hc5 := (Blk.cell hO5 0).trans (show _ = some R from rfl); have hc5a := (World.cell?_alloc_lt w5 (.cells #[.slice A5 n5 c5] 23) ⟨o, 0, none⟩ (Nat.lt_of_lt_of_le hol hb5.size)).trans hc5; clear hl5)
        | (refine step_appX w5 A5 n5 c5 (by rfl) _ _ (by rfl) w.heap.size R us (by rfl) (by rfl) hOR5 HUS.out (Nat.le_trans hb.size hb5.size) ?_; intro R6 w6 hg6; have hne5 := ownR_not hOR5 hO5 (by decide); have hO6 : SumO w6 o R (.slice none 0 0) := Blk.grown hO5 hg6.g.grown (fun e => hne5 e.symm); have hc6 := (Blk.cell hO6 0).trans (show _ = some R from rfl); have hf6 := Blk.frozen hO6 0; obtain ⟨A6, n6, c6, rfl, hl6, _⟩ := ownR_shape hg6.g.own; clear hl6))
      all_goals
        obtain ⟨w7, hw7⟩ : ∃ w7, w7 = w6.setCell ⟨o, 0, none⟩ (.slice A6 n6 c6) := ⟨_, rfl⟩
        have hO7 : SumO w7 o (.slice A6 n6 c6) (.slice none 0 0) := by rw [hw7]; exact Blk.set_ hO6 0 (.slice A6 n6 c6)
        have hne6 := ownR_not hg6.g.own hO6 (by decide)
        have hOR7 : OwnR w7 w.heap.size (.slice A6 n6 c6) (us ++ [.slice A5 n5 c5]) := by rw [hw7]; exact hg6.g.own.far (q := ⟨o, 0, none⟩) hne6 _
        have hX7 : Blk w7 w.heap.size 29 #[.slice none 0 0, .slice none 0 0] := by
          have hX5 := Blk.below HXR.out hb5 (Blk.lt HXR.out)
          have hX6 := Blk.grown hX5 hg6.g.grown (fun e => ownR_not hOR5 hX5 (by decide) e.symm)
          rw [hw7]; exact hX6.far (p := ⟨o, 0, none⟩) (Nat.ne_of_lt how) _
        have HX7 := Lib.hid hX7
        have hRO5 := (HRO.out.below hb5).snoc (Own.more ho5 (show w.heap.size ≤ wr.drew.heap.size from hb.size))
        have hRO6 := hg6.g.rows hOR5 hRO5
        have hRO7 : RowsOwn w7 w.heap.size (us ++ [.slice A5 n5 c5]) (rdL q d v ts rs (k + 1)) := by
          have h := hRO6.far (q := ⟨o, 0, none⟩) hO6 (by decide) (.slice A6 n6 c6)
          rw [hw7]
          have e : rdL q d v ts rs (k + 1) = rdL q d v ts rs k ++ [fvs (roundL q (2 ^ (v - 1 - k)) (ftK q d v ts rs k) d)] := by
            unfold rdL
            rw [List.range_succ (n := k), List.map_append]; rfl
          rw [e]; exact h
        have hb5w := hb.trans (hb5.mono hb.size)
        have hb6w := hg6.g.below hb5w hOR5 (Nat.le_refl _) hb5w.size
        have hb7w : Below w.heap.size w w7 := by rw [hw7]; exact hb6w.setCell (p := ⟨o, 0, none⟩) (Nat.le_of_lt how) _
        have hsz67 : w7.heap.size = w6.heap.size := by rw [hw7, World.size_setCell]
        have hT7 : TBP w7 A' (ftK q d v ts rs k) P := HT.out.keep (by rw [hsz67]; exact Nat.le_trans hb5.size hg6.g.grown.size) (fun x hx => by
          obtain ⟨p1, p2, p3⟩ := HPX.out x hx
          rw [hw7]
          refine (Below.heap_setCell w6 _ _ x (by intro e; exact p2 e)).trans ?_
          exact (hg6.g.grown.block x (Nat.lt_of_lt_of_le p1 hb5.size) (fun e => p3 e.symm)).trans (hb5.block x p1))
        have HO7 := Lib.hid hO7
        have HOR7 := Lib.hid hOR7
        have HRO7 := Lib.hid hRO7
        have HB7 := Lib.hid hb7w
        have HT7 := Lib.hid hT7
        have HGR' := HGR
        rw [← hw7]
        clear hX7 hO7 hne6 hOR7 hRO5 hRO6 hRO7 hb5w hb6w hb7w hT7 hsz67 hw7 hO6 hO5 hOR5 hg6 ho5 hb5 hb5' hc5 hc5a hc6 hf6 hne5
        go_wp2_with fail
        refine (HAL.out w7 (F.below HB7.out F.le) HT7.out.tb).mono ?_
        rintro _ w8 ⟨v8, us8, rfl, ho8, hr8, hb8⟩
        obtain ⟨A8, n8, c8, rfl, hl8, _⟩ := ownR_shape ho8
        have e8 : n8 = d := by rw [← hl8, hr8.1, fixI_length]
        subst e8
        have hft : fixI q (2 ^ (v - 1 - k)) (ftK q n8 v ts rs k) n8 (el q r) = ftK q n8 v ts rs (k + 1) := by rw [← HGR.out]; rfl
        rw [hft] at hr8
        have hT8 := TBP.own ho8 hr8 (HFI.out (k + 1))
        have hO8 := Blk.below HO7.out hb8 (Blk.lt HO7.out)
        have hX8 := Blk.below HX7.out hb8 (Blk.lt HX7.out)
        have hOR8 := OwnR.below HOR7.out hb8
        have hRO8 := HRO7.out.below hb8
        have hbw8 := HB7.out.trans (hb8.mono HB7.out.size)
        have ho7l := Blk.lt HO7.out
        have hP8 : ∀ x, (w7.heap.size ≤ x ∧ x < w8.heap.size) → x < w8.heap.size ∧ x ≠ o ∧ (Value.slice A6 n6 c6).ownBlock ≠ some x := fun x hx => ⟨hx.2, by omega, fun e => by have := (World.ownsRow.lt HOR7.out x e).2; omega⟩
        clear hft hl8 ho8 hr8 hb8
        go_wp2
        go_roundw
        case rel => exact ⟨k + 1, A8, c8, _, _, _, by omega, by go_num, rfl, hT8, hP8, hO8, hX8, hOR8, hRO8, hbw8⟩
        case measure => simp [intOf]; omega
    · have ek : k = v := by omega
      have t3 : ¬ (k : Int) < (v : Int) := by omega
      subst ek
      obtain ⟨AR, nR, cR, rfl, hlR, hcR⟩ := ownR_shape hOR
      have HMR := Lib.hid (ownR_cap hOR)
      have hbl13 := hb.size
      have hol := Blk.lt hO
      have HT := Lib.hid hT
      have HPX := Lib.hid hPx
      have HOR := Lib.hid hOR
      have HRO := Lib.hid hRO
      have HBW := Lib.hid hb
      have HO := Lib.hid hO
      clear hT hPx hOR hRO hb hO hlR
      obtain ⟨w13, hw13⟩ : ∃ w13, w13 = wr := ⟨_, rfl⟩
      subst hw13
      go_wp2
      go_loopw [61, 14] (fun t _ wr' => MkFin q d k ts rs o w13.heap.size (.slice AR nR cR) w13 t wr') (fun t _ _ => d - (intOf t).toNat)
      case atStart => exact ⟨0, _, by omega, rfl, HO.out, World.ownsRow_nil _ _ _ _, ⟨rfl, rfl, rfl, Nat.le_refl _, fun _ _ _ => rfl⟩⟩
      case round =>
        obtain ⟨j, Fv, hj, rfl, hO, hOF, hgr⟩ := hrel
        by_cases hjd : j < d
        · have hjl : j < (ftK q d k ts rs k).length := by rw [HFL.out]; exact hjd
          obtain ⟨ad, A1, n1, c1, rfl, hPad, hbd, hcc, hl1, hn1, hs1, hPA, hi1⟩ := HT.out j hjl
          have hone : (ftK q d k ts rs k)[j].length = 1 := by rw [HFN.out k (Nat.le_refl _) _ (List.getElem_mem hjl), Nat.sub_self]
          have en1 : n1 = 1 := by rw [← hl1]; exact hone
          subst en1
          obtain ⟨ae, rfl, hae, hce⟩ := hs1.at_ (k := 0) (by rw [hone]; omega)
          have hxI := hi1 _ (List.getElem_mem (show 0 < (ftK q d k ts rs k)[j].length by rw [hone]; omega))
          have hfin : finF q d k ts rs j = el q ((ftK q d k ts rs k)[j][0]'(by rw [hone]; omega)) := by
            unfold finF tabOf
            rw [List.getD_eq_getElem?_getD, List.getElem?_eq_getElem hjl, Option.getD_some]
            simp [els, co, hone]
          obtain ⟨x, hx⟩ : ∃ x, x = (ftK q d k ts rs k)[j][0]'(by rw [hone]; omega) := ⟨_, rfl⟩
          rw [← hx] at hce hxI hfin
          have hccr := (World.cell?_of_block (hgr.block _ (by rw [block_of_add]; exact hbd) (by rw [block_of_add]; intro e; injection e with e; exact (HPX.out _ hPad).2.1 e))).trans hcc
          have hcer := (World.cell?_of_block (hgr.block _ (by rw [block_of_add]; exact hae) (by rw [block_of_add]; intro e; injection e with e; exact (HPX.out _ (hPA _ rfl)).2.1 e))).trans hce
          rw [show ae.add 0 = ae by simp [Addr.add]] at hcer
          have hco := (Blk.cell hO 1).trans (show _ = some Fv from rfl)
          have hol2 := Blk.lt hO
          have hOFd := hOF
          have hne := own_not hOF hO (by decide)
          obtain ⟨X, hX⟩ : ∃ X, X = finF q d k ts rs j := ⟨_, rfl⟩
          have hcoa := (World.cell?_alloc_lt wr (.cells #[vi (fv X)] 3) ⟨o, 1, none⟩ hol2).trans hco
          have hof := fun W hc => of_el q hqm b x hxI W hc
          rw [← hfin, ← hX] at hof
          have hbo := (Below.refl w.heap.size w13).grown hgr hbl13 (fun k hk => by injection hk with hk; omega)
          have hcb := (F.below (HBW.out.trans hbo) F.le).c0
          have hlk : ((List.range j).map fun j => fv (finF q d k ts rs j)).length < 17592186044416 := by simp; omega
          have hsu : (List.range (j + 1)).map (fun j => fv (finF q d k ts rs j)) = (List.range j).map (fun j => fv (finF q d k ts rs j)) ++ [fv X] := by rw [List.range_succ (n := j), List.map_append, hX]; rfl
          have HOFF := Lib.hid hof
          have HLK := Lib.hid hlk
          have HSU := Lib.hid hsu
          have HOF := Lib.hid hOF
          have HO' := Lib.hid hO
          have HGRR := Lib.hid hgr
          have j1 : (0 : Int) ≤ (j : Int) := by omega
          have j2 : (j : Int) < (d : Int) := by omega
          clear hof hlk hsu hX hfin hx hone hl1 hs1 hi1 hPA hPad hjl hO hOF hOFd hgr hcc hce hbo
          go_wp2
          go_region_law (first
            | (go_simp; go_at_call 35; refine (HOFF.out _ (by exact hcb)).mono ?_; rintro _ _ ⟨rfl, rfl⟩)
            | (refine step_app1 wr.drew _ (fv X) (by rfl) (by rfl) _ _ (by rfl) w13.heap.size Fv _ (by rfl) (by rfl) HOF.out HLK.out HGRR.out.size ?_; intro F6 w6 hg6; have hO6 : SumO w6 o _ Fv := Blk.grown (Blk.drew HO'.out) hg6.grown (fun e => hne e.symm); have hc6 := (Blk.cell hO6 1).trans (show _ = some Fv from rfl); have hf6 := Blk.frozen hO6 1; obtain ⟨A6, n6, c6, rfl, hl6, _, _, _⟩ := hg6.own.shapeN; clear hl6))
          all_goals
            obtain ⟨w7, hw7⟩ : ∃ w7, w7 = w6.setCell ⟨o, 1, none⟩ (.slice A6 n6 c6) := ⟨_, rfl⟩
            have hO7 : SumO w7 o (.slice AR nR cR) (.slice A6 n6 c6) := by rw [hw7]; exact Blk.set_ hO6 1 (.slice A6 n6 c6)
            have hne6 := own_not hg6.own hO6 (by decide)
            have hOF7 : Own w7 w13.heap.size (.slice A6 n6 c6) ((List.range (j + 1)).map fun j => fv (finF q d k ts rs j)) := by
              rw [hw7, HSU.out]; exact hg6.own.far (q := ⟨o, 1, none⟩) hne6 _
            have hgr7 : w13.grownBy w7 (some o) := by
              have h0 := HGRR.out
              have h1 := hg6.grown
              rw [hw7]
              refine ⟨h1.os.trans h0.os, h1.tape.trans h0.tape, h1.output.trans h0.output, by rw [World.size_setCell]; exact Nat.le_trans h0.size h1.size, fun y hy hne => ?_⟩
              refine (Below.heap_setCell w6 _ _ y (by intro e; exact hne (by rw [e]))).trans ?_
              refine (h1.block y (Nat.lt_of_lt_of_le hy h0.size) (fun e => ?_)).trans (h0.block y hy hne)
              have := (HOF.out.lt y e.symm).1
              omega
            rw [← hw7]
            clear hO6 hne6 hg6 hw7 hc6 hf6 hco hcoa hccr hcer
            go_wp2
            go_roundw
            case rel => exact ⟨j + 1, _, by omega, by go_num, hO7, hOF7, hgr7⟩
            case measure => simp [intOf]; omega
        · have ej : j = d := by omega
          have t4 : ¬ (j : Int) < (d : Int) := by omega
          subst ej
          obtain ⟨AF, nF, cF, rfl, hlF, hcF, hmF, _⟩ := hOF.shapeN
          have hc0 := (Blk.cell hO 0).trans (show _ = some (Value.slice AR nR cR) from rfl)
          have hc1 := (Blk.cell hO 1).trans (show _ = some (Value.slice AF nF cF) from rfl)
          have hf0 := Blk.frozen hO 0
          have hf1 := Blk.frozen hO 1
          have hmR : cR ≤ 9223372036854775807 := HMR.out
          have hmF' : cF ≤ 9223372036854775807 := by unfold maxLen at hmF; exact hmF
          have HCR := Lib.hid (fun W => clipR_any AR nR cR hcR hmR W)
          have HCF := Lib.hid (fun W => clip_any AF nF cF hcF hmF' W)
          have HO' := Lib.hid hO
          have HOF := Lib.hid hOF
          have HGRR := Lib.hid hgr
          clear hO hOF hgr hlF
          have hXr := Blk.grown HXR.out HGRR.out (by intro e; injection e with e; omega)
          have hRl := HRO.out.1
          have hORr : OwnR wr w.heap.size (.slice AR nR cR) us := OwnR.keep HOR.out (Nat.le_refl _) fun g hg => HGRR.out.block g (World.ownsRow.lt HOR.out g hg).2 (by intro e; injection e with e; subst e; exact ownR_not HOR.out HO.out (by decide) hg)
          have hROr : RowsOwn wr w.heap.size us (rdL q j k ts rs k) := ⟨HRO.out.1, fun i h1 h2 => (HRO.out.2 i h1 h2).keep fun g hg => HGRR.out.block g ((HRO.out.2 i h1 h2).lt g hg).2 (by intro e; injection e with e; subst e; exact own_not (HRO.out.2 i h1 h2) HO.out (by decide) hg)⟩
          have hbr : Below w.heap.size w wr := HBW.out.trans ((Below.refl w.heap.size w13).grown HGRR.out hbl13 (fun x hx => by injection hx with hx; omega))
          have hlR : nR = k := by
            have h1 := hRl
            have h2 : us.length = nR := by
              rcases hORr.2 with ⟨e, h0⟩ | ⟨g, cap, cur, e, _⟩
              · injection e with _ e2 _; omega
              · injection e with _ e2 _; exact e2.symm
            simp [rdL] at h1
            omega
          have hlF2 : nF = j := by
            obtain ⟨A', n', c', ev, hl', _⟩ := HOF.out.shapeN
            injection ev with _ e2 _
            rw [e2, ← hl']; simp
          subst hlR hlF2
          have HXR' := Lib.hid hXr
          have HORr := Lib.hid hORr
          have HROr := Lib.hid hROr
          have HBR := Lib.hid hbr
          clear hXr hORr hROr hbr hRl
          go_wp2
          go_region_law (first
            | (go_simp; go_at_call 36; refine (HCR.out _).mono ?_; rintro _ _ ⟨rfl, rfl⟩)
            | (go_simp; go_at_call 37; refine (HCF.out _).mono ?_; rintro _ _ ⟨rfl, rfl⟩))
          all_goals
            obtain ⟨w9, hw9⟩ : ∃ w9, w9 = (wr.setCell ⟨o, 0, none⟩ (.slice AR nR nR)).setCell ⟨o, 1, none⟩ (.slice AF nF nF) := ⟨_, rfl⟩
            have hOa := Blk.set_ HO'.out 0 (.slice AR nR nR)
            have hO9 : SumO w9 o (.slice AR nR nR) (.slice AF nF nF) := by rw [hw9]; exact Blk.set_ hOa 1 (.slice AF nF nF)
            have hwo : w.heap.size ≠ o := Nat.ne_of_lt how
            have hX9 : Blk w9 w.heap.size 29 #[.slice none 0 0, .slice none 0 0] := by rw [hw9]; exact ((HXR'.out.far (p := ⟨o, 0, none⟩) hwo _).far (p := ⟨o, 1, none⟩) hwo _)
            have n1 := ownR_not HORr.out HO'.out (by decide)
            have n2 := ownR_not HORr.out HXR'.out (by decide)
            have m1 := own_not HOF.out HO'.out (by decide)
            have m2 := own_not HOF.out HXR'.out (by decide)
            have hR9 : OwnR w9 w.heap.size (.slice AR nR cR) us := by rw [hw9]; exact (HORr.out.far (q := ⟨o, 0, none⟩) n1 _).far (q := ⟨o, 1, none⟩) n1 _
            have hF9 : Own w9 w13.heap.size (.slice AF nF cF) ((List.range nF).map fun j => fv (finF q nF nR ts rs j)) := by rw [hw9]; exact (HOF.out.far (q := ⟨o, 0, none⟩) m1 _).far (q := ⟨o, 1, none⟩) m1 _
            have hRO9 : RowsOwn w9 w.heap.size us (rdL q nF nR ts rs nR) := by rw [hw9]; exact (HROr.out.far (q := ⟨o, 0, none⟩) HO'.out (by decide) _).far (q := ⟨o, 1, none⟩) hOa (by decide) _
            have hb9 : Below w.heap.size w w9 := by rw [hw9]; exact (HBR.out.setCell (p := ⟨o, 0, none⟩) (Nat.le_of_lt how) _).setCell (p := ⟨o, 1, none⟩) (Nat.le_of_lt how) _
            have e0 := (Blk.cell hO9 0).trans (show _ = some (Value.slice AR nR nR) from rfl)
            have e1 := (Blk.cell hO9 1).trans (show _ = some (Value.slice AF nF nF) from rfl)
            have x0 := (Blk.cell hX9 0).trans (show _ = some (Value.slice none 0 0) from rfl)
            have x1 := (Blk.cell hX9 1).trans (show _ = some (Value.slice none 0 0) from rfl)
            have f0 := Blk.frozen hX9 0
            have f1 := Blk.frozen hX9 1
            have hXa := Blk.set_ hX9 0 (.slice AR nR nR)
            have hX10 := Blk.set_ hXa 1 (.slice AF nF nF)
            have hfin : SummedIs q nF nR ts rs w (.returned (.tuple #[.agg #[.slice AR nR nR, .slice AF nF nF], .nilIface])) ((w9.setCell ⟨w.heap.size, 0, none⟩ (.slice AR nR nR)).setCell ⟨w.heap.size, 1, none⟩ (.slice AF nF nF)) := by
              refine ⟨AR, AF, rfl, ?_, ?_, (hb9.setCell (p := ⟨w.heap.size, 0, none⟩) (Nat.le_refl _) _).setCell (p := ⟨w.heap.size, 1, none⟩) (Nat.le_refl _) _⟩
              · exact tb_own ((hR9.far (q := ⟨w.heap.size, 0, none⟩) n2 _).far (q := ⟨w.heap.size, 1, none⟩) n2 _) ((hRO9.far (q := ⟨w.heap.size, 0, none⟩) hX9 (by decide) _).far (q := ⟨w.heap.size, 1, none⟩) hXa (by decide) _) (rdL_i64 q nF nR hqm ts rs nR)
              · exact SL.farB ((hF9.far (q := ⟨w.heap.size, 0, none⟩) m2 _).far (q := ⟨w.heap.size, 1, none⟩) m2 _)
            have y0 := (Blk.cell hX10 0).trans (show _ = some (Value.slice AR nR nR) from rfl)
            have y1 := (Blk.cell hX10 1).trans (show _ = some (Value.slice AF nF nF) from rfl)
            have HFIN := Lib.hid hfin
            rw [← hw9]
            clear hfin hR9 hF9 hRO9 hb9 hOa hO9 hX9 hXa hX10 hw9 hc0 hc1 hf0 hf1 n1 n2 m1 m2
            go_wp2
            exact bodyPost_ret (v := .tuple #[.agg #[.slice AR nR nR, .slice AF nF nF], .nilIface]) (by simp [results, Tryd.results10, go_sem, y0, y1]) rfl HFIN.out.drew
end Go.Proofs.YtgmkcmahbefcoaaDoor

/- Walks of the reference's Add, Sub, Mul, Pow, Inv, Div. -/
set_option linter.unusedVariables false
namespace Go.Proofs.YtgmkcmahbefcoaaDoor
open Go.RowKit Zp

set_option maxHeartbeats 400000 in
theorem radd_any (p : Nat) [NeZero p] (hp2 : p ≤ 2147483647) (m n : Int) (hm : I64 m) (hn : I64 n) (w : World) :
    Calls Tryd.prog 48 #[vi p, vi m, vi n] w fun e w' => e = .returned (vi (fv (el p m + el p n))) ∧ w = w' := by
  have h1 := fv_nonneg (el p m)
  have h2 := fv_lt (el p m)
  have h3 := fv_nonneg (el p n)
  have h4 := fv_lt (el p n)
  go_enter Tryd.func48, Tryd.ntmps48
  go_wp2_with (go_at_call 16; refine (rof_any p hp2 _ (by assumption) _).mono ?_; rintro e w' ⟨rfl, rfl⟩)
  go_ret
  exact ⟨ret_int (fv_add _ _).symm, rfl⟩
theorem fv_sub' {p : Nat} [NeZero p] (x y : Fin p) : fv (x - y) = (fv x + (p : Int) - fv y) % (p : Int) := by
  rw [fv_sub, show fv x + (p : Int) - fv y = fv x - fv y + p from by omega, Int.add_emod_right]
set_option maxHeartbeats 400000 in
theorem rsub_any (p : Nat) [NeZero p] (hp2 : p ≤ 2147483647) (m n : Int) (hm : I64 m) (hn : I64 n) (w : World) :
    Calls Tryd.prog 74 #[vi p, vi m, vi n] w fun e w' => e = .returned (vi (fv (el p m - el p n))) ∧ w = w' := by
  have h1 := fv_nonneg (el p m)
  have h2 := fv_lt (el p m)
  have h3 := fv_nonneg (el p n)
  have h4 := fv_lt (el p n)
  go_enter Tryd.func74, Tryd.ntmps74
  go_wp2_with (go_at_call 16; refine (rof_any p hp2 _ (by assumption) _).mono ?_; rintro e w' ⟨rfl, rfl⟩)
  go_ret
  exact ⟨ret_int (fv_sub' _ _).symm, rfl⟩
set_option maxHeartbeats 400000 in
theorem rmul_any (p : Nat) [NeZero p] (hp2 : p ≤ 2147483647) (m n : Int) (hm : I64 m) (hn : I64 n) (w : World) :
    Calls Tryd.prog 50 #[vi p, vi m, vi n] w fun e w' => e = .returned (vi (fv (el p m * el p n))) ∧ w = w' := by
  have h1 := fv_nonneg (el p m)
  have h2 := fv_lt (el p m)
  have h3 := fv_nonneg (el p n)
  have h4 := fv_lt (el p n)
  obtain ⟨h5, h6⟩ := mul_bd (el p m) (el p n) hp2
  go_enter Tryd.func50, Tryd.ntmps50
  go_wp2_with (go_at_call 16; refine (rof_any p hp2 _ (by assumption) _).mono ?_; rintro e w' ⟨rfl, rfl⟩)
  go_ret
  exact ⟨ret_int (fv_mul _ _).symm, rfl⟩

/-- what the loop of Pow knows -/
def RPow {p : Nat} [NeZero p] (T : Fin p) (n : Int) (a x k : Value) : Prop :=
  ∃ (j : Int) (A X : Fin p), j.natAbs ≤ n.natAbs ∧ I64 j ∧ a = vi (fv A) ∧ x = vi (fv X) ∧ k = vi j ∧ X * pw A j.natAbs = T
theorem RPow.step {p : Nat} [NeZero p] {T A X : Fin p} {n j r d : Int} (h0 : j ≠ 0) (h : X * pw A j.natAbs = T) (hj : j.natAbs ≤ n.natAbs) (hr : j.tmod 2 = r) (hd : j.tdiv 2 = d) :
    d.natAbs ≤ n.natAbs ∧ d.natAbs < j.natAbs ∧ (r = 0 → X * pw (A * A) d.natAbs = T) ∧ (r ≠ 0 → X * A * pw (A * A) d.natAbs = T) := by
  have e1 : d.natAbs = j.natAbs / 2 := by rw [← hd]; simp [Int.natAbs_tdiv]; rfl
  have e2 : r.natAbs = j.natAbs % 2 := by rw [← hr]; simp [Int.natAbs_tmod]
  have hs := pow_step A j.natAbs
  rw [← e1] at hs
  refine ⟨by omega, by omega, fun hr0 => ?_, fun hr0 => ?_⟩
  · rw [← h, hs, if_neg (by omega)]; grind
  · rw [← h, hs, if_pos (by omega)]; grind

set_option maxRecDepth 100000 in
set_option maxHeartbeats 1000000 in
theorem rpow_nn (p : Nat) [NeZero p] (hp1 : 2 ≤ p) (hp2 : p ≤ 2147483647) (m n : Int) (hm : I64 m) (hn : I64 n) (h0 : 0 ≤ n) (w : World) :
    Calls Tryd.prog 109 #[vi p, vi m, vi n] w fun e w' => e = .returned (vi (fv (pw (el p m) n.natAbs))) ∧ w = w' := by
  have h1 := fv_nonneg (el p m)
  have h2 := fv_lt (el p m)
  go_enter Tryd.func109, Tryd.ntmps109
  go_wp2_with (go_at_call 16; refine (rof_any p hp2 m hm _).mono ?_; rintro e w' ⟨rfl, rfl⟩)
  go_loop [1, 2, 7] (fun a n' x => RPow (pw (el p m) n.natAbs) n a x n') (fun _ n' _ => (intOf n').natAbs)
  case atStart => exact ⟨n, el p m, 1, Nat.le_refl _, hn, rfl, by rw [fv_one hp1], rfl, by grind⟩
  case round =>
    obtain ⟨j, A, X, hj, ij, rfl, rfl, rfl, hX⟩ := hrel
    obtain ⟨h5, h6⟩ := mul_bd X A hp2
    obtain ⟨h7, h8⟩ := mul_bd A A hp2
    have hX' := Lib.hid hX
    clear hX
    by_cases h0 : j = 0
    · subst h0
      go_wp2
      go_ret
      exact ⟨ret_int (by rw [← hX'.out]; simp only [Int.natAbs_zero, pw_zero]; congr 1; grind), rfl⟩
    · have t0 : (j != 0) = true := by rw [bne_iff_ne]; exact h0
      obtain ⟨r, hr⟩ : ∃ r, j.tmod 2 = r := ⟨_, rfl⟩
      obtain ⟨d, hd⟩ : ∃ d, j.tdiv 2 = d := ⟨_, rfl⟩
      obtain ⟨s1, s2, s3, s4⟩ := RPow.step h0 hX'.out hj hr hd
      have hnn : n.natAbs ≤ 9223372036854775808 := by obtain ⟨_, _⟩ := hn; omega
      obtain ⟨ij1, ij2⟩ := ij
      have id1 : -9223372036854775807 ≤ d := by omega
      have id2 : d ≤ 9223372036854775807 := by omega
      clear hnn
      by_cases hr0 : r = 0
      · have t1 : (r != 0) = false := by simpa using hr0
        have S := Lib.hid (s3 hr0)
        have S1 := Lib.hid s1
        have S2 := Lib.hid s2
        clear s1 s2 s3 s4 hr0 h0
        go_wp2
        go_round
        case rel => exact ⟨d, A * A, X, S1.out, ⟨by omega, id2⟩, by rw [fv_mul], rfl, rfl, S.out⟩
        case measure => exact S2.out
      · have t1 : (r != 0) = true := by rw [bne_iff_ne]; exact hr0
        have S := Lib.hid (s4 hr0)
        have S1 := Lib.hid s1
        have S2 := Lib.hid s2
        clear s1 s2 s3 s4 hr0 h0
        go_wp2
        go_round
        case rel => exact ⟨d, A * A, X * A, S1.out, ⟨by omega, id2⟩, by rw [fv_mul], by rw [fv_mul], rfl, S.out⟩
        case measure => exact S2.out

theorem rinv_any (p : Nat) [NeZero p] (hp1 : 2 ≤ p) (hp2 : p ≤ 2147483647) (m : Int) (hm : I64 m) (w : World) :
    Calls Tryd.prog 111 #[vi p, vi m] w fun e w' => e = .returned (vi (fv (Zp.inv (el p m)))) ∧ w = w' := by
  have h5 : I64 ((p : Int) - 2) := by constructor <;> omega
  have h6 : (0 : Int) ≤ (p : Int) - 2 := by omega
  have h7 : ((p : Int) - 2).natAbs = p - 2 := by omega
  have H := Lib.hid (rpow_nn p hp1 hp2 m _ hm h5 h6 w)
  rw [h7] at H
  clear h7
  go_enter Tryd.func111, Tryd.ntmps111
  go_wp2_with fail
  refine (H.out).mono ?_
  rintro e w' ⟨rfl, rfl⟩
  go_wp2
  go_ret
  exact ⟨rfl, rfl⟩

set_option maxRecDepth 100000 in
set_option maxHeartbeats 1000000 in
theorem rpow_neg (p : Nat) [NeZero p] (hp1 : 2 ≤ p) (hp2 : p ≤ 2147483647) (m n : Int) (hm : I64 m) (hn : I64 n) (hlt : n < 0) (w : World) :
    Calls Tryd.prog 109 #[vi p, vi m, vi n] w fun e w' => e = .returned (vi (fv (pw (Zp.inv (el p m)) n.natAbs))) ∧ w = w' := by
  have h1 := fv_nonneg (el p m)
  have h2 := fv_lt (el p m)
  have hi := fun w => rinv_any p hp1 hp2 (fv (el p m)) (i64_fv _ hp2) w
  simp only [el_fv] at hi
  have HI := Lib.hid hi
  clear hi
  go_enter Tryd.func109, Tryd.ntmps109
  go_wp2_with (first | (go_at_call 16; refine (rof_any p hp2 m hm _).mono ?_; rintro e w' ⟨rfl, rfl⟩) | (go_at_call 111; refine (HI.out _).mono ?_; rintro e w' ⟨rfl, rfl⟩))
  go_loop [1, 2, 7] (fun a n' x => RPow (pw (Zp.inv (el p m)) n.natAbs) n a x n') (fun _ n' _ => (intOf n').natAbs)
  case atStart => exact ⟨n, Zp.inv (el p m), 1, Nat.le_refl _, hn, rfl, by rw [fv_one hp1], rfl, by grind⟩
  case round =>
    obtain ⟨j, A, X, hj, ij, rfl, rfl, rfl, hX⟩ := hrel
    obtain ⟨h5, h6⟩ := mul_bd X A hp2
    obtain ⟨h7, h8⟩ := mul_bd A A hp2
    have hX' := Lib.hid hX
    clear hX
    by_cases h0 : j = 0
    · subst h0
      go_wp2
      go_ret
      exact ⟨ret_int (by rw [← hX'.out]; simp only [Int.natAbs_zero, pw_zero]; congr 1; grind), rfl⟩
    · have t0 : (j != 0) = true := by rw [bne_iff_ne]; exact h0
      obtain ⟨r, hr⟩ : ∃ r, j.tmod 2 = r := ⟨_, rfl⟩
      obtain ⟨d, hd⟩ : ∃ d, j.tdiv 2 = d := ⟨_, rfl⟩
      obtain ⟨s1, s2, s3, s4⟩ := RPow.step h0 hX'.out hj hr hd
      have hnn : n.natAbs ≤ 9223372036854775808 := by obtain ⟨_, _⟩ := hn; omega
      obtain ⟨ij1, ij2⟩ := ij
      have id1 : -9223372036854775807 ≤ d := by omega
      have id2 : d ≤ 9223372036854775807 := by omega
      clear hnn
      by_cases hr0 : r = 0
      · have t1 : (r != 0) = false := by simpa using hr0
        have S := Lib.hid (s3 hr0)
        have S1 := Lib.hid s1
        have S2 := Lib.hid s2
        clear s1 s2 s3 s4 hr0 h0
        go_wp2
        go_round
        case rel => exact ⟨d, A * A, X, S1.out, ⟨by omega, id2⟩, by rw [fv_mul], rfl, rfl, S.out⟩
        case measure => exact S2.out
      · have t1 : (r != 0) = true := by rw [bne_iff_ne]; exact hr0
        have S := Lib.hid (s4 hr0)
        have S1 := Lib.hid s1
        have S2 := Lib.hid s2
        clear s1 s2 s3 s4 hr0 h0
        go_wp2
        go_round
        case rel => exact ⟨d, A * A, X * A, S1.out, ⟨by omega, id2⟩, by rw [fv_mul], by rw [fv_mul], rfl, S.out⟩
        case measure => exact S2.out

theorem rpow_any (p : Nat) [NeZero p] (hp1 : 2 ≤ p) (hp2 : p ≤ 2147483647) (m n : Int) (hm : I64 m) (hn : I64 n) (w : World) :
    Calls Tryd.prog 109 #[vi p, vi m, vi n] w fun e w' => e = .returned (vi (fv (zpw (el p m) n))) ∧ w = w' := by
  by_cases h0 : 0 ≤ n
  · have h := rpow_nn p hp1 hp2 m n hm hn h0 w
    rw [zpw, if_pos h0, show n.toNat = n.natAbs by omega]
    exact h
  · have h := rpow_neg p hp1 hp2 m n hm hn (by omega) w
    rw [zpw, if_neg h0, show (-n).toNat = n.natAbs by omega]
    exact h
theorem rdiv_any (p : Nat) [NeZero p] (hp1 : 2 ≤ p) (hp2 : p ≤ 2147483647) (m n : Int) (hm : I64 m) (hn : I64 n) (w : World) :
    Calls Tryd.prog 86 #[vi p, vi m, vi n] w fun e w' => e = .returned (vi (fv (el p m * Zp.inv (el p n)))) ∧ w = w' := by
  have h := fun w => rmul_any p hp2 m (fv (Zp.inv (el p n))) hm (i64_fv _ hp2) w
  simp only [el_fv] at h
  have H := Lib.hid h
  clear h
  go_enter Tryd.func86, Tryd.ntmps86
  go_wp2_with (first | (go_at_call 111; refine (rinv_any p hp1 hp2 n hn _).mono ?_; rintro e w' ⟨rfl, rfl⟩) | (go_at_call 50; refine (H.out _).mono ?_; rintro e w' ⟨rfl, rfl⟩))
  go_ret
  exact ⟨rfl, rfl⟩
end Go.Proofs.YtgmkcmahbefcoaaDoor

/- Walks of the reference's polynomials: Degree, Trim, At, Plus, Scaled, Times, Eval. -/
set_option linter.unusedVariables false
namespace Go.Proofs.YtgmkcmahbefcoaaDoor
open Go.RowKit Zp

theorem i64_fvsR {p : Nat} (l : List (Fin p)) (hp2 : p ≤ 2147483647) : ∀ n ∈ fvs l, I64 n := fun n hn => by
  obtain ⟨x, _, rfl⟩ := List.mem_map.1 hn
  exact i64_fv x hp2
theorem sl_lit' (w : World) (xs : List Int) : SL (w.alloc (.cells (xs.map vi).toArray 3)) (some ⟨w.heap.size, 0, none⟩) xs := by
  refine ⟨by simp, fun _ => ⟨_, rfl, by simp, fun j u hu => ?_⟩⟩
  have e : (⟨w.heap.size, 0, none⟩ : Addr).add j = ⟨w.heap.size, j, none⟩ := by simp [Addr.add]; intro h; exact h.symm
  rw [e, (Blk.new w 3 (xs.map vi).toArray).cell]
  simpa using hu
theorem SL.take {w : World} {A : Option Addr} {xs : List Int} (h : SL w A xs) (k : Nat) : SL w A (xs.take k) := by
  refine ⟨by simp, fun hn => ?_⟩
  have hl : (xs.take k).length = min k xs.length := List.length_take
  obtain ⟨ad, e, hb, hc⟩ := h.2 (by omega)
  refine ⟨ad, e, hb, fun j u hu => hc j u ?_⟩
  rw [List.map_take, List.getElem?_take] at hu
  split at hu
  · exact hu
  · cases hu

theorem rall_n (p : Nat) [NeZero p] (hp2 : p ≤ 2147483647) (A : Option Addr) (n cap : Nat) (xs : List Int) (hml : xs.length = n) (hxs : ∀ n ∈ xs, I64 n) (hreach : n * 8 ≤ 140737488351232) (w : World) (hs : SL w A xs) :
    Calls Tryd.prog 65 #[vi p, .slice A n cap] w fun e w' => Made (fvs (els p xs)) w e w' := by
  subst hml
  exact rall_any p hp2 A cap xs hxs hreach w hs

set_option maxHeartbeats 1000000 in
theorem rdegree_n (p : Nat) [NeZero p] (hp2 : p ≤ 2147483647) (A : Option Addr) (len cap : Nat) (xs : List Int) (hml : xs.length = len) (hxs : ∀ n ∈ xs, I64 n) (hreach : len * 8 ≤ 281474976710656) (w : World) (hs : SL w A xs) :
    Calls Tryd.prog 24 #[vi p, .slice A len cap] w fun e w' => e = .returned (vi (degL (els p xs))) ∧ w = w' := by
  have HL := Lib.hid hml.symm
  clear hml
  go_enter Tryd.func24, Tryd.ntmps24
  go_wp2
  go_loop [5, 6] (fun i _ => DegRel p xs i) (fun i _ => (intOf i + 1).toNat)
  case atStart => exact ⟨len, by rw [HL.out]; exact Nat.le_refl _, rfl, by rw [HL.out]; exact ZeroFrom.start p xs⟩
  case round =>
    obtain ⟨k, hk, rfl, hz⟩ := hrel
    rw [← HL.out] at hk
    have HZ := Lib.hid hz
    clear hz
    by_cases h0 : k = 0
    · subst h0
      have t1 : decide ((0 : Int) ≤ (((0 : Nat) : Int) - 1)) = false := by simp
      go_wp2
      go_ret
      exact ⟨ret_int (HZ.out.done (.inl rfl)).symm, rfl⟩
    · have i0 : (0 : Int) ≤ (k : Int) - 1 := by omega
      have i1 : (1 : Int) ≤ (k : Int) := by omega
      have i2 : ((k : Int) - 1).toNat = k - 1 := by omega
      have hkx : k - 1 < xs.length := by rw [← HL.out]; omega
      obtain ⟨ad, rfl, hab, hcell⟩ := hs.at_ hkx
      have hI := hxs _ (List.getElem_mem hkx)
      have hco : co (els p xs) (k - 1) = el p xs[k - 1] := by rw [co_of_lt (by simpa using hkx)]; simp
      obtain ⟨x, hx⟩ : ∃ x, x = xs[k - 1] := ⟨_, rfl⟩
      rw [← hx] at hI hcell hco
      have hcell' : w.cell? (ad.add ((k : Int) - 1).toNat) = some (vi x) := by rw [i2]; exact hcell
      have HC := Lib.hid hco
      clear hx hco i2
      by_cases hx0 : el p x = 0
      · have t1 : (fv (el p x) != 0) = false := by rw [hx0]; rfl
        have hz2 : ZeroFrom p xs (k - 1) := ZeroFrom.next (by rw [show k - 1 + 1 = k from by omega]; exact HZ.out) (by rw [HC.out]; exact hx0)
        have HZ2 := Lib.hid hz2
        clear hz2 hx0
        go_wp2_with (go_at_call 16; refine (rof_any p hp2 x hI _).mono ?_; rintro e w' ⟨rfl, rfl⟩)
        go_round
        case rel => exact ⟨k - 1, by rw [← HL.out]; omega, by congr 1; omega, HZ2.out⟩
        case measure => simp [intOf]; omega
      · have t1 : (fv (el p x) != 0) = true := by rw [bne_iff_ne]; exact fun h => hx0 (fv_eq_zero.1 h)
        have hd := HZ.out.done (.inr (by rw [HC.out]; exact hx0))
        have HD := Lib.hid hd
        clear hd hx0
        go_wp2_with (go_at_call 16; refine (rof_any p hp2 x hI _).mono ?_; rintro e w' ⟨rfl, rfl⟩)
        go_ret
        exact ⟨ret_int HD.out.symm, rfl⟩

theorem rtrim_n (p : Nat) [NeZero p] (hp2 : p ≤ 2147483647) (A : Option Addr) (len cap : Nat) (xs : List Int) (hml : xs.length = len) (hxs : ∀ n ∈ xs, I64 n) (hreach : len * 8 ≤ 140737488351232) (hcap : len ≤ cap) (w : World) (hs : SL w A xs) :
    Calls Tryd.prog 27 #[vi p, .slice A len cap] w fun e w' => Made (fvs (trimL (els p xs))) w e w' := by
  have hdeg := rdegree_n p hp2 A len cap xs hml hxs (by omega) w hs
  obtain ⟨n, hn⟩ : ∃ n, n = (trimL (els p xs)).length := ⟨_, rfl⟩
  have hnl : n ≤ len := by rw [hn, ← hml]; have := trimL_length_le (els p xs); simpa using this
  have hd : degL (els p xs) = (n : Int) - 1 := by unfold degL; rw [hn]
  rw [hd] at hdeg
  have hall := rall_n p hp2 A n cap (xs.take n) (by rw [List.length_take, hml]; omega) (fun x hx => hxs x (List.mem_of_mem_take hx)) (by omega) w (hs.take n)
  have he : els p (xs.take n) = trimL (els p xs) := by
    conv => rhs; rw [trimL_eq_take, ← hn]
    unfold els; rw [List.map_take]
  rw [he] at hall
  have HDEG := Lib.hid hdeg
  have HALL := Lib.hid hall
  have i1 : (0 : Int) ≤ (n : Int) := by omega
  have i2 : (n : Int) ≤ cap := by omega
  clear hn hd he hdeg hall hml
  go_enter Tryd.func27, Tryd.ntmps27
  go_wp2_with fail
  refine (HDEG.out).mono ?_
  rintro e w' ⟨rfl, rfl⟩
  go_wp2_with fail
  refine (HALL.out).mono ?_
  rintro e w1 ⟨v, rfl, hown, hb⟩
  go_wp2
  go_ret
  exact ⟨v, rfl, hown, hb⟩

theorem ref_at_n (A : Option Addr) (n c : Nat) (xs : List Int) (hn : xs.length = n) (hx : n ≤ 9223372036854775807) (i : Int) (hi : I64 i) (w : World) (hs : SL w A xs) :
    Calls Tryd.prog 119 #[.slice A n c, vi i] w fun e w' => e = .returned (vi (atI xs i)) ∧ w = w' := by
  subst hn
  exact at_any A c xs hx i hi w hs
theorem atI_getD (xs : List Int) (k : Nat) : atI xs (k : Int) = xs.getD k 0 := by
  rw [atI, if_pos (by omega), Int.toNat_natCast]
theorem i64_getD' {xs : List Int} (h : ∀ n ∈ xs, I64 n) (k : Nat) : I64 (xs.getD k 0) := by
  rw [List.getD_eq_getElem?_getD]
  cases hx : xs[k]? with
  | none => constructor <;> decide
  | some x => exact h x (List.mem_of_getElem? hx)
end Go.Proofs.YtgmkcmahbefcoaaDoor

/- Fixed tables as lists; rows of one's own, carried. -/
set_option linter.unusedVariables false
namespace Go.Proofs.YtgmkcmahbefcoaaDoor
open Go.RowKit Zp

end Go.Proofs.YtgmkcmahbefcoaaDoor
