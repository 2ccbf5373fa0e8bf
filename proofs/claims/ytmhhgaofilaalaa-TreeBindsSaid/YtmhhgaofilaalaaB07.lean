/- A bundle of texts: Co, Nh, Shl, Srt, Ni, Nj, Nk. -/
import Derived.Test.YtmhhgaofilaalaaB04
import Derived.Test.YtmhhgaofilaalaaB06
import Derived.Deep.DeepCutAuto
import Derived.Test.YtmhhgaofilaalaaB01
import Derived.Test.YtmhhgaofilaalaaB03
import Derived.Test.YtmhhgaofilaalaaChecked
import Derived.Shelf.SlicesG.CompactI
import Derived.Shelf.SlicesG.Equal
import Derived.Shelf.SortM.Plain
import Derived.Shelf.SortM.SortNone
import Derived.Test.YtmhhgaofilaalaaB00
import Derived.Test.YtmhhgaofilaalaaB05
/- Walks: same.Rows, Openings, Opened; tree.Check. -/
set_option linter.unusedVariables false
namespace Go.Proofs.Ytmhhgaofilaalaa
open Go.RowKit Zp
/-- are rows the same? -/
def eqR (xs ys : List (List Int)) : Bool := decide (xs = ys)
theorem eqR_true {xs ys : List (List Int)} (h : xs = ys) : eqR xs ys = true := decide_eq_true h
theorem eqR_false {xs ys : List (List Int)} (h : xs ≠ ys) : eqR xs ys = false := decide_eq_false h
theorem drewN_add (w : World) (m n : Nat) : (w.drewN m).drewN n = w.drewN (m + n) := by simp [World.drewN, Nat.add_assoc]
theorem take_ne {α : Type} {xs ys : List α} {k : Nat} (hx : k < xs.length) (hy : k < ys.length) (h : xs[k] ≠ ys[k]) : xs ≠ ys := fun e => by subst e; exact h rfl
theorem take_snoc {α : Type} {xs ys : List α} {k : Nat} (hx : k < xs.length) (hy : k < ys.length) (h : xs[k] = ys[k]) (ht : xs.take k = ys.take k) : xs.take (k + 1) = ys.take (k + 1) := by
  rw [List.take_succ_eq_append_getElem hx, List.take_succ_eq_append_getElem hy, ht, h]
/-- an Opening in memory, as a value -/
structure OpnAt (w : World) (A0 : Option Addr) (n0 c0 : Nat) (l : List Int) (AR : Option Addr) (nR cR : Nat) (rs : List (List Int)) (AN : Option Addr) (nN cN : Nat) (ns : List (List Int)) : Prop where
  l0 : l.length = n0
  lR : rs.length = nR
  lN : ns.length = nN
  b0 : n0 * 8 ≤ 140737488351232
  bR : nR ≤ 5864062014805
  bN : nN ≤ 5864062014805
  hN : nN ≤ cN
  i0 : ∀ x ∈ l, I64 x
  rR : ∀ t ∈ rs, t.length * 8 ≤ 140737488351232
  rN : ∀ t ∈ ns, t.length * 8 ≤ 140737488351232
  s0 : SL w A0 l
  tR : TB w AR rs
  tN : TB w AN ns
theorem OpnAt.below {w w' : World} {A0 : Option Addr} {n0 c0 : Nat} {l : List Int} {AR : Option Addr} {nR cR : Nat} {rs : List (List Int)} {AN : Option Addr} {nN cN : Nat} {ns : List (List Int)} (h : OpnAt w A0 n0 c0 l AR nR cR rs AN nN cN ns) (hb : Below w.heap.size w w') : OpnAt w' A0 n0 c0 l AR nR cR rs AN nN cN ns :=
  ⟨h.l0, h.lR, h.lN, h.b0, h.bR, h.bN, h.hN, h.i0, h.rR, h.rN, h.s0.below hb, h.tR.below hb, h.tN.below hb⟩
theorem OpnAt.drewN {w : World} {A0 : Option Addr} {n0 c0 : Nat} {l : List Int} {AR : Option Addr} {nR cR : Nat} {rs : List (List Int)} {AN : Option Addr} {nN cN : Nat} {ns : List (List Int)} (h : OpnAt w A0 n0 c0 l AR nR cR rs AN nN cN ns) (k : Nat) : OpnAt (w.drewN k) A0 n0 c0 l AR nR cR rs AN nN cN ns := h.below (below_drewN (Below.refl _ _) k)
/-- are two Openings the same? -/
def eqO (l l' : List Int) (rs rs' ns ns' : List (List Int)) : Bool := eqB l l' && (eqR rs rs' && eqR ns ns')
theorem below_drew' {w : World} (k : Nat) : Below w.heap.size w (w.drewN k) := below_drewN (Below.refl _ _) k
theorem MadeRows.tb {ls : List (List Int)} {w : World} {e : Ending} {w' : World} (h : MadeRows ls w e w') (hi : ∀ l ∈ ls, ∀ x ∈ l, I64 x) : ∃ A n c, e = .returned (.slice A n c) ∧ ls.length = n ∧ n ≤ c ∧ TB w' A ls ∧ Below w.heap.size w w' := by
  obtain ⟨v, us, rfl, ho, hr, hb⟩ := h
  obtain ⟨A, n, c, rfl, h1, h2⟩ := ownR_shape ho
  exact ⟨A, n, c, rfl, by rw [← hr.1]; exact h1, h2, tb_own ho hr hi, hb⟩
theorem tb_i64 {w : World} {A : Option Addr} {ts : List (List Int)} (h : TB w A ts) : ∀ l ∈ ts, ∀ x ∈ l, I64 x := fun l hl => by
  obtain ⟨k, hk, rfl⟩ := List.mem_iff_getElem.1 hl
  obtain ⟨_, _, _, _, _, _, _, _, _, _, hi⟩ := h k hk
  exact hi
theorem own_past {w w' : World} {base r : Nat} {v : Value} {xs : List Int} (h : Own w base v xs) (hg : w.grownBy w' (some r)) (hr : r < base) : Own w' base v xs :=
  h.keep fun g hgv => hg.block g (h.lt g hgv).2 (fun e => by injection e with e; have := (h.lt g hgv).1; omega)
theorem ownR_past {w w' : World} {base r : Nat} {v : Value} {us : List Value} (h : OwnR w base v us) (hg : w.grownBy w' (some r)) (hr : r < base) : OwnR w' base v us :=
  World.ownsRow.kept h hg (by
    rcases hv : v.ownBlock with _ | g
    · exact .inl rfl
    · refine .inr fun e => ?_
      injection e with e
      have := (World.ownsRow.lt h g hv).1
      omega)
theorem rowsOwn_past {w w' : World} {base r : Nat} {us : List Value} {ls : List (List Int)} (h : RowsOwn w base us ls) (hg : w.grownBy w' (some r)) (hr : r < base) : RowsOwn w' base us ls := ⟨h.1, fun k h1 h2 => own_past (h.2 k h1 h2) hg hr⟩
/-- three cells of a block are stored into -/
theorem blk_set3 {w : World} {r : Nat} {t : TypeId} {a b c : Value} (h : Blk w r t #[a, b, c]) (x y z : Value) : Blk (((w.setCell ⟨r, 0, none⟩ x).setCell ⟨r, 1, none⟩ y).setCell ⟨r, 2, none⟩ z) r t #[x, y, z] ∧ w.grownBy (((w.setCell ⟨r, 0, none⟩ x).setCell ⟨r, 1, none⟩ y).setCell ⟨r, 2, none⟩ z) (some r) :=
  ⟨((h.set_ 0 x).set_ 1 y).set_ 2 z, grownBy_trans (grownBy_trans blk_grown blk_grown) blk_grown⟩
end Go.Proofs.Ytmhhgaofilaalaa

/- An Opening in the making; the reference's Open. -/
set_option linter.unusedVariables false
namespace Go.Proofs.Ytmhhgaofilaalaa
open Go.RowKit Zp
/-- the rows that are shown -/
def openR (p : Nat) [NeZero p] (ls : List (List Int)) (l : List Int) : List (List Int) := l.map fun i => fvs (els p (rowF ls i.toNat))
theorem openR_len (p : Nat) [NeZero p] (ls : List (List Int)) (l : List Int) : (openR p ls l).length = l.length := by simp [openR]
theorem openR_take (p : Nat) [NeZero p] (ls : List (List Int)) (l : List Int) {k m : Nat} (hk : k < l.length) (hm : l[k] = (m : Int)) : (openR p ls l).take (k + 1) = (openR p ls l).take k ++ [fvs (els p (rowF ls m))] := by
  rw [List.take_succ_eq_append_getElem (by rw [openR_len]; exact hk)]
  simp [openR, hm]
theorem openR_i64 (p : Nat) [NeZero p] (hp : p ≤ 2147483647) (ls : List (List Int)) (l : List Int) : ∀ t ∈ openR p ls l, ∀ x ∈ t, I64 x := fun t ht => by
  obtain ⟨i, _, rfl⟩ := List.mem_map.1 ht
  exact fun x hx => by obtain ⟨y, _, rfl⟩ := List.mem_map.1 hx; exact i64_fv _ hp
theorem openR_r8 (p : Nat) [NeZero p] (ls : List (List Int)) (l : List Int) (h : ∀ t ∈ ls, t.length * 8 ≤ 140737488351232) : ∀ t ∈ openR p ls l, t.length * 8 ≤ 140737488351232 := fun t ht => by
  obtain ⟨i, _, rfl⟩ := List.mem_map.1 ht
  by_cases hi : i.toNat < ls.length
  · rw [rowF_at hi]
    have := h _ (List.getElem_mem hi)
    simpa [fvs, els] using this
  · simp [rowF, List.getD_eq_getElem?_getD, List.getElem?_eq_none (Nat.le_of_not_lt hi), fvs, els]
/-- an Opening in the making: its rows so far -/
structure BldR (w : World) (B ob : Nat) (ov rv : Value) (us : List Value) (rs : List (List Int)) : Prop where
  blk : Blk w ob 25 #[ov, rv, .slice none 0 0]
  lo : ob < B
  sz : B ≤ w.heap.size
  ro : OwnR w B rv us
  rr : RowsOwn w B us rs
theorem BldR.below {w w' : World} {B ob : Nat} {ov rv : Value} {us : List Value} {rs : List (List Int)} (h : BldR w B ob ov rv us rs) (hb : Below w.heap.size w w') : BldR w' B ob ov rv us rs :=
  ⟨Blk.below h.blk hb h.blk.lt, h.lo, Nat.le_trans h.sz hb.size, OwnR.below h.ro hb, h.rr.below hb⟩
theorem BldR.push {w w' : World} {B ob : Nat} {ov rv u v' : Value} {us : List Value} {rs : List (List Int)} {l : List Int} (h : BldR w B ob ov rv us rs) (hu : Own w B u l) (hg : GrewR w w' B rv v' (us ++ [u])) :
    Blk w' ob 25 #[ov, rv, .slice none 0 0] ∧ BldR (w'.setCell ⟨ob, 1, none⟩ v') B ob ov v' (us ++ [u]) (rs ++ [l]) ∧ ∀ (C : Nat) (w0 : World), C ≤ ob → Below C w0 w → C ≤ w.heap.size → Below C w0 (w'.setCell ⟨ob, 1, none⟩ v') := by
  have hne : some ob ≠ rv.ownBlock := fun e => by
    have := (World.ownsRow.lt h.ro ob e.symm).1
    have := h.lo
    omega
  have hb := Blk.grown h.blk hg.grown hne
  have hr := (hg.rows h.ro h.rr).snoc (hu.grown hg.grown (own_ne hu h.ro))
  have hs : w'.grownBy (w'.setCell ⟨ob, 1, none⟩ v') (some ob) := blk_grown
  refine ⟨hb, ⟨hb.set_ 1 v', h.lo, Nat.le_trans h.sz (Nat.le_trans hg.grown.size hs.size), ownR_past hg.own hs h.lo, rowsOwn_past hr hs h.lo⟩, fun C w0 hC h0 hCs => ?_⟩
  have hCB : C ≤ B := Nat.le_trans hC (Nat.le_of_lt h.lo)
  exact (hg.below h0 h.ro hCB hCs).grown hs (Nat.le_trans hCs hg.grown.size) (fun x hx => by injection hx with hx; omega)
theorem rootD_len (p k : Nat) [NeZero p] (r : Nat → List Int) (a m : Nat) : (rootD (digL p k) r a m).length = 4 := by
  by_cases h : 2 ≤ m
  · rw [rootD_two _ _ _ h]; exact digL_len _ _
  · rw [rootD_one _ _ _ h]; exact digL_len _ _
/-- an Opening of the caller's; a store into an elder Opening leaves it whole -/
def OpenedUp (l : List Int) (rs ns : List (List Int)) (w : World) (e : Ending) (w' : World) : Prop :=
  ∃ A0 n0 c0 AR nR cR AN nN cN, e = .returned (.agg #[.slice A0 n0 c0, .slice AR nR cR, .slice AN nN cN]) ∧ OpnAt w' A0 n0 c0 l AR nR cR rs AN nN cN ns ∧ Below w.heap.size w w' ∧
    ∀ (W' : World) (r : Nat) (cx : Array Value), Blk w' r 25 cx → r < w.heap.size → w'.grownBy W' (some r) → OpnAt W' A0 n0 c0 l AR nR cR rs AN nN cN ns
/-- the Opening is whole, and is stored as the result -/
theorem opened_fin {S : List Int} {rs ns : List (List Int)} {w w5 W6 : World} {q ob base1 baseR baseN : Nat} {A1 AR AN : Option Addr} {n1 c1 nR cR nN cN : Nat} {us vs : List Value} {cs : Array Value} {a b c : Value}
    (h0 : Own w5 base1 (.slice A1 n1 c1) S) (h0b : q < base1) (h0n : ∀ g, (Value.slice A1 n1 c1).ownBlock = some g → g ≠ ob)
    (hR : OwnR w5 baseR (.slice AR nR cR) us) (hRr : RowsOwn w5 baseR us rs) (hRb : ob < baseR)
    (hN : OwnR w5 baseN (.slice AN nN cN) vs) (hNu : UsAt w5 vs ns) (hNb : ob < baseN) (hqo : q < ob)
    (hO : Blk w5 ob 25 cs) (hQ : Blk w5 q 25 #[a, b, c]) (hg : w5.grownBy W6 (some ob)) (hqw : w.heap.size ≤ q) (hb : Below w.heap.size w w5)
    (c1' cR' cN' : Nat) (hcN : nN ≤ cN') (b0 : S.length * 8 ≤ 140737488351232) (bR : rs.length ≤ 65536) (bN : ns.length ≤ 65536) (i0 : ∀ x ∈ S, I64 x) (iR : ∀ t ∈ rs, ∀ x ∈ t, I64 x) (rR : ∀ t ∈ rs, t.length * 8 ≤ 140737488351232) (rN : ∀ t ∈ ns, t.length = 4) :
    OpenedUp S rs ns w (.returned (.agg #[.slice A1 n1 c1', .slice AR nR cR', .slice AN nN cN'])) (((W6.setCell ⟨q, 0, none⟩ (.slice A1 n1 c1')).setCell ⟨q, 1, none⟩ (.slice AR nR cR')).setCell ⟨q, 2, none⟩ (.slice AN nN cN')) := by
  have hQ6 := Blk.grown hQ hg (by intro e; injection e with e; omega)
  obtain ⟨hset, hgr⟩ := blk_set3 hQ6 (.slice A1 n1 c1') (.slice AR nR cR') (.slice AN nN cN')
  have h06 : Own W6 base1 (.slice A1 n1 c1) S := h0.keep fun g hgv => hg.block g (h0.lt g hgv).2 (fun e => by injection e with e; exact h0n g hgv e)
  have o1 := own_past h06 hgr h0b
  have r1 := ownR_past (ownR_past hR hg hRb) hgr (by omega)
  have r2 := rowsOwn_past (rowsOwn_past hRr hg hRb) hgr (by omega)
  have n2 := ownR_past (ownR_past hN hg hNb) hgr (by omega)
  have u2 := (hNu.far hO (.inr rfl) hg).far hQ6 (.inr rfl) hgr
  have hbf := (hb.grown hg hb.size (fun x hx => by injection hx with hx; omega)).grown hgr (Nat.le_trans hb.size hg.size) (fun x hx => by injection hx with hx; omega)
  have key : ∀ W', Own W' base1 (.slice A1 n1 c1) S → OwnR W' baseR (.slice AR nR cR) us → RowsOwn W' baseR us rs → OwnR W' baseN (.slice AN nN cN) vs → UsAt W' vs ns → OpnAt W' A1 n1 c1' S AR nR cR' rs AN nN cN' ns := fun W' o1 r1 r2 n2 u2 => by
    obtain ⟨A1', n1', c1'', ev, hl1, _, _, hsl⟩ := o1.shapeN
    injection ev with ev1 ev2 ev3
    subst ev1 ev2 ev3
    obtain ⟨_, _, _, e1, hnR, _⟩ := ownR_shape r1
    injection e1 with _ e1 _
    obtain ⟨_, _, _, e2, hnN, _⟩ := ownR_shape n2
    injection e2 with _ e2 _
    refine ⟨hl1, by rw [← r2.1, hnR, e1], by rw [← u2.1, hnN, e2], by omega, ?_, ?_, hcN, i0, rR, fun t ht => by rw [rN t ht]; omega, hsl, tb_own r1 r2 iR, tb_us n2 u2⟩
    · have := r2.1; omega
    · have := u2.1; omega
  exact ⟨A1, n1, c1', AR, nR, cR', AN, nN, cN', rfl, key _ o1 r1 r2 n2 u2, hbf, fun W' r cx hB hr hg' => key W' (own_past o1 hg' (by omega)) (ownR_past r1 hg' (by omega)) (rowsOwn_past r2 hg' (by omega)) (ownR_past n2 hg' (by omega)) (u2.far hB (.inr rfl) hg')⟩
end Go.Proofs.Ytmhhgaofilaalaa

/- Contracts of Go's library, laid at this program: each function of the shelf's beside its own number here. -/
set_option linter.unusedVariables false
namespace Go.Proofs.Ytmhhgaofilaalaa
open Go.Shelf
def shSort_ren : Go.Shelf.Ren := ⟨fun | 5 => 31 | 8 => 59 | 7 => 58 | 19 => 76 | 20 => 77 | 10 => 67 | 11 => 68 | 12 => 69 | 13 => 70 | 14 => 71 | 15 => 72 | 16 => 73 | 17 => 74 | 18 => 75 | 30 => 80 | 31 => 81 | 32 => 82 | 33 => 83 | 34 => 84 | 35 => 85 | 40 => 86 | n => n, fun | 23 => 22 | 25 => 3 | 3 => 3 | 32 => 95 | 22 => 22 | 0 => 0 | 44 => 109 | 46 => 111 | 4 => 4 | 36 => 102 | 35 => 101 | 41 => 97 | 5 => 5 | 9 => 9 | 53 => 113 | 57 => 117 | 63 => 119 | 64 => 120 | n => n, fun | n => n⟩
theorem shSort : Go.Proofs.SlLaysM.n5 Try.prog shSort_ren := {
  mixed := by kernel_rfl
  f5 := ⟨Try.f31.name, by decide, Try.func31.trans (congrArg some (by kernel_rfl))⟩
  f7 := ⟨Try.f58.name, by decide, Try.func58.trans (congrArg some (by kernel_rfl))⟩
  f8 := Try.func59.trans (congrArg some (by kernel_rfl))
  f10 := ⟨Try.f67.name, by decide, Try.func67.trans (congrArg some (by kernel_rfl))⟩
  f11 := ⟨Try.f68.name, by decide, Try.func68.trans (congrArg some (by kernel_rfl))⟩
  f12 := ⟨Try.f69.name, by decide, Try.func69.trans (congrArg some (by kernel_rfl))⟩
  f13 := ⟨Try.f70.name, by decide, Try.func70.trans (congrArg some (by kernel_rfl))⟩
  f14 := ⟨Try.f71.name, by decide, Try.func71.trans (congrArg some (by kernel_rfl))⟩
  f15 := ⟨Try.f72.name, by decide, Try.func72.trans (congrArg some (by kernel_rfl))⟩
  f16 := ⟨Try.f73.name, by decide, Try.func73.trans (congrArg some (by kernel_rfl))⟩
  f17 := ⟨Try.f74.name, by decide, Try.func74.trans (congrArg some (by kernel_rfl))⟩
  f18 := ⟨Try.f75.name, by decide, Try.func75.trans (congrArg some (by kernel_rfl))⟩
  f19 := Try.func76.trans (congrArg some (by kernel_rfl))
  f20 := Try.func77.trans (congrArg some (by kernel_rfl))
  f30 := ⟨Try.f80.name, by decide, Try.func80.trans (congrArg some (by kernel_rfl))⟩
  f31 := Try.func81.trans (congrArg some (by kernel_rfl))
  f32 := Try.func82.trans (congrArg some (by kernel_rfl))
  f33 := ⟨Try.f83.name, by decide, Try.func83.trans (congrArg some (by kernel_rfl))⟩
  f34 := ⟨Try.f84.name, by decide, Try.func84.trans (congrArg some (by kernel_rfl))⟩
  f35 := ⟨Try.f85.name, by decide, Try.func85.trans (congrArg some (by kernel_rfl))⟩
  f40 := ⟨Try.f86.name, by decide, Try.func86.trans (congrArg some (by kernel_rfl))⟩
  t0 := Try.underlying0
  a0 := Try.isAgg0
  z0 := Try.sizeOf0
  v0 := Try.zeroValue0
  t3 := Try.underlying3
  a3 := Try.isAgg3
  z3 := Try.sizeOf3
  v3 := Try.zeroValue3
  t4 := Try.underlying4
  a4 := Try.isAgg4
  z4 := Try.sizeOf4
  v4 := Try.zeroValue4
  t5 := Try.underlying5
  a5 := Try.isAgg5
  z5 := Try.sizeOf5
  v5 := Try.zeroValue5
  t9 := Try.underlying9
  a9 := Try.isAgg9
  z9 := Try.sizeOf9
  v9 := Try.zeroValue9
  t22 := Try.underlying22
  a22 := Try.isAgg22
  z22 := Try.sizeOf22
  v22 := Try.zeroValue22
  t23 := Try.underlying22
  a23 := Try.isAgg22
  z23 := Try.sizeOf22
  v23 := Try.zeroValue22
  t25 := Try.underlying3
  a25 := Try.isAgg3
  z25 := Try.sizeOf3
  v25 := Try.zeroValue3
  t32 := Try.underlying95
  a32 := Try.isAgg95
  z32 := Try.sizeOf95
  v32 := Try.zeroValue95
  t35 := Try.underlying101
  a35 := Try.isAgg101
  z35 := Try.sizeOf101
  v35 := Try.zeroValue101
  t36 := Try.underlying102
  a36 := Try.isAgg102
  z36 := Try.sizeOf102
  v36 := Try.zeroValue102
  t41 := Try.underlying97
  a41 := Try.isAgg97
  z41 := Try.sizeOf97
  v41 := Try.zeroValue97
  t44 := Try.underlying109
  a44 := Try.isAgg109
  z44 := Try.sizeOf109
  v44 := Try.zeroValue109
  t46 := Try.underlying111
  a46 := Try.isAgg111
  z46 := Try.sizeOf111
  v46 := Try.zeroValue111
  t53 := Try.underlying113
  a53 := Try.isAgg113
  z53 := Try.sizeOf113
  v53 := Try.zeroValue113
  t57 := Try.underlying117
  a57 := Try.isAgg117
  z57 := Try.sizeOf117
  v57 := Try.zeroValue117
  t63 := Try.underlying119
  a63 := Try.isAgg119
  z63 := Try.sizeOf119
  v63 := Try.zeroValue119
  t64 := Try.underlying120
  a64 := Try.isAgg120
  z64 := Try.sizeOf120
  v64 := Try.zeroValue120 }
def shCompact_ren : Go.Shelf.Ren := ⟨fun | 43 => 33 | n => n, fun | 22 => 22 | 23 => 3 | 3 => 3 | 4 => 4 | 0 => 0 | n => n, fun | n => n⟩
theorem shCompact : Go.Proofs.SlLaysN.n43 Try.prog shCompact_ren := {
  mixed := by kernel_rfl
  f43 := ⟨Try.f33.name, by decide, Try.func33.trans (congrArg some (by kernel_rfl))⟩
  t0 := Try.underlying0
  a0 := Try.isAgg0
  z0 := Try.sizeOf0
  v0 := Try.zeroValue0
  t3 := Try.underlying3
  a3 := Try.isAgg3
  z3 := Try.sizeOf3
  v3 := Try.zeroValue3
  t4 := Try.underlying4
  a4 := Try.isAgg4
  z4 := Try.sizeOf4
  v4 := Try.zeroValue4
  t22 := Try.underlying22
  a22 := Try.isAgg22
  z22 := Try.sizeOf22
  v22 := Try.zeroValue22
  t23 := Try.underlying3
  a23 := Try.isAgg3
  z23 := Try.sizeOf3
  v23 := Try.zeroValue3
  i23 := by kernel_rfl }
def shEqual_ren : Go.Shelf.Ren := ⟨fun | 33 => 20 | n => n, fun | 22 => 22 | 23 => 3 | 4 => 4 | 3 => 3 | 0 => 0 | n => n, fun | n => n⟩
theorem shEqual : Go.Proofs.SlLaysN.n33 Try.prog shEqual_ren := {
  mixed := by kernel_rfl
  f33 := ⟨Try.f20.name, by decide, Try.func20.trans (congrArg some (by kernel_rfl))⟩
  t0 := Try.underlying0
  a0 := Try.isAgg0
  z0 := Try.sizeOf0
  v0 := Try.zeroValue0
  t3 := Try.underlying3
  a3 := Try.isAgg3
  z3 := Try.sizeOf3
  v3 := Try.zeroValue3
  t4 := Try.underlying4
  a4 := Try.isAgg4
  z4 := Try.sizeOf4
  v4 := Try.zeroValue4
  t22 := Try.underlying22
  a22 := Try.isAgg22
  z22 := Try.sizeOf22
  v22 := Try.zeroValue22
  t23 := Try.underlying3
  a23 := Try.isAgg3
  z23 := Try.sizeOf3
  v23 := Try.zeroValue3 }
end Go.Proofs.Ytmhhgaofilaalaa

/- slices.Sort, Compact, Clip at ints of one's own, in this claim's words; sorted and compacted is: each once, ascending. -/
set_option linter.unusedVariables false
namespace Zp
open Go.Lib
theorem compactUpTo_asc (d : Array Int) (hs : ∀ i j, i ≤ j → j < d.size → d[i]! ≤ d[j]!) : ∀ m, m ≤ d.size → Asc (compactUpTo d m) ∧ ∀ x, x ∈ compactUpTo d m ↔ ∃ j, j < m ∧ d[j]! = x
  | 0, _ => ⟨by simp [compactUpTo, Asc], fun x => by simp [compactUpTo]⟩
  | m + 1, hm => by
    obtain ⟨ha, hx⟩ := compactUpTo_asc d hs m (by omega)
    rw [compactUpTo_succ]
    by_cases hk : keeps d m = true
    · rw [if_pos hk]
      constructor
      · refine List.pairwise_append.2 ⟨ha, by simp, fun a h1 b h2 => ?_⟩
        rw [List.mem_singleton] at h2
        subst h2
        obtain ⟨j, hj, rfl⟩ := (hx a).1 h1
        unfold keeps at hk
        have hk' := of_decide_eq_true hk
        rcases hk' with h0 | h0
        · omega
        · have e1 := hs j (m - 1) (by omega) (by omega)
          have e2 := hs (m - 1) m (by omega) (by omega)
          omega
      · intro x
        rw [List.mem_append, hx, List.mem_singleton]
        constructor
        · rintro (⟨j, hj, e⟩ | e)
          · exact ⟨j, by omega, e⟩
          · exact ⟨m, by omega, e.symm⟩
        · rintro ⟨j, hj, e⟩
          by_cases h : j < m
          · exact .inl ⟨j, h, e⟩
          · obtain rfl : j = m := by omega
            exact .inr e.symm
    · rw [if_neg hk, List.append_nil]
      refine ⟨ha, fun x => ?_⟩
      rw [hx]
      constructor
      · rintro ⟨j, hj, e⟩; exact ⟨j, by omega, e⟩
      · rintro ⟨j, hj, e⟩
        by_cases h : j < m
        · exact ⟨j, h, e⟩
        · obtain rfl : j = m := by omega
          unfold keeps at hk
          have hk' : ¬ (j = 0 ∨ d[j]! ≠ d[j - 1]!) := fun h => hk (decide_eq_true h)
          have h0 : j ≠ 0 := fun h => hk' (.inl h)
          have h1 : d[j]! = d[j - 1]! := Classical.byContradiction fun h => hk' (.inr h)
          exact ⟨j - 1, by omega, by rw [← h1]; exact e⟩
theorem compact_sorted {l : List Int} (h : l.Pairwise (· ≤ ·)) : Asc (compact l) ∧ ∀ x, x ∈ compact l ↔ x ∈ l := by
  have hg : ∀ (i : Nat) (hi : i < l.length), l.toArray[i]! = l[i] := fun i hi => by rw [getElem!_pos _ i (by simpa using hi)]; simp
  have hs : ∀ i j, i ≤ j → j < l.toArray.size → l.toArray[i]! ≤ l.toArray[j]! := fun i j hij hj => by
    have hj' : j < l.length := by simpa using hj
    rw [hg i (by omega), hg j hj']
    rcases Nat.lt_or_ge i j with h1 | h1
    · exact List.pairwise_iff_getElem.1 h i j (by omega) hj' h1
    · obtain rfl : i = j := by omega
      exact Int.le_refl _
  obtain ⟨h1, h2⟩ := compactUpTo_asc l.toArray hs l.length (by simp)
  refine ⟨h1, fun x => (h2 x).trans ?_⟩
  constructor
  · rintro ⟨j, hj, e⟩; rw [hg j hj] at e; subst e; exact List.getElem_mem _
  · intro hx
    obtain ⟨j, hj, e⟩ := List.mem_iff_getElem.1 hx
    exact ⟨j, hj, by rw [hg j hj]; exact e⟩
theorem compact_once (l : List Int) : compact (l.mergeSort fun x y => decide (x ≤ y)) = onceL l := by
  have hp : (l.mergeSort fun x y => decide (x ≤ y)).Pairwise (· ≤ ·) := by
    have := List.pairwise_mergeSort (le := fun x y : Int => decide (x ≤ y)) (fun a b c h1 h2 => by simp at *; omega) (fun a b => by simp; omega) l
    exact this.imp (fun h => by simpa using h)
  obtain ⟨h1, h2⟩ := compact_sorted hp
  exact onceL_of h1 fun x => (h2 x).trans List.mem_mergeSort
end Zp
namespace Go.Proofs.Ytmhhgaofilaalaa
open Go.RowKit Zp
theorem putCells_take {off : Nat} {zs : List Int} {c : Array Value} (hz : zs.length ≤ c.size) : (Go.Sort.putCells (Value.int .i64) 0 zs.toArray c).toList.take zs.length = zs.map vi := by
  apply List.ext_getElem?
  intro j
  rw [List.getElem?_take, List.getElem?_map]
  by_cases hj : j < zs.length
  · rw [if_pos hj]
    have e1 : (Go.Sort.putCells (Value.int .i64) 0 zs.toArray c)[j]? = some (.int .i64 zs.toArray[j]!) := by
      unfold Go.Sort.putCells
      rw [Array.getElem?_mapIdx, Array.getElem?_eq_getElem (by omega)]
      simp [hj]
    rw [Array.getElem?_toList, e1, List.getElem?_eq_getElem hj, getElem!_pos _ j (by simpa using hj)]
    simp
  · rw [if_neg hj, List.getElem?_eq_none (by omega)]
    rfl
/-- the cells of one's own ints turned -/
theorem own_put {w : World} {base g n c : Nat} {l zs : List Int} (h : Own w base (.slice (some ⟨g, 0, none⟩) n c) l) (hz : zs.length = l.length) (q : Nat) (os : Array Obj) :
    Own (Go.Sort.grow (Go.Sort.putRow (Value.int .i64) (Go.Sort.ahead w q) g 0 zs.toArray) os) base (.slice (some ⟨g, 0, none⟩) n c) zs ∧ w.grownBy (Go.Sort.grow (Go.Sort.putRow (Value.int .i64) (Go.Sort.ahead w q) g 0 zs.toArray) os) (some g) := by
  obtain ⟨h1, h2⟩ := h
  rcases h2 with ⟨e, _⟩ | ⟨g', cap, cur, e, hb, hg, hn, hc, hs, ht⟩
  · injection e with e; cases e
  · injection e with e1 e2 e3
    injection e1 with e1
    injection e1 with e1
    subst e1 e2 e3
    have hlt : g < w.heap.size := (Array.getElem?_eq_some_iff.1 hg).1
    refine ⟨⟨by simp, .inr ⟨g, c, Go.Sort.putCells (Value.int .i64) 0 zs.toArray cur, by rw [hz], hb, ?_, by rw [hz]; exact hn, hc, ?_, ?_⟩⟩, ⟨rfl, rfl, rfl, by simp, fun i hi hne => ?_⟩⟩
    · rw [Go.Sort.heap_grow_old _ _ (by simpa using hlt)]
      simp only [Go.Sort.putRow, Go.Sort.mapBlock, Go.Sort.heap_ahead, Array.getElem?_modify, if_true, hg, Option.map_some, Go.Sort.onCells]
    · simpa [Go.Sort.putCells] using hs
    · rw [Nat.mul_one]
      exact putCells_take (off := 0) (by rw [hz]; omega)
    · rw [Go.Sort.heap_grow_old _ _ (by simpa using hi)]
      have : g ≠ i := fun e => hne (by rw [e])
      simp only [Go.Sort.putRow, Go.Sort.mapBlock, Go.Sort.heap_ahead, Array.getElem?_modify, if_neg this]
theorem own_holds {w : World} {base g n c : Nat} {l : List Int} (h : Own w base (.slice (some ⟨g, 0, none⟩) n c) l) (hn : n = l.length) : Go.Sort.Holds (Value.int .i64) w g 0 l.toArray := fun j hj => by
  have hj' : j < l.length := by simpa using hj
  rw [Nat.zero_add, getElem!_pos _ j hj]
  exact ⟨by simpa using h.at_ hn j hj', h.frozen_ hn j⟩
/-- what a turn of the caller's own ints leaves -/
def Turned (base : Nat) (v u : Value) (l : List Int) (w : World) (w' : World) : Prop := Own w' base v l ∧ w.grownBy w' u.ownBlock
theorem sort_any {w : World} {base n c : Nat} {A : Option Addr} {l : List Int} (h : Own w base (.slice A n c) l) (hl : l.length = n) (hn : n ≤ 4000000000000000000) :
    Calls Try.prog 31 #[.slice A n c] w fun e w' => e = .returned (.tuple #[]) ∧ Turned base (.slice A n c) (.slice A n c) (l.mergeSort fun x y => decide (x ≤ y)) w w' := by
  rcases h.2 with ⟨e, h0⟩ | ⟨g, cap, cur, e, _, hg, _⟩
  · injection e with e1 e2 e3
    subst e1 e2 e3
    have hle : l = [] := List.eq_nil_of_length_eq_zero h0
    subst hle
    refine (Go.Proofs.AnyM.slices_Sort_int_none shSort none 0 w).mono ?_
    rintro e w' ⟨rfl, rfl⟩
    exact ⟨rfl, by rw [List.mergeSort_nil]; exact h, ⟨rfl, rfl, rfl, Nat.le_refl _, fun _ _ _ => rfl⟩⟩
  · injection e with e1 e2 e3
    subst e1 e3
    have hk := Go.Proofs.AnyM.slices_Sort_int shSort g 0 c l w (own_holds h hl.symm) (Array.getElem?_eq_some_iff.1 hg).1 (by omega)
    rw [hl] at hk
    refine hk.mono ?_
    rintro e w' ⟨rfl, q, os, rfl⟩
    exact ⟨rfl, own_put h (by simp) q os⟩
theorem own_cut {w : World} {base n c k : Nat} {A : Option Addr} {l : List Int} (h : Own w base (.slice A n c) l) (hl : l.length = n) (hk : k ≤ n) : Own w base (.slice A k c) (l.take k) := by
  have hlk : (l.take k).length = k := by rw [List.length_take]; omega
  rcases h.2 with ⟨e, h0⟩ | ⟨g, cap, cur, e, hb, hg, hn, hc, hs, ht⟩
  · injection e with e1 e2 e3
    subst e1 e2 e3
    refine ⟨by simp, .inl ⟨?_, by omega⟩⟩
    have : k = 0 := by omega
    rw [this]
  · injection e with e1 e2 e3
    subst e1 e2 e3
    refine ⟨by simp, .inr ⟨g, c, cur, by rw [hlk], hb, hg, by omega, hc, hs, ?_⟩⟩
    rw [List.map_take, ← ht, List.take_take, hlk]
    congr 1
    omega
theorem compact_any {w : World} {base n c : Nat} {A : Option Addr} {l : List Int} (h : Own w base (.slice A n c) l) (hl : l.length = n) (hn : n ≤ 4000000000000000000) :
    Calls Try.prog 33 #[.slice A n c] w fun e w' => e = .returned (.slice A (Go.Lib.compact l).length c) ∧ Turned base (.slice A (Go.Lib.compact l).length c) (.slice A n c) (Go.Lib.compact l) w w' := by
  rcases h.2 with ⟨e, h0⟩ | ⟨g, cap, cur, e, _, hg, hnc, _⟩
  · injection e with e1 e2 e3
    subst e1 e2 e3
    have hle : l = [] := List.eq_nil_of_length_eq_zero h0
    subst hle
    refine (Go.Proofs.AnyG.slices_Compact_int_empty shCompact none 0 w).mono ?_
    rintro e w' ⟨rfl, rfl⟩
    exact ⟨rfl, h, ⟨rfl, rfl, rfl, Nat.le_refl _, fun _ _ _ => rfl⟩⟩
  · injection e with e1 e2 e3
    subst e1 e3
    have hk := Go.Proofs.AnyG.slices_Compact_int shCompact g 0 c l w (own_holds h hl.symm) (by omega) (by omega)
    rw [hl] at hk
    refine hk.mono ?_
    rintro e w' ⟨rfl, q, rfl⟩
    have hcl : (Go.Lib.compact l).length ≤ l.length := by unfold Go.Lib.compact Go.Lib.compactUpTo; rw [List.length_map]; exact Nat.le_trans (List.length_filter_le _ _) (by simp)
    have hp := own_put h (zs := Go.Lib.compact l ++ List.replicate (n - (Go.Lib.compact l).length) 0) (by simp; omega) q #[]
    rw [Go.Sort.grow_empty] at hp
    have hc2 := own_cut hp.1 (k := (Go.Lib.compact l).length) (by simp; omega) (by omega)
    rw [List.take_left' rfl] at hc2
    exact ⟨rfl, hc2, hp.2⟩
end Go.Proofs.Ytmhhgaofilaalaa

/- Walks: slices.Clip; IndexFunc and ContainsFunc at ints, with a function that has captured cells; the closures of tree.Open. -/
set_option linter.unusedVariables false
namespace Go.Proofs.Ytmhhgaofilaalaa
open Go.RowKit Zp
theorem clipI_any (A : Option Addr) (n c : Nat) (hn : n ≤ c) (w : World) (hc : A = none → c = 0) :
    Calls Try.prog 32 #[.slice A n c] w fun e w' => e = .returned (.slice A n n) ∧ w = w' := by
  cases A with
  | none =>
    obtain rfl := hc rfl
    obtain rfl : n = 0 := by omega
    go_enter Try.func32, Try.ntmps32
    go_wp2
    go_ret
    exact ⟨rfl, rfl⟩
  | some ad =>
    have t1 : (n : Int) ≤ (c : Int) := by omega
    clear hc
    go_enter Try.func32, Try.ntmps32
    go_wp2
    go_ret
    exact ⟨rfl, rfl⟩
theorem clipR_any (A : Option Addr) (n c : Nat) (hn : n ≤ c) (w : World) (hc : A = none → c = 0) :
    Calls Try.prog 38 #[.slice A n c] w fun e w' => e = .returned (.slice A n n) ∧ w = w' := by
  cases A with
  | none =>
    obtain rfl := hc rfl
    obtain rfl : n = 0 := by omega
    go_enter Try.func38, Try.ntmps38
    go_wp2
    go_ret
    exact ⟨rfl, rfl⟩
  | some ad =>
    have t1 : (n : Int) ≤ (c : Int) := by omega
    clear hc
    go_enter Try.func38, Try.ntmps38
    go_wp2
    go_ret
    exact ⟨rfl, rfl⟩
theorem own_none {w : World} {base n c : Nat} {A : Option Addr} {l : List Int} (h : Own w base (.slice A n c) l) : A = none → c = 0 := fun e => by
  subst e
  rcases h.2 with ⟨e, _⟩ | ⟨g, cap, cur, e, _⟩
  · injection e
  · injection e with e1; cases e1
theorem ownR_none {w : World} {base n c : Nat} {A : Option Addr} {us : List Value} (h : OwnR w base (.slice A n c) us) : A = none → c = 0 := fun e => by
  subst e
  rcases h.2 with ⟨e, _⟩ | ⟨g, cap, cur, e, _⟩
  · injection e
  · injection e with e1; cases e1
/-- the first of which P says yes, or -1 -/
def idxI (P : Int → Bool) (l : List Int) : Int := if l.any P then ((l.findIdx P : Nat) : Int) else -1
theorem idxI_no {P : Int → Bool} {l : List Int} (h : l.any P = false) : idxI P l = -1 := by unfold idxI; rw [h]; rfl
theorem idxI_yes {P : Int → Bool} {l : List Int} {k : Nat} (h : l.any P = true) (hk : l.findIdx P = k) : idxI P l = k := by unfold idxI; rw [h, hk]; rfl
set_option maxRecDepth 100000 in
set_option maxHeartbeats 1000000 in
theorem indexI_any (K : Nat) (hK : ∀ (args : Array Value) (w : World), (callFunc K args).run Try.prog w = .ok (.enter K args) w) (caps : Array Value) (P : Int → Bool) (A : Option Addr) (N c : Nat) (l : List Int) (hN : l.length = N) (hN2 : N ≤ 9223372036854775806)
    (w : World) (hY : ∀ x ∈ l, Calls Try.prog K (#[vi x] ++ caps) w fun e w' => e = .returned (.bool (P x)) ∧ w = w') (hT : SL w A l) :
    Calls Try.prog 57 #[.slice A N c, .func (.func K) #[] caps] w fun e w' => e = .returned (vi (idxI P l)) ∧ w = w' := by
  have HN := Lib.hid hN
  have HT := Lib.hid hT
  have HY := Lib.hid hY
  clear hN hT hY
  go_enter Try.func57, Try.ntmps57
  go_wp2
  go_loop [8] (fun i => ∃ k : Nat, k ≤ N ∧ i = vi k ∧ ∀ j (h : j < l.length), j < k → P l[j] = false) (fun i => N - (intOf i).toNat)
  case atStart => exact ⟨0, Nat.zero_le _, rfl, fun j _ hj => absurd hj (Nat.not_lt_zero _)⟩
  case round =>
    obtain ⟨k, hk, rfl, hb⟩ := hrel
    have HB := Lib.hid hb
    clear hb
    by_cases hlt : k < N
    · have hkt : k < l.length := by rw [HN.out]; exact hlt
      obtain ⟨ad, rfl, hb1, hc1⟩ := HT.out.at_ hkt
      have i1 : (0 : Int) ≤ k := by omega
      have i2 : (k : Int) < N := by omega
      have i3 : (k : Int) + 1 ≤ 9223372036854775807 := by omega
      have hyk := HY.out _ (List.getElem_mem hkt)
      obtain ⟨x, hx⟩ : ∃ x, x = l[k] := ⟨_, rfl⟩
      rw [← hx] at hyk hc1
      have HYK := Lib.hid hyk
      have HX := Lib.hid hx
      clear hx hyk
      by_cases hp : P x = true
      · have HR : Hid (idxI P l = k) := Lib.hid (by
          have hpk : P l[k] = true := by rw [← HX.out]; exact hp
          exact idxI_yes (List.any_eq_true.2 ⟨_, List.getElem_mem hkt, hpk⟩) (by
            rw [List.findIdx_eq hkt]
            exact ⟨hpk, fun j hj => by simpa using HB.out j (by omega) hj⟩))
        have HP := Lib.hid hp
        clear hp
        go_wp2_with fail
        refine HYK.out.mono ?_
        rintro _ _ ⟨rfl, rfl⟩
        rw [HP.out]
        go_wp2
        go_ret
        exact ⟨ret_int HR.out.symm, rfl⟩
      · have HP := Lib.hid (show P x = false by simpa using hp)
        have HBB : Hid (∀ j (h : j < l.length), j < k + 1 → P l[j] = false) := Lib.hid (fun j h hj => by
          by_cases e : j < k
          · exact HB.out j h e
          · obtain rfl : j = k := by omega
            rw [← HX.out]; exact HP.out)
        clear hp
        go_wp2_with fail
        refine HYK.out.mono ?_
        rintro _ _ ⟨rfl, rfl⟩
        rw [HP.out]
        go_wp2
        go_round
        case rel => exact ⟨k + 1, by omega, by go_num, HBB.out⟩
        case measure => simp [intOf]; omega
    · obtain rfl : k = N := by omega
      have HR : Hid (idxI P l = -1) := Lib.hid (idxI_no (by
        rw [Bool.eq_false_iff]
        intro h
        obtain ⟨x, hx, hp⟩ := List.any_eq_true.1 h
        obtain ⟨j, hj, rfl⟩ := List.mem_iff_getElem.1 hx
        rw [HB.out j hj (by rw [← HN.out]; exact hj)] at hp
        cases hp))
      go_wp2
      go_ret
      exact ⟨ret_int HR.out.symm, rfl⟩
theorem containsI_any (K : Nat) (hK : ∀ (args : Array Value) (w : World), (callFunc K args).run Try.prog w = .ok (.enter K args) w) (caps : Array Value) (P : Int → Bool) (A : Option Addr) (N c : Nat) (l : List Int) (hN : l.length = N) (hN2 : N ≤ 9223372036854775806)
    (w : World) (hY : ∀ x ∈ l, Calls Try.prog K (#[vi x] ++ caps) w fun e w' => e = .returned (.bool (P x)) ∧ w = w') (hT : SL w A l) :
    Calls Try.prog 29 #[.slice A N c, .func (.func K) #[] caps] w fun e w' => e = .returned (.bool (l.any P)) ∧ w = w' := by
  have HI := Lib.hid (indexI_any K hK caps P A N c l hN hN2 w hY hT)
  clear hY hT hN
  cases hb : l.any P
  · rw [idxI_no hb] at HI
    clear hb
    go_enter Try.func29, Try.ntmps29
    go_wp2_with fail
    refine HI.out.mono ?_
    rintro _ _ ⟨rfl, rfl⟩
    go_wp2
    go_ret
    exact ⟨by simp, rfl⟩
  · obtain ⟨t, ht⟩ : ∃ t, l.findIdx P = t := ⟨_, rfl⟩
    rw [idxI_yes hb ht] at HI
    have h0 : (0 : Int) ≤ (t : Int) := by omega
    clear hb ht
    go_enter Try.func29, Try.ntmps29
    go_wp2_with fail
    refine HI.out.mono ?_
    rintro _ _ ⟨rfl, rfl⟩
    go_wp2
    go_ret
    exact ⟨by simp, rfl⟩
/-- a place that is none of N rows -/
def outB (N : Nat) (x : Int) : Bool := decide (¬ (0 ≤ x ∧ x < N))
theorem open1_any (x : Int) (b : Nat) (A : Option Addr) (N c : Nat) (w : World) (hc : w.cell? ⟨b, 0, none⟩ = some (.slice A N c)) :
    Calls Try.prog 30 #[vi x, .pointer (some ⟨b, 0, none⟩)] w fun e w' => e = .returned (.bool (outB N x)) ∧ w = w' := by
  by_cases h1 : x < 0
  · have HR := Lib.hid (show outB N x = true from decide_eq_true (by omega))
    have t1 : decide (x < 0) = true := decide_eq_true h1
    go_enter Try.func30, Try.ntmps30
    go_wp2
    go_ret
    exact ⟨ret_bool HR.out.symm, rfl⟩
  · have t1 : decide (x < 0) = false := decide_eq_false h1
    by_cases h2 : (N : Int) ≤ x
    · have HR := Lib.hid (show outB N x = true from decide_eq_true (by omega))
      have t2 : decide ((N : Int) ≤ x) = true := decide_eq_true h2
      go_enter Try.func30, Try.ntmps30
      go_wp2
      go_ret
      exact ⟨ret_bool HR.out.symm, rfl⟩
    · have HR := Lib.hid (show outB N x = false from decide_eq_false (by omega))
      have t2 : decide ((N : Int) ≤ x) = false := decide_eq_false h2
      go_enter Try.func30, Try.ntmps30
      go_wp2
      go_ret
      exact ⟨ret_bool HR.out.symm, rfl⟩
end Go.Proofs.Ytmhhgaofilaalaa

/- Walks: tree.hidden, with a function that turns memory of its own; the closure of tree.Open that keeps the roots. -/
set_option linter.unusedVariables false
namespace Go.Proofs.Ytmhhgaofilaalaa
open Go.RowKit Zp
/-- groups in memory are kept -/
def KeepG (w w' : World) : Prop := w.heap.size ≤ w'.heap.size ∧ ∀ g cs, Blk w g 54 cs → Blk w' g 54 cs
theorem KeepG.trans {a b c : World} (h : KeepG a b) (k : KeepG b c) : KeepG a c := ⟨Nat.le_trans h.1 k.1, fun g cs hb => k.2 g cs (h.2 g cs hb)⟩
theorem KeepG.of {w w' : World} (h : Below w.heap.size w w') : KeepG w w' := ⟨h.size, fun g cs hb => Blk.below hb h hb.lt⟩
theorem KeepG.one {w w' : World} {x : Nat} {t : TypeId} {cx : Array Value} (hx : Blk w x t cx) (ht : t ≠ 54) (h : w.grownBy w' (some x)) : KeepG w w' := ⟨h.size, fun g cs hb => Blk.grown hb h (by intro e; injection e with e; exact Blk.ne_ hb hx (Ne.symm ht) e)⟩
theorem KeepG.grew {w w' : World} {base : Nat} {v v' : Value} {us vs : List Value} (h : GrewR w w' base v v' us) (ho : OwnR w base v vs) : KeepG w w' := ⟨h.grown.size, fun g cs hb => Blk.grown hb h.grown (by
  rcases hv : v.ownBlock with _ | x
  · intro e; cases e
  · obtain ⟨cx, hx⟩ := ownR_blk ho hv
    intro e; injection e with e
    exact Blk.ne_ hb hx (by decide) e)⟩
set_option maxRecDepth 100000 in
set_option maxHeartbeats 1000000 in
theorem hidden_gen (K : Nat) (hK : ∀ (args : Array Value) (w : World), (callFunc K args).run Try.prog w = .ok (.enter K args) w) (caps : Array Value) (N : Nat) (hNN : N ≤ 65536) (A0 : Option Addr) (n c : Nat) (l : List Int) (hml : l.length = n) (hn : n ≤ 65536) (hup : Asc l)
    (J : List (Nat × Nat) → World → Prop) (hJ : ∀ pre W W', J pre W → Below W.heap.size W W' → J pre W') (hJs : ∀ pre W, J pre W → SL W A0 l)
    (hY : ∀ (pre : List (Nat × Nat)) (a m : Nat) (W : World), J pre W → pre.length ≤ a → 1 ≤ m → a + m ≤ N → Calls Try.prog K (#[.agg #[vi (a : Int), vi ((a : Int) + (m : Int))]] ++ caps) W fun e W' => (∃ r, e = .returned r) ∧ J (pre ++ [(a, m)]) W' ∧ KeepG W W') :
    ∀ (m a : Nat), 1 ≤ m → a + m ≤ N → ∀ (pre : List (Nat × Nat)) (w : World), pre.length ≤ a → J pre w →
    Calls Try.prog 36 #[Gp a (a + m), .slice A0 n c, .func (.func K) #[] caps] w fun e w' => (∃ r, e = .returned r) ∧ J (pre ++ hidL l a m) w' ∧ KeepG w w' := by
  intro m
  induction m using Nat.strongRecOn with
  | ind m ih =>
    intro a h1 ha pre w hpl hj
    have hs := hJs _ _ hj
    have hb1 : Below w.heap.size w (w.alloc (.cells #[vi a, vi ((a : Int) + m)] 54)) := (Below.refl _ _).alloc (Nat.le_refl _) _
    have hB := Blk.new w 54 #[vi a, vi ((a : Int) + m)]
    have HSH := Lib.hid (shows_any A0 n c l hml hn hup a m (by omega) _ (hs.below hb1))
    have HB1 := Lib.hid hb1
    by_cases hsh : shownB l a m = true
    · have HS0 := Lib.hid hsh
      by_cases h2 : 2 ≤ m
      · have hlf := leftN_lt h2
        have HHL := Lib.hid (show hidL l a m = hidL l a (leftN m) ++ hidL l (a + leftN m) (m - leftN m) by rw [hidL, if_pos hsh, dif_pos h2])
        have HH := Lib.hid (fun w => halves_any a m h2 (by omega) w)
        obtain ⟨j, hj'⟩ : ∃ j, j = leftN m := ⟨_, rfl⟩
        rw [← hj'] at hlf HH HHL
        obtain ⟨hj1, hj2, hj3⟩ := hlf
        have I1 := Lib.hid (fun W (x : J pre W) => ih j hj1 a hj3 (by omega) pre W hpl x)
        have I2 : Hid (∀ W, J (pre ++ hidL l a j) W → Calls Try.prog 36 #[.agg #[vi ((a : Int) + j), vi ((a : Int) + m)], .slice A0 n c, .func (.func K) #[] caps] W fun e w' => (∃ r, e = .returned r) ∧ J ((pre ++ hidL l a j) ++ hidL l (a + j) (m - j)) w' ∧ KeepG W w') := Lib.hid (fun W x => by
          have h := ih (m - j) (by omega) (a + j) (by omega) (by omega) (pre ++ hidL l a j) W (by rw [List.length_append]; have := hidL_le' l j a hj3; omega) x
          rw [show a + j + (m - j) = a + m by omega] at h
          simpa [Gp] using h)
        have t1 : decide (1 < (m : Int)) = true := by simp; omega
        have t2 : decide ((1 : Int) < (a : Int) + (m : Int) - (a : Int)) = true := by simp; omega
        have HJ := Lib.hid hj
        have HJB := Lib.hid hJ
        have HBB := Lib.hid hB
        have HSS := Lib.hid hs
        clear hsh hB hb1 ih hJ hJs hY hup hml hj hj' hs
        go_enter Try.func36, Try.ntmps36
        go_wp2_with fail
        refine HSH.out.mono ?_
        rintro e w2 ⟨rfl, hb2⟩
        rw [HS0.out]
        have hB2 := Blk.below HBB.out hb2 HBB.out.lt
        have e0 := (hB2.cell 0).trans (show _ = some (vi a) from rfl)
        have e1 := (hB2.cell 1).trans (show _ = some (vi ((a : Int) + m)) from rfl)
        have hb02 := HB1.out.trans (hb2.mono HB1.out.size)
        have HB02 := Lib.hid hb02
        clear hB2 hb2 hb02
        go_wp2_with fail
        refine (HH.out w2).mono ?_
        rintro _ w3 ⟨rfl, hb3⟩
        have hb03 := HB02.out.trans (hb3.mono HB02.out.size)
        have HB03 := Lib.hid hb03
        clear e0 e1 hb3 hb03
        go_wp2_with fail
        obtain ⟨q, hq⟩ : ∃ q, q = w3.heap.size := ⟨_, rfl⟩
        obtain ⟨W4, hW4⟩ : ∃ W4, W4 = (w3.alloc (.cells #[vi a, vi ((a : Int) + j)] 54)).alloc (.cells #[vi ((a : Int) + j), vi ((a : Int) + m)] 54) := ⟨_, rfl⟩
        rw [← hW4]
        have hB7 := (Blk.new w3 54 #[vi a, vi ((a : Int) + j)]).alloc (.cells #[vi ((a : Int) + j), vi ((a : Int) + m)] 54)
        have hB8 := Blk.new (w3.alloc (.cells #[vi a, vi ((a : Int) + j)] 54)) 54 #[vi ((a : Int) + j), vi ((a : Int) + m)]
        rw [← hW4, show (w3.alloc (.cells #[vi a, vi ((a : Int) + j)] 54)).heap.size = q + 1 by simp [hq]] at hB8
        rw [← hW4, ← hq] at hB7
        have hb4 : Below w.heap.size w W4 := by rw [hW4]; exact (HB03.out.alloc HB03.out.size _).alloc (by have := HB03.out.size; simp; omega) _
        have hqs := HB03.out.size
        rw [← hq] at hqs ⊢
        clear hW4 hq
        refine (I1.out W4 (HJB.out _ _ _ HJ.out hb4)).mono ?_
        rintro _ w5 ⟨⟨r5, rfl⟩, hj5, hg5⟩
        have hB8' := hg5.2 _ _ hB8
        have e0 := (hB8'.cell 0).trans (show _ = some (vi ((a : Int) + j)) from rfl)
        have e1 := (hB8'.cell 1).trans (show _ = some (vi ((a : Int) + m)) from rfl)
        have HJ5 := Lib.hid hj5
        have HG5 := Lib.hid ((KeepG.of hb4).trans hg5)
        have HX := Lib.hid (I2.out w5 hj5)
        clear hB7 hB8 hB8' hj5 hg5 hb4 I1 I2 HJ
        go_wp2_with fail
        refine HX.out.mono ?_
        rintro _ w6 ⟨⟨r6, rfl⟩, hj6, hg6⟩
        have HFIN : Hid (J (pre ++ hidL l a m) w6 ∧ KeepG w w6) := Lib.hid ⟨by rw [HHL.out, ← List.append_assoc]; exact hj6, HG5.out.trans hg6⟩
        clear hj6 hg6 HX e0 e1
        go_wp2
        go_end0
        exact ⟨⟨_, rfl⟩, HFIN.out.1, HFIN.out.2⟩
      · have e : m = 1 := by omega
        subst e
        have HHL := Lib.hid (show hidL l a 1 = [] by rw [hidL, if_pos hsh, dif_neg h2])
        have HJ := Lib.hid hj
        have HJB := Lib.hid hJ
        have HBB := Lib.hid hB
        clear hsh hB hb1 ih hJ hJs hY hup hml hj
        go_enter Try.func36, Try.ntmps36
        go_wp2_with fail
        refine HSH.out.mono ?_
        rintro e w2 ⟨rfl, hb2⟩
        rw [HS0.out]
        have hB2 := Blk.below HBB.out hb2 HBB.out.lt
        have e0 := (hB2.cell 0).trans (show _ = some (vi a) from rfl)
        have e1 := (hB2.cell 1).trans (show _ = some (vi ((a : Int) + 1)) from rfl)
        have hb02 := HB1.out.trans (hb2.mono HB1.out.size)
        have HFIN : Hid (J (pre ++ hidL l a 1) w2 ∧ KeepG w w2) := Lib.hid ⟨by rw [HHL.out, List.append_nil]; exact HJB.out _ _ _ HJ.out hb02, KeepG.of hb02⟩
        clear hB2 hb2 hb02
        go_wp2
        go_end0
        exact ⟨⟨_, rfl⟩, HFIN.out.1, HFIN.out.2⟩
    · have HS0 := Lib.hid (show shownB l a m = false by simpa using hsh)
      have HHL := Lib.hid (show hidL l a m = [(a, m)] by rw [hidL, if_neg hsh])
      have HYY := Lib.hid (fun W h => hY pre a m W h hpl h1 ha)
      have HJ := Lib.hid hj
      have HJB := Lib.hid hJ
      have HBB := Lib.hid hB
      clear hsh hB hb1 ih hJ hJs hY hup hml hj
      go_enter Try.func36, Try.ntmps36
      go_wp2_with fail
      refine HSH.out.mono ?_
      rintro e w2 ⟨rfl, hb2⟩
      rw [HS0.out]
      have hB2 := Blk.below HBB.out hb2 HBB.out.lt
      have e0 := (hB2.cell 0).trans (show _ = some (vi a) from rfl)
      have e1 := (hB2.cell 1).trans (show _ = some (vi ((a : Int) + m)) from rfl)
      have hb02 := HB1.out.trans (hb2.mono HB1.out.size)
      have HB02 := Lib.hid hb02
      clear hB2 hb2 hb02
      go_wp2_with fail
      refine (HYY.out w2 (HJB.out _ _ _ HJ.out HB02.out)).mono ?_
      rintro _ w3 ⟨⟨r3, rfl⟩, hj3, hg3⟩
      have HFIN : Hid (J (pre ++ hidL l a m) w3 ∧ KeepG w w3) := Lib.hid ⟨by rw [HHL.out]; exact hj3, (KeepG.of HB02.out).trans hg3⟩
      clear hj3 hg3 e0 e1
      go_wp2
      exact bodyPost_ret (results_none rfl _ _ _) rfl ⟨⟨_, rfl⟩, HFIN.out.1, HFIN.out.2⟩
theorem step_appR {ops : Array Oper} {o : Oper} {a : Act} {K : Act → World → Prop} {Q : Exit → Act → World → Prop} {E : Prop} (w : World) (A : Option Addr) (n c : Nat) (hgd : o.guard = none) (s x : Operand)
    (ho : o.op = .call { callee := .builtin .append, args := #[s, x], argTypes := #[23, 23] })
    (base : Nat) (v : Value) (us : List Value) (hs : a.eval s = v) (hx : a.eval x = .slice (some ⟨w.heap.size, 0, none⟩) 1 1) (hown : OwnR w base v us) (hlen : us.length < 5864062014805) (hbase : base ≤ w.heap.size)
    (h : ∀ v' w', GrewR w w' base v v' (us ++ [.slice A n c]) → K (a.put o.dst v') w') :
    if Region.wanted o (yielded ops a.tmps) = true then Oper.wp Try.prog o a (w.alloc (.cells #[.slice A n c] 22)) K Q else E := by
  have hw : Region.wanted o (yielded ops a.tmps) = true := by simp [Region.wanted, hgd]
  rw [if_pos hw]
  obtain ⟨v', w', hrun, hg⟩ := run_appR w base v us A n c hown hlen hbase o.type
  unfold Oper.wp execOp
  simp only [ho, resolve, invoke, builtin, Sem.run_bind, Sem.run_pure, Result.andThen_ok, List.map_toArray, List.map_cons, List.map_nil, hs, hx, hrun]
  exact h v' w' hg
theorem grownBy_new {w0 w w' : World} {ob : Nat} {row : Option Nat} (h : w0.grownBy w (some ob)) (hg : w.grownBy w' row) (hr : ∀ k, row = some k → w0.heap.size ≤ k) : w0.grownBy w' (some ob) :=
  ⟨hg.os.trans h.os, hg.tape.trans h.tape, hg.output.trans h.output, Nat.le_trans h.size hg.size, fun i hi hne => (hg.block i (Nat.lt_of_lt_of_le hi h.size) (fun e => by have := hr i e.symm; omega)).trans (h.block i hi hne)⟩
/-- the roots that are kept so far -/
def NodesJ (H : Nat × Nat → List Int) (W4 : World) (ob : Nat) (ov rv : Value) (pre : List (Nat × Nat)) (W : World) : Prop :=
  ∃ nv vs, Blk W ob 25 #[ov, rv, nv] ∧ OwnR W W4.heap.size nv vs ∧ UsAt W vs (pre.map H) ∧ W4.grownBy W (some ob)
theorem NodesJ.below {H : Nat × Nat → List Int} {W4 : World} {ob : Nat} {ov rv : Value} {pre : List (Nat × Nat)} {W W' : World} (h : NodesJ H W4 ob ov rv pre W) (hb : Below W.heap.size W W') : NodesJ H W4 ob ov rv pre W' := by
  obtain ⟨nv, vs, h1, h2, h3, h4⟩ := h
  exact ⟨nv, vs, Blk.below h1 hb h1.lt, OwnR.below h2 hb, h3.below hb, grownBy_trans h4 (grown_of_below hb _)⟩
/-- one root more is kept -/
theorem NodesJ.push {H : Nat × Nat → List Int} {W4 W3 W5 : World} {ob g c : Nat} {ov rv nv v' : Value} {vs : List Value} {t : TypeId} {cs : Array Value} {pre : List (Nat × Nat)} {x : Nat × Nat} (hob : ob < W4.heap.size)
    (h1 : Blk W3 ob 25 #[ov, rv, nv]) (h2 : OwnR W3 W4.heap.size nv vs) (h3 : UsAt W3 vs (pre.map H)) (h4 : W4.grownBy W3 (some ob))
    (hg : Blk W3 g t cs) (ht1 : t ≠ 22) (ht2 : t ≠ 25) (hs : SL W3 (some ⟨g, 0, none⟩) (H x)) (hl : (H x).length = 4) (hi : ∀ y ∈ H x, I64 y)
    (hG : GrewR W3 W5 W4.heap.size nv v' (vs ++ [.slice (some ⟨g, 0, none⟩) 4 c])) :
    Blk W5 ob 25 #[ov, rv, nv] ∧ NodesJ H W4 ob ov rv (pre ++ [x]) (W5.setCell ⟨ob, 2, none⟩ v') ∧ KeepG W3 (W5.setCell ⟨ob, 2, none⟩ v') := by
  have hne : some ob ≠ nv.ownBlock := fun e => by
    have := (World.ownsRow.lt h2 ob e.symm).1
    omega
  have hb := Blk.grown h1 hG.grown hne
  have hs' : W5.grownBy (W5.setCell ⟨ob, 2, none⟩ v') (some ob) := blk_grown
  have hu := UsAt.grew hG h2 (h3.app (UsAt.one (c := c) hg ht1 ht2 hs hl hi))
  rw [show pre.map H ++ [H x] = (pre ++ [x]).map H by simp] at hu
  exact ⟨hb, ⟨v', _, hb.set_ 2 v', ownR_past hG.own hs' hob, hu.far hb (.inr rfl) hs', grownBy_trans (grownBy_new h4 hG.grown fun k hk => (World.ownsRow.lt h2 k hk).1) hs'⟩, (KeepG.grew hG h2).trans (KeepG.one hb (by decide) hs')⟩
end Go.Proofs.Ytmhhgaofilaalaa

/- The walk of the closure of tree.Open that keeps the roots. -/
set_option linter.unusedVariables false
set_option linter.unusedSimpArgs false
namespace Go.Proofs.Ytmhhgaofilaalaa
open Go.RowKit Zp
set_option maxRecDepth 100000 in
set_option maxHeartbeats 2000000 in
theorem open2_any (p S b s k z : Nat) [NeZero p] (oo : Nat → Nat → Fin p) (A : Option Addr) (N c : Nat) (ls : List (List Int)) (hN : ls.length = N) (hN2 : N ≤ 65536) (hR : ∀ l ∈ ls, l.length * 8 + 80 ≤ 140737488355328) (ob sb rb : Nat) (ov rv : Value) (W4 : World) (hob : ob < W4.heap.size)
    (hE : ∀ W, W4.grownBy W (some ob) → Fld W S b p ∧ Spg W s b k z oo ∧ TB W A ls ∧ W.cell? ⟨sb, 0, none⟩ = some (.pointer (some ⟨s, 0, none⟩)) ∧ W.cell? ⟨rb, 0, none⟩ = some (.slice A N c))
    (pre : List (Nat × Nat)) (a m : Nat) (W : World) (hJ : NodesJ (fun g => rootD (digL p k) (rowF ls) g.1 g.2) W4 ob ov rv pre W) (hpl : pre.length ≤ a) (h1 : 1 ≤ m) (ha : a + m ≤ N) :
    Calls Try.prog 37 #[.agg #[vi (a : Int), vi ((a : Int) + (m : Int))], .pointer (some ⟨ob, 0, none⟩), .pointer (some ⟨sb, 0, none⟩), .pointer (some ⟨rb, 0, none⟩)] W fun e W' => (∃ r, e = .returned r) ∧ NodesJ (fun g => rootD (digL p k) (rowF ls) g.1 g.2) W4 ob ov rv (pre ++ [(a, m)]) W' ∧ KeepG W W' := by
  obtain ⟨H, hH⟩ : ∃ H : Nat × Nat → List Int, H = fun g => rootD (digL p k) (rowF ls) g.1 g.2 := ⟨_, rfl⟩
  have HRT : Hid (∀ W', Fld W' S b p → Spg W' s b k z oo → TB W' A ls → Calls Try.prog 28 #[.pointer (some ⟨s, 0, none⟩), .slice A N c, .agg #[vi (a : Int), vi ((a : Int) + (m : Int))]] W' (RootIs (H (a, m)) W')) := Lib.hid (fun W' F G T => by
    have h := troot_any p S b s k z oo A N c ls hN hN2 hR m a h1 ha W' F G T
    rw [hH]
    simpa [Gp] using h)
  rw [← hH] at hJ ⊢
  obtain ⟨nv, vs, hblk, hno, hus, hgr⟩ := hJ
  obtain ⟨AV, nV, cV, rfl, hnV, _⟩ := ownR_shape hno
  have HVL := Lib.hid (show vs.length < 5864062014805 by have := hus.1; rw [List.length_map] at this; omega)
  obtain ⟨W1, hW1⟩ : ∃ W1, W1 = W.alloc (.cells #[vi a, vi ((a : Int) + m)] 54) := ⟨_, rfl⟩
  have hb1 : Below W.heap.size W W1 := by rw [hW1]; exact (Below.refl _ _).alloc (Nat.le_refl _) _
  have hBg : Blk W1 W.heap.size 54 #[vi a, vi ((a : Int) + m)] := by rw [hW1]; exact Blk.new _ _ _
  have KX : Hid (∀ W', Below W1.heap.size W1 W' → (Fld W' S b p ∧ Spg W' s b k z oo ∧ TB W' A ls) ∧ Blk W' ob 25 #[ov, rv, .slice AV nV cV] ∧ OwnR W' W4.heap.size (.slice AV nV cV) vs ∧ UsAt W' vs (pre.map H) ∧ W4.grownBy W' (some ob)) := Lib.hid fun W' hb => by
    have hb' := hb1.trans (hb.mono hb1.size)
    have hg' := grownBy_trans hgr (grown_of_below hb' (some ob))
    obtain ⟨e1, e2, e3, _⟩ := hE W' hg'
    exact ⟨⟨e1, e2, e3⟩, Blk.below hblk hb' hblk.lt, OwnR.below hno hb', hus.below hb', hg'⟩
  have KS : Hid (∀ W', (W4.grownBy W' (some ob) ∧ KeepG W1 W') → W'.cell? ⟨sb, 0, none⟩ = some (.pointer (some ⟨s, 0, none⟩)) ∧ W'.cell? ⟨rb, 0, none⟩ = some (.slice A N c) ∧ W'.cell? ⟨W.heap.size, 0, none⟩ = some (vi a) ∧ W'.cell? ⟨W.heap.size, 1, none⟩ = some (vi ((a : Int) + m))) := Lib.hid fun W' hb => by
    obtain ⟨_, _, _, e4, e5⟩ := hE W' hb.1
    have hq := hb.2.2 _ _ hBg
    exact ⟨e4, e5, (hq.cell 0).trans rfl, (hq.cell 1).trans rfl⟩
  have HOB := Lib.hid hob
  have HKG := Lib.hid (KeepG.of hb1)
  have hb11 : Below W1.heap.size W1 W1.drew := below_drewN (Below.refl _ _) 1
  have kk1 : W4.grownBy W1.drew (some ob) ∧ KeepG W1 W1.drew := ⟨(KX.out _ hb11).2.2.2.2, KeepG.of hb11⟩
  have c1 := ((KX.out _ (Below.refl _ _)).2.1.cell 2).trans (show _ = some (.slice AV nV cV) from rfl)
  have c2 := ((KX.out _ hb11).2.1.cell 2).trans (show _ = some (.slice AV nV cV) from rfl)
  have HW1 := Lib.hid hW1
  clear hH hE hblk hno hus hgr hob hpl h1 ha hN hN2 hR hb1 hBg hW1 hnV
  go_enter Try.func37, Try.ntmps37
  go_wp2_with fail
  rw [← HW1.out]
  refine wp_region_held_drew (S := fun w' => w'.cell? ⟨sb, 0, none⟩ = some (.pointer (some ⟨s, 0, none⟩)) ∧ w'.cell? ⟨rb, 0, none⟩ = some (.slice A N c) ∧ w'.cell? ⟨W.heap.size, 0, none⟩ = some (vi a) ∧ w'.cell? ⟨W.heap.size, 1, none⟩ = some (vi ((a : Int) + m))) (by kernel_rfl) (KS.out _ kk1) (fun hHeld => ?_)
  refine wpAnyH_take_at (i := 0) rfl rfl (by kernel_rfl) (by kernel_rfl) (by kernel_rfl) (fun _ _ _ h => h) (Or.inl ⟨by rfl, by (intro w hSw; (try dsimp only at hSw); go_simp; try with_reducible rfl)⟩) (by assumption) ?_
  (try simp only [Act.put, List.setIfInBounds_toArray, List.set_cons_zero, List.set_cons_succ])
  refine wpAnyH_take_at (i := 2) rfl rfl (by kernel_rfl) (by kernel_rfl) (by kernel_rfl) (fun _ _ _ h => h) (Or.inl ⟨by rfl, by (intro w hSw; (try dsimp only at hSw); go_simp; try with_reducible rfl)⟩) (by assumption) ?_
  (try simp only [Act.put, List.setIfInBounds_toArray, List.set_cons_zero, List.set_cons_succ])
  refine wpAnyH_take_at (i := 3) rfl rfl (by kernel_rfl) (by kernel_rfl) (by kernel_rfl) (fun _ _ _ h => h) (Or.inl ⟨by rfl, by (intro w hSw; (try dsimp only at hSw); go_simp; try with_reducible rfl)⟩) (by assumption) ?_
  (try simp only [Act.put, List.setIfInBounds_toArray, List.set_cons_zero, List.set_cons_succ])
  refine wpAnyH_take_at (i := 4) rfl rfl (by kernel_rfl) (by kernel_rfl) (by kernel_rfl) (fun _ _ _ h => h) (Or.inl ⟨by rfl, by (intro w hSw; (try dsimp only at hSw); go_simp; try with_reducible rfl)⟩) (by assumption) ?_
  (try simp only [Act.put, List.setIfInBounds_toArray, List.set_cons_zero, List.set_cons_succ])
  refine wpAnyH_ready (rs := [1, 5]) (by kernel_rfl) (by simp) ?_
  refine AllReadyH.cons rfl (fun K hK => ?_) (AllReadyH.cons rfl (fun K hK => ?_) AllReadyH.nil)
  · go_simp
    refine hK.out _ _ (by (first | exact KS.out _ (by assumption) | (simp only [Act.put]; exact KS.out _ (by assumption)))) (fun hHeld => ?_)
    clear hK K
    (try simp only [Act.put, List.setIfInBounds_toArray, List.set_cons_zero, List.set_cons_succ])
    refine wpAnyH_ready (rs := [5]) (by kernel_rfl) (by simp) ?_
    refine AllReadyH.cons rfl (fun K hK => ?_) AllReadyH.nil
    go_simp
    refine (HRT.out _ (KX.out _ hb11).1.1 (KX.out _ hb11).1.2.1 (KX.out _ hb11).1.2.2).mono ?_
    rintro _ w3 ⟨g3, rfl, ⟨x3, y3⟩, s3, l3, i3, n3, hb3⟩
    have hb13 : Below W1.heap.size W1 w3 := hb11.trans (hb3.mono hb11.size)
    have HX3 := Lib.hid (show _ ∧ _ ∧ _ ∧ _ ∧ W4.heap.size ≤ w3.heap.size ∧ Below W1.heap.size W1 w3 from ⟨(KX.out _ hb13).2.1, (KX.out _ hb13).2.2.1, (KX.out _ hb13).2.2.2.1, (KX.out _ hb13).2.2.2.2, (KX.out _ hb13).2.2.2.2.size, hb13⟩)
    have HG3 := Lib.hid (And.intro y3 (And.intro s3 (And.intro l3 i3)))
    have kk3 : W4.grownBy w3 (some ob) ∧ KeepG W1 w3 := ⟨(KX.out _ hb13).2.2.2.2, KeepG.of hb13⟩
    have hba := (Below.refl w3.heap.size w3).alloc (Nat.le_refl _) (.cells #[.slice (some ⟨g3, 0, none⟩) 4 4] 22)
    have kk4 : W4.grownBy (w3.alloc (.cells #[.slice (some ⟨g3, 0, none⟩) 4 4] 22)) (some ob) ∧ KeepG W1 (w3.alloc (.cells #[.slice (some ⟨g3, 0, none⟩) 4 4] 22)) := ⟨grownBy_trans kk3.1 (grown_of_below hba _), kk3.2.trans (KeepG.of hba)⟩
    have c3 := (HX3.out.1.cell 2).trans (show _ = some (.slice AV nV cV) from rfl)
    have c4 := ((Blk.alloc HX3.out.1 (.cells #[.slice (some ⟨g3, 0, none⟩) 4 4] 22)).cell 2).trans (show _ = some (.slice AV nV cV) from rfl)
    clear y3 s3 l3 i3 n3 hb3 hb13 hba
    refine hK.out _ _ (by (first | exact KS.out _ (by assumption) | (simp only [Act.put]; exact KS.out _ (by assumption)))) (fun hHeld => ?_)
    clear hK K
    (try simp only [Act.put, List.setIfInBounds_toArray, List.set_cons_zero, List.set_cons_succ])
    refine wpAnyH_ready (rs := [6]) (by kernel_rfl) (by simp) ?_
    refine AllReadyH.cons rfl (fun K hK => ?_) AllReadyH.nil
    go_simp
    refine hK.out _ _ (by (first | exact KS.out _ (by assumption) | (simp only [Act.put]; exact KS.out _ (by assumption)))) (fun hHeld => ?_)
    clear hK K
    (try simp only [Act.put, List.setIfInBounds_toArray, List.set_cons_zero, List.set_cons_succ])
    refine wpAnyH_ready (rs := [7]) (by kernel_rfl) (by simp) ?_
    refine AllReadyH.cons rfl (fun K hK => ?_) AllReadyH.nil
    refine step_appR w3 (some ⟨g3, 0, none⟩) 4 4 (by rfl) _ _ (by rfl) W4.heap.size _ vs (by rfl) (by rfl) HX3.out.2.1 HVL.out HX3.out.2.2.2.2.1 ?_
    intro v5 w5 hg5
    obtain ⟨hq5, hj5, hk5⟩ := NodesJ.push (x := (a, m)) (H := H) HOB.out HX3.out.1 HX3.out.2.1 HX3.out.2.2.1 HX3.out.2.2.2.1 HG3.out.1 (by decide) (by decide) HG3.out.2.1 HG3.out.2.2.1 HG3.out.2.2.2 hg5
    obtain ⟨A5, n5, c5, rfl, hn5, _⟩ := ownR_shape hg5.own
    have kk5 : W4.grownBy w5 (some ob) ∧ KeepG W1 w5 := ⟨grownBy_new HX3.out.2.2.2.1 hg5.grown fun k hk => (World.ownsRow.lt HX3.out.2.1 k hk).1, (KeepG.of HX3.out.2.2.2.2.2).trans (KeepG.grew hg5 HX3.out.2.1)⟩
    have kk6 : W4.grownBy (w5.setCell ⟨ob, 2, none⟩ (.slice A5 n5 c5)) (some ob) ∧ KeepG W1 (w5.setCell ⟨ob, 2, none⟩ (.slice A5 n5 c5)) := ⟨grownBy_trans kk5.1 blk_grown, (KeepG.of HX3.out.2.2.2.2.2).trans hk5⟩
    have e2 := (hq5.cell 2).trans (show _ = some (.slice AV nV cV) from rfl)
    have z2 := hq5.frozen 2
    have HFIN := Lib.hid (And.intro hj5 (HKG.out.trans kk6.2))
    clear hj5 hk5 hq5 hg5 hn5
    refine hK.out _ _ (by (first | exact KS.out _ (by assumption) | (simp only [Act.put]; exact KS.out _ (by assumption)))) (fun hHeld => ?_)
    clear hK K
    (try simp only [Act.put, List.setIfInBounds_toArray, List.set_cons_zero, List.set_cons_succ])
    refine wpAnyH_ready (rs := [8]) (by kernel_rfl) (by simp) ?_
    refine AllReadyH.cons rfl (fun K hK => ?_) AllReadyH.nil
    go_simp
    refine hK.out _ _ (by (first | exact KS.out _ (by assumption) | (simp only [Act.put]; exact KS.out _ (by assumption)))) (fun hHeld => ?_)
    clear hK K
    (try simp only [Act.put, List.setIfInBounds_toArray, List.set_cons_zero, List.set_cons_succ])
    refine wpAnyH_ready (rs := [9]) (by kernel_rfl) (by simp) ?_
    refine AllReadyH.cons rfl (fun K hK => ?_) AllReadyH.nil
    go_simp
    refine hK.out _ _ (by (first | exact KS.out _ (by assumption) | (simp only [Act.put]; exact KS.out _ (by assumption)))) (fun hHeld => ?_)
    clear hK K
    (try simp only [Act.put, List.setIfInBounds_toArray, List.set_cons_zero, List.set_cons_succ])
    refine wpAnyH_done (by kernel_rfl) ?_ _
    go_wp2
    go_end0
    exact ⟨⟨_, rfl⟩, HFIN.out.1, HFIN.out.2⟩
  · go_simp
    refine (HRT.out _ (KX.out _ hb11).1.1 (KX.out _ hb11).1.2.1 (KX.out _ hb11).1.2.2).mono ?_
    rintro _ w3 ⟨g3, rfl, ⟨x3, y3⟩, s3, l3, i3, n3, hb3⟩
    have hb13 : Below W1.heap.size W1 w3 := hb11.trans (hb3.mono hb11.size)
    have HX3 := Lib.hid (show _ ∧ _ ∧ _ ∧ _ ∧ W4.heap.size ≤ w3.heap.size ∧ Below W1.heap.size W1 w3 from ⟨(KX.out _ hb13).2.1, (KX.out _ hb13).2.2.1, (KX.out _ hb13).2.2.2.1, (KX.out _ hb13).2.2.2.2, (KX.out _ hb13).2.2.2.2.size, hb13⟩)
    have HG3 := Lib.hid (And.intro y3 (And.intro s3 (And.intro l3 i3)))
    have kk3 : W4.grownBy w3 (some ob) ∧ KeepG W1 w3 := ⟨(KX.out _ hb13).2.2.2.2, KeepG.of hb13⟩
    have hba := (Below.refl w3.heap.size w3).alloc (Nat.le_refl _) (.cells #[.slice (some ⟨g3, 0, none⟩) 4 4] 22)
    have kk4 : W4.grownBy (w3.alloc (.cells #[.slice (some ⟨g3, 0, none⟩) 4 4] 22)) (some ob) ∧ KeepG W1 (w3.alloc (.cells #[.slice (some ⟨g3, 0, none⟩) 4 4] 22)) := ⟨grownBy_trans kk3.1 (grown_of_below hba _), kk3.2.trans (KeepG.of hba)⟩
    have c3 := (HX3.out.1.cell 2).trans (show _ = some (.slice AV nV cV) from rfl)
    have c4 := ((Blk.alloc HX3.out.1 (.cells #[.slice (some ⟨g3, 0, none⟩) 4 4] 22)).cell 2).trans (show _ = some (.slice AV nV cV) from rfl)
    clear y3 s3 l3 i3 n3 hb3 hb13 hba
    refine hK.out _ _ (by (first | exact KS.out _ (by assumption) | (simp only [Act.put]; exact KS.out _ (by assumption)))) (fun hHeld => ?_)
    clear hK K
    (try simp only [Act.put, List.setIfInBounds_toArray, List.set_cons_zero, List.set_cons_succ])
    refine wpAnyH_ready (rs := [1, 6]) (by kernel_rfl) (by simp) ?_
    refine AllReadyH.cons rfl (fun K hK => ?_) (AllReadyH.cons rfl (fun K hK => ?_) AllReadyH.nil)
    · go_simp
      refine hK.out _ _ (by (first | exact KS.out _ (by assumption) | (simp only [Act.put]; exact KS.out _ (by assumption)))) (fun hHeld => ?_)
      clear hK K
      (try simp only [Act.put, List.setIfInBounds_toArray, List.set_cons_zero, List.set_cons_succ])
      refine wpAnyH_ready (rs := [6]) (by kernel_rfl) (by simp) ?_
      refine AllReadyH.cons rfl (fun K hK => ?_) AllReadyH.nil
      go_simp
      refine hK.out _ _ (by (first | exact KS.out _ (by assumption) | (simp only [Act.put]; exact KS.out _ (by assumption)))) (fun hHeld => ?_)
      clear hK K
      (try simp only [Act.put, List.setIfInBounds_toArray, List.set_cons_zero, List.set_cons_succ])
      refine wpAnyH_ready (rs := [7]) (by kernel_rfl) (by simp) ?_
      refine AllReadyH.cons rfl (fun K hK => ?_) AllReadyH.nil
      refine step_appR w3 (some ⟨g3, 0, none⟩) 4 4 (by rfl) _ _ (by rfl) W4.heap.size _ vs (by rfl) (by rfl) HX3.out.2.1 HVL.out HX3.out.2.2.2.2.1 ?_
      intro v5 w5 hg5
      obtain ⟨hq5, hj5, hk5⟩ := NodesJ.push (x := (a, m)) (H := H) HOB.out HX3.out.1 HX3.out.2.1 HX3.out.2.2.1 HX3.out.2.2.2.1 HG3.out.1 (by decide) (by decide) HG3.out.2.1 HG3.out.2.2.1 HG3.out.2.2.2 hg5
      obtain ⟨A5, n5, c5, rfl, hn5, _⟩ := ownR_shape hg5.own
      have kk5 : W4.grownBy w5 (some ob) ∧ KeepG W1 w5 := ⟨grownBy_new HX3.out.2.2.2.1 hg5.grown fun k hk => (World.ownsRow.lt HX3.out.2.1 k hk).1, (KeepG.of HX3.out.2.2.2.2.2).trans (KeepG.grew hg5 HX3.out.2.1)⟩
      have kk6 : W4.grownBy (w5.setCell ⟨ob, 2, none⟩ (.slice A5 n5 c5)) (some ob) ∧ KeepG W1 (w5.setCell ⟨ob, 2, none⟩ (.slice A5 n5 c5)) := ⟨grownBy_trans kk5.1 blk_grown, (KeepG.of HX3.out.2.2.2.2.2).trans hk5⟩
      have e2 := (hq5.cell 2).trans (show _ = some (.slice AV nV cV) from rfl)
      have z2 := hq5.frozen 2
      have HFIN := Lib.hid (And.intro hj5 (HKG.out.trans kk6.2))
      clear hj5 hk5 hq5 hg5 hn5
      refine hK.out _ _ (by (first | exact KS.out _ (by assumption) | (simp only [Act.put]; exact KS.out _ (by assumption)))) (fun hHeld => ?_)
      clear hK K
      (try simp only [Act.put, List.setIfInBounds_toArray, List.set_cons_zero, List.set_cons_succ])
      refine wpAnyH_ready (rs := [8]) (by kernel_rfl) (by simp) ?_
      refine AllReadyH.cons rfl (fun K hK => ?_) AllReadyH.nil
      go_simp
      refine hK.out _ _ (by (first | exact KS.out _ (by assumption) | (simp only [Act.put]; exact KS.out _ (by assumption)))) (fun hHeld => ?_)
      clear hK K
      (try simp only [Act.put, List.setIfInBounds_toArray, List.set_cons_zero, List.set_cons_succ])
      refine wpAnyH_ready (rs := [9]) (by kernel_rfl) (by simp) ?_
      refine AllReadyH.cons rfl (fun K hK => ?_) AllReadyH.nil
      go_simp
      refine hK.out _ _ (by (first | exact KS.out _ (by assumption) | (simp only [Act.put]; exact KS.out _ (by assumption)))) (fun hHeld => ?_)
      clear hK K
      (try simp only [Act.put, List.setIfInBounds_toArray, List.set_cons_zero, List.set_cons_succ])
      refine wpAnyH_done (by kernel_rfl) ?_ _
      go_wp2
      go_end0
      exact ⟨⟨_, rfl⟩, HFIN.out.1, HFIN.out.2⟩
    · go_simp
      refine hK.out _ _ (by (first | exact KS.out _ (by assumption) | (simp only [Act.put]; exact KS.out _ (by assumption)))) (fun hHeld => ?_)
      clear hK K
      (try simp only [Act.put, List.setIfInBounds_toArray, List.set_cons_zero, List.set_cons_succ])
      refine wpAnyH_ready (rs := [1]) (by kernel_rfl) (by simp) ?_
      refine AllReadyH.cons rfl (fun K hK => ?_) AllReadyH.nil
      go_simp
      refine hK.out _ _ (by (first | exact KS.out _ (by assumption) | (simp only [Act.put]; exact KS.out _ (by assumption)))) (fun hHeld => ?_)
      clear hK K
      (try simp only [Act.put, List.setIfInBounds_toArray, List.set_cons_zero, List.set_cons_succ])
      refine wpAnyH_ready (rs := [7]) (by kernel_rfl) (by simp) ?_
      refine AllReadyH.cons rfl (fun K hK => ?_) AllReadyH.nil
      refine step_appR w3 (some ⟨g3, 0, none⟩) 4 4 (by rfl) _ _ (by rfl) W4.heap.size _ vs (by rfl) (by rfl) HX3.out.2.1 HVL.out HX3.out.2.2.2.2.1 ?_
      intro v5 w5 hg5
      obtain ⟨hq5, hj5, hk5⟩ := NodesJ.push (x := (a, m)) (H := H) HOB.out HX3.out.1 HX3.out.2.1 HX3.out.2.2.1 HX3.out.2.2.2.1 HG3.out.1 (by decide) (by decide) HG3.out.2.1 HG3.out.2.2.1 HG3.out.2.2.2 hg5
      obtain ⟨A5, n5, c5, rfl, hn5, _⟩ := ownR_shape hg5.own
      have kk5 : W4.grownBy w5 (some ob) ∧ KeepG W1 w5 := ⟨grownBy_new HX3.out.2.2.2.1 hg5.grown fun k hk => (World.ownsRow.lt HX3.out.2.1 k hk).1, (KeepG.of HX3.out.2.2.2.2.2).trans (KeepG.grew hg5 HX3.out.2.1)⟩
      have kk6 : W4.grownBy (w5.setCell ⟨ob, 2, none⟩ (.slice A5 n5 c5)) (some ob) ∧ KeepG W1 (w5.setCell ⟨ob, 2, none⟩ (.slice A5 n5 c5)) := ⟨grownBy_trans kk5.1 blk_grown, (KeepG.of HX3.out.2.2.2.2.2).trans hk5⟩
      have e2 := (hq5.cell 2).trans (show _ = some (.slice AV nV cV) from rfl)
      have z2 := hq5.frozen 2
      have HFIN := Lib.hid (And.intro hj5 (HKG.out.trans kk6.2))
      clear hj5 hk5 hq5 hg5 hn5
      refine hK.out _ _ (by (first | exact KS.out _ (by assumption) | (simp only [Act.put]; exact KS.out _ (by assumption)))) (fun hHeld => ?_)
      clear hK K
      (try simp only [Act.put, List.setIfInBounds_toArray, List.set_cons_zero, List.set_cons_succ])
      refine wpAnyH_ready (rs := [8]) (by kernel_rfl) (by simp) ?_
      refine AllReadyH.cons rfl (fun K hK => ?_) AllReadyH.nil
      go_simp
      refine hK.out _ _ (by (first | exact KS.out _ (by assumption) | (simp only [Act.put]; exact KS.out _ (by assumption)))) (fun hHeld => ?_)
      clear hK K
      (try simp only [Act.put, List.setIfInBounds_toArray, List.set_cons_zero, List.set_cons_succ])
      refine wpAnyH_ready (rs := [9]) (by kernel_rfl) (by simp) ?_
      refine AllReadyH.cons rfl (fun K hK => ?_) AllReadyH.nil
      go_simp
      refine hK.out _ _ (by (first | exact KS.out _ (by assumption) | (simp only [Act.put]; exact KS.out _ (by assumption)))) (fun hHeld => ?_)
      clear hK K
      (try simp only [Act.put, List.setIfInBounds_toArray, List.set_cons_zero, List.set_cons_succ])
      refine wpAnyH_done (by kernel_rfl) ?_ _
      go_wp2
      go_end0
      exact ⟨⟨_, rfl⟩, HFIN.out.1, HFIN.out.2⟩
end Go.Proofs.Ytmhhgaofilaalaa
