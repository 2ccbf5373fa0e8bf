/- The walks of package chain: told, New, Take, Draw, Draws, Place, Digest, Fork. -/
import Derived.Test.YtabhndfdioimcaaHa
import Derived.Test.YtabhndfdioimcaaCc
import Derived.Deep.RegionHeld3
set_option linter.unusedVariables false
namespace Go.Proofs.Ytabhndfdioimcaa
open Go.RowKit Zp

/-- append(v, ys...), at a step of a region that draws its order -/
theorem step_appA {ops : Array Oper} {o : Oper} {a : Act} {K : Act → World → Prop} {Q : Exit → Act → World → Prop} {E : Prop} (w : World) (hgd : o.guard = none) (s x : Operand)
    (ho : o.op = .call { callee := .builtin .append, args := #[s, x], argTypes := #[22, 22] })
    (base : Nat) (v : Value) (xs : List Int) (A : Option Addr) (m c : Nat) (ys : List Int) (hs : a.eval s = v) (hx : a.eval x = .slice A m c) (hm : ys.length = m) (hown : Own w base v xs) (hr : SL w A ys) (hlen : xs.length + m ≤ 17592186044416) (hbase : base ≤ w.heap.size)
    (h : ∀ v' w', Grew w w' base v v' (xs ++ ys) → K (a.put o.dst v') w') :
    if Region.wanted o (yielded ops a.tmps) = true then Oper.wp Try.prog o a w K Q else E := by
  have hw : Region.wanted o (yielded ops a.tmps) = true := by simp [Region.wanted, hgd]
  rw [if_pos hw]
  obtain ⟨v', w', hrun, hg⟩ := run_appA w base v xs A m c ys hm hown hr hlen hbase o.type
  unfold Oper.wp execOp
  simp only [ho, resolve, invoke, builtin, Sem.run_bind, Sem.run_pure, Result.andThen_ok, List.map_toArray, List.map_cons, List.map_nil, hs, hx, hrun]
  exact h v' w' hg
theorem firstA {w w2 : World} {x : Int} (hb2 : Below (w.alloc (.cells #[vi x] 3)).drew.heap.size (w.alloc (.cells #[vi x] 3)).drew w2) : Own w2 w.heap.size (.slice (some ⟨w.heap.size, 0, none⟩) 1 1) [x] :=
  Own.below (w := (w.alloc (.cells #[vi x] 3)).drew) (own_lit w w.heap.size [x] (Nat.le_refl _) (by simp [maxLen])) hb2
theorem firstB {w w2 : World} {x : Int} (h : w.heap.size ≤ w2.heap.size) : Own (w2.alloc (.cells #[vi x] 3)) w.heap.size (.slice (some ⟨w2.heap.size, 0, none⟩) 1 1) [x] :=
  own_lit w2 w.heap.size [x] h (by simp [maxLen])
theorem below_first (w : World) (x : Int) : Below w.heap.size w (w.alloc (.cells #[vi x] 3)).drew := below_drewN ((Below.refl _ _).alloc (Nat.le_refl _) _) 1
/-- the object of a chain -/
def ChO (w : World) (c s : Nat) (v : Value) : Prop := Blk w c 68 #[.pointer (some ⟨s, 0, none⟩), v]
/-- what is left of told -/
def ToldIs {p : Nat} [NeZero p] (c s : Nat) (D : Nat → Fin p) (w : World) (e : Ending) (w' : World) : Prop :=
  (∃ r, e = .returned r) ∧ ∃ g : Nat, ChO w' c s (.slice (some ⟨g, 0, none⟩) 4 4) ∧ Blk w' g 59 (st fun j => fv (D j)) ∧ w.heap.size ≤ g ∧ w.grownBy w' (some c)
set_option maxRecDepth 100000 in
set_option maxHeartbeats 8000000 in
theorem told_c (p S b s k z c : Nat) [NeZero p] (oo : Nat → Nat → Fin p) (first : Int) (hfi : I64 first) (A : Option Addr) (m cap : Nat) (ts : List (List Int)) (hm : ts.length = m) (hmm : m ≤ 1000000) (hI : ∀ x ∈ ts.flatten, I64 x) (htot : ts.flatten.length * 8 + 80 ≤ 140737488355328) (v : Value) (w : World) (F : Fld w S b p) (G : Spg w s b k z oo) (hS : S ≤ c) (hs : s < c) (hC : ChO w c s v) (hT : TB w A ts) :
    Calls Try.prog 40 #[.pointer (some ⟨c, 0, none⟩), vi first, .slice A m cap] w fun e w' => ToldIs c s (digE p k (first :: ts.flatten)) w e w' := by
  have hcl := Blk.lt hC
  have hcs : w.cell? ⟨c, 0, none⟩ = some (.pointer (some ⟨s, 0, none⟩)) := (Blk.cell hC 0).trans rfl
  have HCC := Lib.hid (fun W (hW : TB W A ts) => concat_any A m cap ts hm hmm (by omega) W hW)
  have HH := Lib.hid (fun W A n cp (hA : SL W A (first :: ts.flatten)) (hn : (first :: ts.flatten).length = n) (F : Fld W S b p) (G : Spg W s b k z oo) => hash_any p S b s k z oo A n cp (first :: ts.flatten) hn (by
    intro x hx
    rcases List.mem_cons.1 hx with rfl | hx
    · exact hfi
    · exact hI x hx) (by rw [List.length_cons] at hn; omega) W F G hA)
  have HF := Lib.hid F
  have HG := Lib.hid G
  have HT := Lib.hid hT
  have HC := Lib.hid hC
  obtain ⟨L, hL⟩ : ∃ L, L = ts.flatten := ⟨_, rfl⟩
  have hLl : L.length + 1 ≤ 17592186044416 := by rw [hL]; omega
  rw [← hL] at HCC HH ⊢
  clear hL F G hT hC hm hmm hI htot
  go_enter Try.func40, Try.ntmps40
  go_wp2_with fail
  have HTA := Lib.hid (HT.out.below (below_first w first))
  have hcsA : (w.alloc (.cells #[vi first] 3)).drew.cell? ⟨c, 0, none⟩ = some (.pointer (some ⟨s, 0, none⟩)) := ((below_first w first).cell (p := ⟨c, 0, none⟩) hcl).trans hcs
  go_region_held3 (fun w' => w'.cell? ⟨c, 0, none⟩ = some (.pointer (some ⟨s, 0, none⟩))) (first | exact hcs | exact hcsA | exact (World.cell?_setCell_other _ _ _ _ (by simp)).trans ((hb4.cell (p := ⟨c, 0, none⟩) hcl).trans hcs) | exact (hb4.cell (p := ⟨c, 0, none⟩) hcl).trans hcs | exact (hb3.cell (p := ⟨c, 0, none⟩) hcl).trans hcs | exact (hb2.cell (p := ⟨c, 0, none⟩) hcl).trans hcs | go_keep) ((first
    | (go_at_call 68; refine (HCC.out _ (by first | exact HT.out | exact HTA.out)).mono ?_; rintro _ w2 ⟨v2, rfl, ho2, hb2'⟩; obtain ⟨A2, n2, c2, rfl, hl2, _, _, hs2⟩ := ho2.shapeN; have HL2 := Lib.hid hl2; have hb2 : Below w.heap.size w w2 := (by first | exact hb2' | exact ⟨hb2'.os, hb2'.tape, hb2'.output, hb2'.size, hb2'.block⟩ | exact (below_first w first).trans (hb2'.mono (below_first w first).size)); have HB2 := Lib.hid hb2'; clear hl2 ho2 hb2')
    | (refine step_appA _ (by rfl) _ _ (by rfl) w.heap.size _ [first] A2 n2 c2 L (by rfl) (by rfl) HL2.out (firstA HB2.out) hs2 (by have := HL2.out; simp; omega) hb2.size ?_; intro v3 w3 hg3; have ho3 := hg3.own; have hb3 := hg3.below hb2 (firstA HB2.out) (Nat.le_refl _) hb2.size; obtain ⟨A3, n3, c3, rfl, hl3, _, _, hs3⟩ := ho3.shapeN; have HL3 := Lib.hid hl3; clear hl3 ho3 hg3)
    | (refine step_appA _ (by rfl) _ _ (by rfl) w.heap.size _ [first] A2 n2 c2 L (by rfl) (by rfl) HL2.out (firstB hb2.size) (hs2.below ((Below.refl _ w2).alloc (Nat.le_refl _) _)) (by have := HL2.out; simp; omega) (by have := hb2.size; simp; omega) ?_; intro v3 w3 hg3; have ho3 := hg3.own; have hb3 := hg3.below (hb2.alloc hb2.size _) (firstB hb2.size) (Nat.le_refl _) (by have := hb2.size; simp; omega); obtain ⟨A3, n3, c3, rfl, hl3, _, _, hs3⟩ := ho3.shapeN; have HL3 := Lib.hid hl3; clear hl3 ho3 hg3)
    | (go_at_call 67; refine (HH.out _ A3 n3 c3 hs3 HL3.out (HF.out.below hb3 HF.out.le) (HG.out.below hb3 (by omega))).mono ?_; rintro _ w4 ⟨g, rfl, hB4, hg4, hb4'⟩; have hb4 := hb3.trans (hb4'.mono hb3.size); have hC4 := Blk.below HC.out hb4 hcl; have cc1 := Blk.cell hC4 1; have cf1 := Blk.frozen hC4 1)))
  all_goals have hs34 := hb3.size
  all_goals have hgc : g ≠ c := by omega
  all_goals have hfin : ToldIs c s (digE p k (first :: L)) w (.returned undef) (w4.setCell ⟨c, 1, none⟩ (.slice (some ⟨g, 0, none⟩) 4 4)) := ⟨⟨_, rfl⟩, g, Blk.set_ hC4 1 (.slice (some ⟨g, 0, none⟩) 4 4), hB4.far (p := ⟨c, 1, none⟩) hgc _, by omega, grownBy_trans (grown_of_below hb4 _) blk_grown⟩
  all_goals have HFIN := Lib.hid hfin
  all_goals clear hfin
  all_goals go_wp2
  all_goals go_end0
  all_goals exact ⟨⟨_, rfl⟩, HFIN.out.2⟩
/-- a chain in memory, whose digest reads D -/
def Chn (w : World) (c s : Nat) (D : List Int) : Prop :=
  ∃ (g cap : Nat) (t : TypeId) (cs : Array Value), ChO w c s (.slice (some ⟨g, 0, none⟩) 4 cap) ∧ Blk w g t cs ∧ t ≠ 68 ∧ SL w (some ⟨g, 0, none⟩) D ∧ D.length = 4 ∧ 4 ≤ cap ∧ cap ≤ maxLen ∧ ∀ x ∈ D, I64 x
theorem Chn.far {w w' : World} {c s x : Nat} {D : List Int} {v : Value} (h : Chn w c s D) (hx : ChO w x s v) (hg : w.grownBy w' (some x)) (hne : c ≠ x) : Chn w' c s D := by
  obtain ⟨g, cap, t, cs, h1, h2, h3, h4, h5, h6, h7, h8⟩ := h
  have hgx : g ≠ x := Blk.ne_ h2 hx h3
  exact ⟨g, cap, t, cs, Blk.grown h1 hg (by intro e; injection e with e; exact hne e), h2.grown hg (by intro e; injection e with e; exact hgx e), h3, h4.far hg hgx, h5, h6, h7, h8⟩
theorem Chn.below {w w' : World} {c s : Nat} {D : List Int} (h : Chn w c s D) (hb : Below w.heap.size w w') : Chn w' c s D := by
  obtain ⟨g, cap, t, cs, h1, h2, h3, h4, h5, h6, h7, h8⟩ := h
  exact ⟨g, cap, t, cs, Blk.below h1 hb (Blk.lt h1), h2.below hb h2.lt, h3, h4.below hb, h5, h6, h7, h8⟩
theorem Chn.drewN {w : World} {c s : Nat} {D : List Int} (h : Chn w c s D) (n : Nat) : Chn (w.drewN n) c s D := h
theorem Chn.lt {w : World} {c s : Nat} {D : List Int} (h : Chn w c s D) : c < w.heap.size := by
  obtain ⟨g, cap, t, cs, h1, _⟩ := h
  exact Blk.lt h1
theorem Chn.obj {w : World} {c s : Nat} {D : List Int} (h : Chn w c s D) : ∃ v, ChO w c s v := by
  obtain ⟨g, cap, t, cs, h1, _⟩ := h
  exact ⟨_, h1⟩
/-- the digest lies elsewhere -/
def DigNe (w : World) (c x : Nat) : Prop := ∃ g cap : Nat, w.cell? ⟨c, 1, none⟩ = some (.slice (some ⟨g, 0, none⟩) 4 cap) ∧ g ≠ x
/-- the digest lies in new memory -/
def DigNew (w : World) (c B : Nat) : Prop := ∃ g cap : Nat, w.cell? ⟨c, 1, none⟩ = some (.slice (some ⟨g, 0, none⟩) 4 cap) ∧ B ≤ g
theorem DigNew.ne {w : World} {c B x : Nat} (h : DigNew w c B) (hx : x < B) : DigNe w c x := by
  obtain ⟨g, cap, h1, h2⟩ := h
  exact ⟨g, cap, h1, by omega⟩
theorem DigNew.less {w : World} {c B B' : Nat} (h : DigNew w c B) (hx : B' ≤ B) : DigNew w c B' := by
  obtain ⟨g, cap, h1, h2⟩ := h
  exact ⟨g, cap, h1, by omega⟩
theorem Chn.keepX {w w' : World} {c s x : Nat} {D : List Int} (h : Chn w c s D) (hg : w.grownBy w' (some x)) (hne : c ≠ x) (hd : DigNe w c x) : Chn w' c s D := by
  obtain ⟨g, cap, t, cs, h1, h2, h3, h4, h5, h6, h7, h8⟩ := h
  obtain ⟨g', cap', hc', hgx⟩ := hd
  have : w.cell? ⟨c, 1, none⟩ = some (.slice (some ⟨g, 0, none⟩) 4 cap) := (Blk.cell h1 1).trans rfl
  rw [this] at hc'
  injection hc' with hc'
  injection hc' with e _ _
  injection e with e
  injection e with e _ _
  subst e
  exact ⟨g, cap, t, cs, Blk.grown h1 hg (by intro e; injection e with e; exact hne e), h2.grown hg (by intro e; injection e with e; exact hgx e), h3, h4.far hg hgx, h5, h6, h7, h8⟩
/-- a step of a chain -/
def StepIs (c s : Nat) (D : List Int) (w : World) (e : Ending) (w' : World) : Prop := (∃ r, e = .returned r) ∧ Chn w' c s D ∧ w.grownBy w' (some c) ∧ DigNew w' c w.heap.size
theorem i64_digL {p k : Nat} [NeZero p] (hm : p ≤ 2147483647) (l : List Int) : ∀ x ∈ digL p k l, I64 x := by
  intro x hx
  obtain ⟨j, _, rfl⟩ := List.mem_map.1 hx
  exact i64_fv _ hm
theorem ToldIs.step {p k : Nat} [NeZero p] (hm : p ≤ 2147483647) {c s : Nat} {l : List Int} {w w' : World} {e : Ending} (h : ToldIs c s (digE p k l) w e w') : StepIs c s (digL p k l) w e w' := by
  obtain ⟨hr, g, h1, h2, h3, h4⟩ := h
  exact ⟨hr, ⟨g, 4, _, _, h1, h2, by decide, dig_sl h2, digL_len _ _, Nat.le_refl _, by simp [maxLen], i64_digL hm l⟩, h4, ⟨g, 4, (Blk.cell h1 1).trans rfl, h3⟩⟩
theorem tb_lit1 {w : World} {A : Option Addr} {n c : Nat} {xs : List Int} (h : SL w A xs) (hl : xs.length = n) (hn : n < 9223372036854775808) (hI : ∀ x ∈ xs, I64 x) :
    TB (w.alloc (.cells #[.slice A n c] 22)) (some ⟨w.heap.size, 0, none⟩) [xs] := fun k hk => by
  have e : k = 0 := by simp at hk; omega
  subst e
  exact ⟨_, A, n, c, rfl, by simp [Addr.add], by rw [Addr.add_mid]; exact ((Blk.new w 22 #[.slice A n c]).cell 0).trans rfl, hl, hn, h.below ((Below.refl _ _).alloc (Nat.le_refl _) _), hI⟩
theorem tb_lit2 {w : World} {A B : Option Addr} {n c m d : Nat} {xs ys : List Int} (h : SL w A xs) (hl : xs.length = n) (hn : n < 9223372036854775808) (hI : ∀ x ∈ xs, I64 x) (h' : SL w B ys) (hl' : ys.length = m) (hn' : m < 9223372036854775808) (hI' : ∀ x ∈ ys, I64 x) :
    TB (w.alloc (.cells #[.slice A n c, .slice B m d] 22)) (some ⟨w.heap.size, 0, none⟩) [xs, ys] := fun k hk => by
  have hb : Below w.heap.size w (w.alloc (.cells #[.slice A n c, .slice B m d] 22)) := (Below.refl _ _).alloc (Nat.le_refl _) _
  match k, hk with
  | 0, _ => exact ⟨_, A, n, c, rfl, by simp [Addr.add], by rw [Addr.add_mid]; exact ((Blk.new w 22 #[.slice A n c, .slice B m d]).cell 0).trans rfl, hl, hn, h.below hb, hI⟩
  | 1, _ => exact ⟨_, B, m, d, rfl, by simp [Addr.add], by rw [Addr.add_mid]; exact ((Blk.new w 22 #[.slice A n c, .slice B m d]).cell 1).trans rfl, hl', hn', h'.below hb, hI'⟩
theorem grown_alloc {w w' : World} {o : Obj} {row : Option Nat} (h : (w.alloc o).grownBy w' row) : w.grownBy w' row := grownBy_trans (World.grownBy_alloc w o row) h
set_option maxRecDepth 100000 in
set_option maxHeartbeats 4000000 in
theorem chnew_any (p S b s k z : Nat) [NeZero p] (oo : Nat → Nat → Fin p) (A : Option Addr) (n cap : Nat) (l : List Int) (hn : l.length = n) (hI : ∀ x ∈ l, I64 x) (hr : n * 8 ≤ 140737488351232) (w : World) (F : Fld w S b p) (G : Spg w s b k z oo) (hs : SL w A l) :
    Calls Try.prog 15 #[.pointer (some ⟨s, 0, none⟩), .slice A n cap] w fun e w' => e = .returned (.pointer (some ⟨w.heap.size, 0, none⟩)) ∧ Chn w' w.heap.size s (digL p k (2 :: l)) ∧ Below w.heap.size w w' := by
  have hsl := block_lt_of_cell G.c0
  have hb1 : Below w.heap.size w (w.alloc (.cells #[.pointer (some ⟨s, 0, none⟩), .slice none 0 0] 68)) := (Below.refl _ _).alloc (Nat.le_refl _) _
  have hC := Blk.new w 68 #[.pointer (some ⟨s, 0, none⟩), .slice none 0 0]
  obtain ⟨W, hW⟩ : ∃ W, W = w.alloc (.cells #[.pointer (some ⟨s, 0, none⟩), .slice none 0 0] 68) := ⟨_, rfl⟩
  rw [← hW] at hb1 hC
  have hWs : W.heap.size = w.heap.size + 1 := by rw [hW]; simp
  have hb2 : Below W.heap.size W (W.alloc (.cells #[.slice A n cap] 22)) := (Below.refl _ _).alloc (Nat.le_refl _) _
  have hb12 := hb1.trans (hb2.mono hb1.size)
  have ht := told_c p S b s k z w.heap.size oo 2 ⟨by omega, by omega⟩ (some ⟨W.heap.size, 0, none⟩) 1 1 [l] rfl (by omega) (by simpa using hI) (by simp; omega) (.slice none 0 0) _ (F.below hb12 F.le) (G.below hb12 hsl) F.le hsl (Blk.below hC hb2 (by omega)) (tb_lit1 (hs.below hb1) hn (by omega) hI)
  rw [show [l].flatten = l by simp] at ht
  rw [hWs] at ht
  have HT := Lib.hid (ht.mono fun e w' h => h.step F.max)
  have HB := Lib.hid hb12
  rw [hW] at HT HB
  clear ht hb1 hb2 hb12 hC hWs hW F G hs hn hI
  go_enter Try.func15, Try.ntmps15
  go_wp2_with fail
  refine (HT.out).mono ?_
  rintro _ w3 ⟨⟨r, rfl⟩, hc3, hg3, hn3⟩
  clear hn3
  have HC := Lib.hid hc3
  have HG3 := Lib.hid (HB.out.grown hg3 HB.out.size (fun k hk => by injection hk with hk; omega))
  clear hc3 hg3
  go_wp2
  go_ret
  exact ⟨rfl, HC.out, HG3.out⟩
set_option maxRecDepth 100000 in
set_option maxHeartbeats 4000000 in
theorem chtake_any (p S b s k z c : Nat) [NeZero p] (oo : Nat → Nat → Fin p) (D : List Int) (A : Option Addr) (n cap : Nat) (l : List Int) (hn : l.length = n) (hI : ∀ x ∈ l, I64 x) (hr : n * 8 ≤ 140737488351232) (w : World) (F : Fld w S b p) (G : Spg w s b k z oo) (hS : S ≤ c) (hsc : s < c) (hC : Chn w c s D) (hs : SL w A l) :
    Calls Try.prog 16 #[.pointer (some ⟨c, 0, none⟩), .slice A n cap] w fun e w' => StepIs c s (digL p k (3 :: (D ++ l))) w e w' := by
  have hm := F.max
  obtain ⟨g, cg, t, cs, h1, h2, h3, h4, h5, h6, h7, h8⟩ := hC
  have hcd : w.cell? ⟨c, 1, none⟩ = some (.slice (some ⟨g, 0, none⟩) 4 cg) := (Blk.cell h1 1).trans rfl
  have hb : Below w.heap.size w (w.alloc (.cells #[.slice (some ⟨g, 0, none⟩) 4 cg, .slice A n cap] 22)) := (Below.refl _ _).alloc (Nat.le_refl _) _
  have ht := told_c p S b s k z c oo 3 ⟨by omega, by omega⟩ (some ⟨w.heap.size, 0, none⟩) 2 2 [D, l] rfl (by omega) (by
    intro x hx
    simp at hx
    rcases hx with hx | hx
    · exact h8 x hx
    · exact hI x hx) (by simp; omega) _ _ (F.below hb F.le) (G.below hb (Nat.lt_trans hsc (Blk.lt h1))) hS hsc (Blk.below h1 hb (Blk.lt h1)) (tb_lit2 h4 h5 (by omega) h8 hs hn (by omega) hI)
  rw [show [D, l].flatten = D ++ l by simp] at ht
  have HT := Lib.hid (ht.mono fun e w' h => h.step hm)
  clear ht h1 h2 h3 h4 h5 h6 h7 h8 hb F G hs hn hI
  go_enter Try.func16, Try.ntmps16
  go_wp2_with fail
  refine (HT.out).mono ?_
  rintro _ w3 ⟨⟨r, rfl⟩, hc3, hg3, hn3⟩
  have HR := Lib.hid (show StepIs c s (digL p k (3 :: (D ++ l))) w (.returned undef) w3 from ⟨⟨_, rfl⟩, hc3, grown_alloc hg3, hn3.less (by simp)⟩)
  clear hc3 hg3 hn3
  go_wp2
  go_end0
  exact ⟨⟨_, rfl⟩, HR.out.2⟩
/-- a chain told its digest -/
def drawnL (p k : Nat) [NeZero p] (D : List Int) : List Int := digL p k (4 :: D)
theorem drawnL_len {p k : Nat} [NeZero p] (D : List Int) : (drawnL p k D).length = 4 := digL_len _ _
def DrawIs {p : Nat} [NeZero p] (k c s : Nat) (D : List Int) (w : World) (e : Ending) (w' : World) : Prop := e = .returned (vi ((drawnL p k D).getD 0 0)) ∧ Chn w' c s (drawnL p k D) ∧ w.grownBy w' (some c) ∧ DigNew w' c w.heap.size
set_option maxRecDepth 100000 in
set_option maxHeartbeats 4000000 in
theorem chdraw_any (p S b s k z c : Nat) [NeZero p] (oo : Nat → Nat → Fin p) (D : List Int) (w : World) (F : Fld w S b p) (G : Spg w s b k z oo) (hS : S ≤ c) (hsc : s < c) (hC : Chn w c s D) :
    Calls Try.prog 18 #[.pointer (some ⟨c, 0, none⟩)] w fun e w' => DrawIs (p := p) k c s D w e w' := by
  have hm := F.max
  obtain ⟨g, cg, t, cs, h1, h2, h3, h4, h5, h6, h7, h8⟩ := hC
  have hcd : w.cell? ⟨c, 1, none⟩ = some (.slice (some ⟨g, 0, none⟩) 4 cg) := (Blk.cell h1 1).trans rfl
  have hb : Below w.heap.size w (w.alloc (.cells #[.slice (some ⟨g, 0, none⟩) 4 cg] 22)) := (Below.refl _ _).alloc (Nat.le_refl _) _
  have ht := told_c p S b s k z c oo 4 ⟨by omega, by omega⟩ (some ⟨w.heap.size, 0, none⟩) 1 1 [D] rfl (by omega) (by simpa using h8) (by simp; omega) _ _ (F.below hb F.le) (G.below hb (Nat.lt_trans hsc (Blk.lt h1))) hS hsc (Blk.below h1 hb (Blk.lt h1)) (tb_lit1 h4 h5 (by omega) h8)
  rw [show [D].flatten = D by simp] at ht
  have HT := Lib.hid (ht.mono fun e w' h => h.step hm)
  clear ht h1 h2 h3 h4 h5 h6 h7 h8 hb F G
  go_enter Try.func18, Try.ntmps18
  go_wp2_with fail
  refine (HT.out).mono ?_
  rintro _ w3 ⟨⟨r, rfl⟩, hc3, hg3, hn3⟩
  obtain ⟨g, cg, t, cs, h1, h2, h3, h4, h5, h6, h7, h8⟩ := id hc3
  have hcd3 : w3.cell? ⟨c, 1, none⟩ = some (.slice (some ⟨g, 0, none⟩) 4 cg) := (Blk.cell h1 1).trans rfl
  obtain ⟨X, hX⟩ : ∃ X, X = (drawnL p k D).getD 0 0 := ⟨_, rfl⟩
  have hg0 : w3.cell? ⟨g, 0, none⟩ = some (vi X) := by
    obtain ⟨ad, ea, _, hc⟩ := SL.at_ (k := 0) h4 (by rw [h5]; omega)
    injection ea with ea
    subst ea
    rw [Addr.add_mid] at hc
    rw [hX, hc]
    simp only [drawnL, List.getD, List.getElem?_eq_getElem (show 0 < (digL p k (4 :: D)).length by rw [h5]; omega), Option.getD_some]
  have HR := Lib.hid (show DrawIs (p := p) k c s D w (.returned (vi X)) w3 from ⟨by rw [hX], hc3, grown_alloc hg3, hn3.less (by simp)⟩)
  clear hc3 hg3 hn3 h1 h2 h3 h4 h5 h6 h7 h8 hX
  go_wp2
  go_ret
  exact HR.out
/-- the number below n that a digest gives -/
def placeV (p : Nat) (D : List Int) (n : Int) : Int := (D.getD 0 0 * p + D.getD 1 0) % n
def PlaceIs {p : Nat} [NeZero p] (k c s : Nat) (D : List Int) (n : Int) (w : World) (e : Ending) (w' : World) : Prop := e = .returned (vi (placeV p (drawnL p k D) n)) ∧ Chn w' c s (drawnL p k D) ∧ w.grownBy w' (some c)
theorem digL_bounds {p k : Nat} [NeZero p] (l : List Int) {j : Nat} (hj : j < 4) : ∃ x : Fin p, (digL p k l).getD j 0 = fv x := by
  refine ⟨digE p k l j, ?_⟩
  unfold digL
  simp [List.getD, hj]
set_option maxRecDepth 100000 in
theorem chplace_no (c : Nat) (n : Int) (hn : I64 n) (h : n < 1 ∨ 65536 < n) (w : World) :
    Calls Try.prog 19 #[.pointer (some ⟨c, 0, none⟩), vi n] w fun e w' => e = .returned (vi 0) ∧ w = w' := by
  obtain ⟨h1, h2⟩ := hn
  rcases h with h | h
  · go_enter Try.func19, Try.ntmps19
    go_wp2
    go_ret
    exact ⟨rfl, rfl⟩
  · have h3 : 1 ≤ n := by omega
    go_enter Try.func19, Try.ntmps19
    go_wp2
    go_ret
    exact ⟨rfl, rfl⟩
set_option maxRecDepth 100000 in
set_option maxHeartbeats 4000000 in
theorem chplace_any (p S b s k z c : Nat) [NeZero p] (oo : Nat → Nat → Fin p) (D : List Int) (n : Int) (hn1 : 1 ≤ n) (hn2 : n ≤ 65536) (w : World) (F : Fld w S b p) (G : Spg w s b k z oo) (hS : S ≤ c) (hsc : s < c) (hC : Chn w c s D) :
    Calls Try.prog 19 #[.pointer (some ⟨c, 0, none⟩), vi n] w fun e w' => PlaceIs (p := p) k c s D n w e w' := by
  have hm := F.max
  have hd := Lib.hid (chdraw_any p S b s k z c oo D w F G hS hsc hC)
  have HF := Lib.hid F
  have HG := Lib.hid G
  have hcw := hC.lt
  clear F G hC
  go_enter Try.func19, Try.ntmps19
  go_wp2_with fail
  refine (hd.out).mono ?_
  rintro _ w3 ⟨rfl, hc3, hg3, _⟩
  obtain ⟨x0, hx0⟩ := digL_bounds (p := p) (k := k) (4 :: D) (show 0 < 4 by omega)
  obtain ⟨x1, hx1⟩ := digL_bounds (p := p) (k := k) (4 :: D) (show 1 < 4 by omega)
  have hbc : Below c w w3 := (Below.refl c w).grown hg3 (by omega) (fun k hk => by injection hk with hk; omega)
  have hF3 := HF.out.below hbc hS
  have hG3 := HG.out.below hbc hsc
  obtain ⟨g, cg, t, cs, h1, h2, h3, h4, h5, h6, h7, h8⟩ := id hc3
  have hc0 : w3.cell? ⟨c, 0, none⟩ = some (.pointer (some ⟨s, 0, none⟩)) := (Blk.cell h1 0).trans rfl
  have hcd3 : w3.cell? ⟨c, 1, none⟩ = some (.slice (some ⟨g, 0, none⟩) 4 cg) := (Blk.cell h1 1).trans rfl
  have hg1 : w3.cell? ⟨g, 1, none⟩ = some (vi (fv x1)) := by
    obtain ⟨ad, ea, _, hc⟩ := SL.at_ (k := 1) h4 (by rw [h5]; omega)
    injection ea with ea
    subst ea
    rw [Addr.add_mid] at hc
    rw [hc, ← hx1]
    simp only [drawnL, List.getD, List.getElem?_eq_getElem (show 1 < (digL p k (4 :: D)).length by rw [digL_len]; omega), Option.getD_some]
  have e0 : (drawnL p k D).getD 0 0 = fv x0 := hx0
  have e1 : (drawnL p k D).getD 1 0 = fv x1 := hx1
  rw [e0]
  have a1 := fv_nonneg x0
  have a2 := fv_lt x0
  have b1 := fv_nonneg x1
  have b2 := fv_lt x1
  obtain ⟨M, hM⟩ : ∃ M, M = fv x0 * (p : Int) := ⟨_, rfl⟩
  have m1 : 0 ≤ M := by rw [hM]; exact Int.mul_nonneg a1 (by omega)
  have m2 : M ≤ 4611686018427387904 := by
    rw [hM]
    have := Int.mul_le_mul (show fv x0 ≤ 2147483647 by omega) (show (p : Int) ≤ 2147483647 by omega) (by omega) (by omega)
    omega
  have HR := Lib.hid (show PlaceIs (p := p) k c s D n w (.returned (vi ((M + fv x1) % n))) w3 from ⟨by unfold placeV; rw [e0, e1, hM], hc3, hg3⟩)
  have HFD := Lib.hid (fun a => sfield_s s b k z oo (w3.drewN a) (hG3.below (below_drewN (Below.refl _ _) a) (block_lt_of_cell hG3.c0)))
  have HPP := Lib.hid (fun a => p_any p b (w3.drewN a) (by exact hF3.c0))
  have w1 : IntKind.i64.wrap (fv x0 * (p : Int)) = M := by rw [← hM]; exact IntWalk.i64_in _ (by omega)
  have w2 : IntKind.i64.wrap (M + fv x1) = M + fv x1 := IntWalk.i64_in _ (by omega)
  have nz : ¬ n = 0 := by omega
  have tm : (M + fv x1).tmod n = (M + fv x1) % n := Int.tmod_eq_emod_of_nonneg (by omega)
  clear hM hx0 hx1 e0 e1 hc3 hg3 hbc hF3 hG3 h1 h2 h3 h4 h5 h6 h7 h8
  go_wp2
  go_quiet ((first | (go_at_call 42; exact quiet_eq (HFD.out _)) | (go_at_call 43; exact quiet_eq (HPP.out _))))
  go_wp2
  go_ret
  obtain ⟨r1, r2, r3⟩ := HR.out
  exact ⟨r1, r2, ⟨r3.os, r3.tape, r3.output, r3.size, r3.block⟩⟩
/-- a chain after some draws; what was drawn -/
def iterD (p k : Nat) [NeZero p] (D : List Int) : Nat → List Int
  | 0 => D
  | n + 1 => drawnL p k (iterD p k D n)
def drawsL (p k : Nat) [NeZero p] (D : List Int) (n : Nat) : List Int := (List.range n).map fun i => (iterD p k D (i + 1)).getD 0 0
theorem drawsL_succ (p k : Nat) [NeZero p] (D : List Int) (n : Nat) : drawsL p k D (n + 1) = drawsL p k D n ++ [(iterD p k D (n + 1)).getD 0 0] := by simp [drawsL, List.range_succ]
def DrawsIs {p : Nat} [NeZero p] (k c s : Nat) (D : List Int) (n : Nat) (w : World) (e : Ending) (w' : World) : Prop :=
  ∃ v, e = .returned v ∧ Own w' w.heap.size v (drawsL p k D n) ∧ Chn w' c s (iterD p k D n) ∧ w.grownBy w' (some c)
set_option maxRecDepth 100000 in
theorem chdraws_no (c : Nat) (n : Int) (hn : I64 n) (h : n < 1 ∨ 65536 < n) (w : World) :
    Calls Try.prog 20 #[.pointer (some ⟨c, 0, none⟩), vi n] w fun e w' => e = .returned (.slice none 0 0) ∧ w = w' := by
  obtain ⟨h1, h2⟩ := hn
  rcases h with h | h
  · go_enter Try.func20, Try.ntmps20
    go_wp2
    go_ret
    exact ⟨rfl, rfl⟩
  · have h3 : 1 ≤ n := by omega
    go_enter Try.func20, Try.ntmps20
    go_wp2
    go_ret
    exact ⟨rfl, rfl⟩
def DrawsRel {p : Nat} [NeZero p] (k c s : Nat) (D : List Int) (w : World) (N : Nat) (v t : Value) (wr : World) : Prop :=
  ∃ i : Nat, i ≤ N ∧ t = vi i ∧ v = .slice (some ⟨w.heap.size, 0, none⟩) i N ∧ Own wr w.heap.size (.slice (some ⟨w.heap.size, 0, none⟩) i N) (drawsL p k D i) ∧ Chn wr c s (iterD p k D i) ∧ w.grownBy wr (some c)
theorem grown_two {a b d : World} {c g : Nat} (h : a.grownBy b (some c)) (h' : b.grownBy d (some g)) (hg : a.heap.size ≤ g) : a.grownBy d (some c) :=
  ⟨h'.os.trans h.os, h'.tape.trans h.tape, h'.output.trans h.output, Nat.le_trans h.size h'.size, fun k hk hne => (h'.block k (Nat.lt_of_lt_of_le hk h.size) (by intro e; injection e with e; omega)).trans (h.block k hk hne)⟩
set_option maxRecDepth 100000 in
set_option maxHeartbeats 4000000 in
theorem chdraws_any (p S b s k z c : Nat) [NeZero p] (oo : Nat → Nat → Fin p) (D : List Int) (n : Nat) (hn1 : 1 ≤ n) (hn2 : n ≤ 65536) (w : World) (F : Fld w S b p) (G : Spg w s b k z oo) (hS : S ≤ c) (hsc : s < c) (hC : Chn w c s D) :
    Calls Try.prog 20 #[.pointer (some ⟨c, 0, none⟩), vi n] w fun e w' => DrawsIs (p := p) k c s D n w e w' := by
  have HD := Lib.hid (fun D (W : World) (F : Fld W S b p) (G : Spg W s b k z oo) hC => chdraw_any p S b s k z c oo D W F G hS hsc hC)
  have HF := Lib.hid F
  have HG := Lib.hid G
  have hcw := hC.lt
  have hmk := make_ints0 n (by omega)
  have hO0 := own_made0 w w.heap.size n (Nat.le_refl _) (by omega)
  have hb0 : Below w.heap.size w (w.alloc (.cells (zeros n) 3)) := (Below.refl _ _).alloc (Nat.le_refl _) _
  have hC0 := hC.below hb0
  have hg0 := grown_of_below hb0 (some c)
  clear F G hC
  go_enter Try.func20, Try.ntmps20
  go_wp2
  generalize World.alloc _ _ = W0 at hO0 hb0 hC0 hg0
  clear hmk hb0
  go_loopw [5, 15] (fun v t wr => DrawsRel (p := p) k c s D w n v t wr) (fun _ t _ => n - (intOf t).toNat)
  case atStart => exact ⟨0, by omega, rfl, rfl, hO0, hC0, hg0⟩
  case round =>
    clear hO0 hC0 hg0
    obtain ⟨i, hi, rfl, rfl, ho, hc, hg⟩ := hrel
    by_cases hin : i < n
    · have hbc : Below c w wr := (Below.refl c w).grown hg (by omega) (fun k hk => by injection hk with hk; omega)
      have hd := Lib.hid (HD.out _ wr (HF.out.below hbc hS) (HG.out.below hbc hsc) hc)
      have HO := Lib.hid ho
      have HGR := Lib.hid hg
      have i1 : (0 : Int) ≤ (i : Int) := by omega
      have i2 : (i : Int) < (n : Int) := by omega
      have hwl := (World.ownsRow.lt ho w.heap.size rfl).2
      clear hbc hc ho hg
      go_wp2_with fail
      refine (hd.out).mono ?_
      rintro _ w2 ⟨rfl, hc2, hg2, hn2⟩
      have ho2 := HO.out.grown hg2 (.inr (by intro e; have e3 : w.heap.size = c := by { injection e }; omega))
      have hgw2 := grownBy_trans HGR.out hg2
      obtain ⟨X, hX⟩ : ∃ X, X = (drawnL p k (iterD p k D i)).getD 0 0 := ⟨_, rfl⟩
      have hsu := drawsL_succ p k D i
      rw [show iterD p k D (i + 1) = drawnL p k (iterD p k D i) from rfl, ← hX] at hsu
      rw [← hX]
      have hlk : i = (drawsL p k D i).length := by simp [drawsL]
      have HLK := Lib.hid hlk
      have HSU := Lib.hid hsu
      have HC2 := Lib.hid hc2
      have HG2 := Lib.hid hgw2
      have HN2 := Lib.hid (hn2.ne hwl)
      have HO2 := Lib.hid ho2
      clear hlk hsu hX hc2 hg2 hgw2 hn2 ho2
      go_wp2_with (at_builtin; refine wpList_app1_fits w2 X rfl _ _ rfl w.heap.size w.heap.size i n _ rfl rfl HO2.out HLK.out hin ?_; intro w3 ho3 hg3)
      rw [← HSU.out] at ho3
      have hc3 : Chn w3 c s (iterD p k D (i + 1)) := Chn.keepX (show Chn w2 c s (iterD p k D (i + 1)) from HC2.out) hg3 (by omega) HN2.out
      exact ⟨⟨i + 1, by omega, by go_num, rfl, ho3, hc3, grown_two HG2.out hg3 (Nat.le_refl _)⟩, by simp [intOf]; omega⟩
    · have ei : i = n := by omega
      subst ei
      go_wp2
      go_ret
      exact ⟨_, rfl, ho, hc, hg⟩
theorem own_blk {w : World} {base g n cap : Nat} {xs : List Int} (h : Own w base (.slice (some ⟨g, 0, none⟩) n cap) xs) : ∃ cs, Blk w g 3 cs := by
  rcases h.2 with ⟨e, _⟩ | ⟨g', cap', cur, e, _, hh, _⟩
  · cases e
  · injection e with e _ _
    injection e with e
    injection e with e _ _
    subst e
    exact ⟨cur, hh⟩
def ForkIs (s : Nat) (D : List Int) (w : World) (e : Ending) (w' : World) : Prop := ∃ d : Nat, e = .returned (.pointer (some ⟨d, 0, none⟩)) ∧ Chn w' d s D ∧ w.heap.size ≤ d ∧ Below w.heap.size w w'
set_option maxRecDepth 100000 in
set_option maxHeartbeats 4000000 in
theorem chfork_any (c s : Nat) (D : List Int) (w : World) (hC : Chn w c s D) :
    Calls Try.prog 17 #[.pointer (some ⟨c, 0, none⟩)] w fun e w' => ForkIs s D w e w' := by
  have hcw := hC.lt
  obtain ⟨g, cg, t, cs, h1, h2, h3, h4, h5, h6, h7, h8⟩ := hC
  have hc0 : w.cell? ⟨c, 0, none⟩ = some (.pointer (some ⟨s, 0, none⟩)) := (Blk.cell h1 0).trans rfl
  have hc1 : w.cell? ⟨c, 1, none⟩ = some (.slice (some ⟨g, 0, none⟩) 4 cg) := (Blk.cell h1 1).trans rfl
  have HC := Lib.hid (fun W hs => clone_any (some ⟨g, 0, none⟩) 4 cg D h5 (by omega) W hs)
  have HS := Lib.hid (show SL w.drew (some ⟨g, 0, none⟩) D from h4)
  have H5 := Lib.hid h5
  have H8 := Lib.hid h8
  clear h1 h2 h3 h4 h5 h6 h7 h8
  go_enter Try.func17, Try.ntmps17
  go_wp2_with fail
  go_region_held3 (fun w' => w'.cell? ⟨c, 0, none⟩ = some (.pointer (some ⟨s, 0, none⟩)) ∧ w'.cell? ⟨c, 1, none⟩ = some (.slice (some ⟨g, 0, none⟩) 4 cg)) (first | exact ⟨hc0, hc1⟩ | exact ⟨(hb2.cell (p := ⟨c, 0, none⟩) hcw).trans hc0, (hb2.cell (p := ⟨c, 1, none⟩) hcw).trans hc1⟩ | go_keep) ((first
    | (go_at_call 41; refine (HC.out _ HS.out).mono ?_; rintro _ w2 ⟨v2, rfl, ho2, hb2'⟩; have hb2 : Below w.heap.size w w2 := ⟨hb2'.os, hb2'.tape, hb2'.output, hb2'.size, hb2'.block⟩; clear hb2'; have hblk := ho2.block (by rw [H5.out]; omega); rw [H5.out] at hblk; obtain ⟨g2, c2, rfl, hg21, hg22⟩ := hblk)))
  have hfk : ForkIs s D w (.returned (.pointer (some ⟨w2.heap.size, 0, none⟩))) (w2.alloc (.cells #[.pointer (some ⟨s, 0, none⟩), .slice (some ⟨g2, 0, none⟩) 4 c2] 68)) := by
    have hbA : Below w2.heap.size w2 (w2.alloc (.cells #[.pointer (some ⟨s, 0, none⟩), .slice (some ⟨g2, 0, none⟩) 4 c2] 68)) := (Below.refl _ _).alloc (Nat.le_refl _) _
    obtain ⟨cs2, hcs2⟩ := own_blk ho2
    obtain ⟨A', n', c', ev, hl', hc', hm', hs'⟩ := ho2.shapeN
    injection ev with ev1 ev2 ev3
    subst ev1 ev2 ev3
    refine ⟨w2.heap.size, rfl, ⟨g2, c2, _, cs2, Blk.new _ _ _, hcs2.alloc _, by decide, hs'.below hbA, H5.out, hc', hm', H8.out⟩, hb2.size, hb2.trans (hbA.mono hb2.size)⟩
  have HFK := Lib.hid hfk
  clear hfk ho2
  go_wp2
  go_ret
  exact HFK.out
end Go.Proofs.Ytabhndfdioimcaa
