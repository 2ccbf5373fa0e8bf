/- slices.Chunk at []int as an iterator; the walk of Sponge.Hash. After the text on slices.Backward (Eval). -/
import Derived.Test.YtabhndfdioimcaaHs
import Derived.Test.YtabhndfdioimcaaEval
set_option linter.unusedVariables false
namespace Go.Proofs.Ytabhndfdioimcaa
open Go.RowKit Go.Shelf Zp
attribute [local go_sem] Oper.semAt_some

/-- a region never lets out -/
def noOut (Q : Exit → Act → World → Prop) : Exit → Act → World → Prop
  | .outgrown, _, _ => False
  | .normal, a, w => Q .normal a w
  | .ret, a, w => Q .ret a w
  | .exit id, a, w => Q (.exit id) a w
  | .goto t, a, w => Q (.goto t) a w
  | .panic v, a, w => Q (.panic v) a w
theorem noOut_normal (Q : Exit → Act → World → Prop) (a : Act) (w : World) : noOut Q .normal a w = Q .normal a w := rfl
theorem wpIn_region_quiet_tail_lp {P : Program} {id : Nat} {Q : Exit → Act → World → Prop} {a : Act} {w : World} {l : List Oper} {lp m : Nat} (n : Nat) (hm : P.follows .mixedOrders = true) (hd : noDefer l.toArray = true) (hB : Region.lexTailB .any l.toArray n = true)
    (h : wpQuiet P l.toArray (fun w' => ∃ n, w' = w.drewN n) (fun a' => ∀ w', (∃ n, w' = w.drewN n) → wpList P l.toArray (noOut Q) (l.drop n) a' w') (l.take n) a) : (Code.region id l.toArray true).wpIn (Fence.wide.inRound lp) m P Q a w :=
  wpIn_mono (wpIn_region_quiet_tail n hm hd (by rintro ⟨_, _, h⟩; exact h) hB h) fun e a w h => by
    cases e <;> first | exact h | exact h.elim
/-- the pieces that come -/
def chunkV (ad : Addr) (t : Nat) : Value := .slice (some (ad.add (4 * t))) 4 4
/-- the k-th piece's number -/
def chF {c : Nat} (hc : 0 < c) (k : Nat) : Fin c := if h : k < c then ⟨k, h⟩ else ⟨0, hc⟩
theorem chF_val {c : Nat} (hc : 0 < c) {k : Nat} (h : k < c) : (chF hc k).1 = k := by unfold chF; rw [dif_pos h]
set_option maxRecDepth 100000 in
set_option maxHeartbeats 2000000 in
theorem chunk1_in (n : Nat) (hn : 1 ≤ n) (l Bs Bn n₀ g : Nat) (hBg : Bs ≠ g) (hNg : Bn ≠ g) (ad : Addr) (len c cp : Nat) (hc0 : 0 < c) (hlen : len = 4 * c) (hcp : len ≤ cp) (hreach : cp ≤ 9223372036854775807)
    (J Jx : List (Fin c) → World → Prop) (B : Nat) (hJA : AbidesFrom B J)
    (hY : ∀ pre x W, J pre W → pre.length < c → YieldAt Fence.wide (n - 1) Try.prog l #[chunkV ad x.1] W fun e W' =>
      (e = .returned (.bool true) ∧ J (pre ++ [x]) W' ∧ KeepBut n₀ g W W') ∨ (e = .returned (.bool false) ∧ Jx (pre ++ [x]) W'))
    (W : World) (hBs : W.cell? ⟨Bs, 0, none⟩ = some (.slice (some ad) len cp)) (hBl : Bs < n₀) (hBn : W.cell? ⟨Bn, 0, none⟩ = some (vi 4)) (hNl : Bn < n₀) (h0 : J [] W) :
    CallsIn Fence.wide n Try.prog 82 #[.func (.yield l) #[] #[], .pointer (some ⟨Bs, 0, none⟩), .pointer (some ⟨Bn, 0, none⟩)] W fun e W' => (∃ v, e = .returned v) ∧
      ((∃ ys, ys = upto (chF hc0) c ∧ J ys W') ∨ (∃ pre, (∃ k, k ≤ c ∧ pre = upto (chF hc0) k) ∧ Jx pre W')) := by
  refine callsIn_of_wp Try.func82 rfl trivial ?_ rfl
  simp only [Try.ntmps82, List.size_toArray, List.length_cons, List.length_nil, Nat.reduceAdd, Nat.reduceSub, Array.replicate_succ, Array.replicate_zero, List.push_toArray, List.append_toArray, List.nil_append, List.cons_append]
  have HL := Lib.hid hlen
  clear hlen
  gi_wp2
  gi_loopw [4, 5] (fun i _ wr => ∃ k : Nat, k ≤ c ∧ i = .int .i64 ((4 * k : Nat) : Int) ∧ J (upto (chF hc0) k) wr ∧ KeepBut n₀ g W wr)
    (fun i _ _ => len - (intOf i).toNat)
  case atStart => exact ⟨0, Nat.zero_le _, by go_num, h0, KeepBut.refl _ _ _⟩
  case round =>
    obtain ⟨k, hk, rfl, hJs, hnx⟩ := hrel
    have hBs' : wr.cell? ⟨Bs, 0, none⟩ = some (.slice (some ad) len cp) := (hnx.cell (p := ⟨Bs, 0, none⟩) hBl hBg).trans hBs
    have hBn' : wr.cell? ⟨Bn, 0, none⟩ = some (vi 4) := (hnx.cell (p := ⟨Bn, 0, none⟩) hNl hNg).trans hBn
    obtain ⟨q, hq⟩ : ∃ q : Nat, q = 4 * k := ⟨_, rfl⟩
    rw [← hq]
    have HQ := Lib.hid hq
    have hqc : q < 4 * c ↔ k < c := by omega
    have hl4 := HL.out
    by_cases hlt : k < c
    · have i1 : (0 : Int) ≤ (q : Int) := by omega
      have i2 : (q : Int) < (len : Int) := by omega
      have i3 : (q : Int) ≤ (len : Int) := by omega
      have i4 : (q : Int) + 4 ≤ (len : Int) := by omega
      have i5 : (4 : Int) ≤ (len : Int) - (q : Int) := by omega
      have i6 : (len : Int) ≤ (cp : Int) := by omega
      clear hq hqc hl4
      gi_wp2
      gi_quiet (fail)
      have hJq : J (upto (chF hc0) k) (wr.drewN nq) := hJA _ _ _ none hJs ⟨rfl, rfl, rfl, Nat.le_refl _, fun _ _ _ => rfl⟩ (fun r e => by cases e)
      obtain ⟨fn, tmps, assign, body, hy, hR⟩ := hY _ (chF hc0 k) (wr.drewN nq) hJq (by rw [upto_length]; exact hlt)
      rw [show chunkV ad (chF hc0 k).1 = Value.slice (some (ad.add q)) 4 4 by unfold chunkV; rw [chF_val hc0 hlt, HQ.out]] at hy
      gi_wp2
      refine hR.mono ?_
      rintro e W3 (⟨rfl, hJ3, hk3⟩ | ⟨rfl, hJx3⟩)
      · have hBn3 : W3.cell? ⟨Bn, 0, none⟩ = some (vi 4) := (hk3.cell (p := ⟨Bn, 0, none⟩) hNl hNg).trans hBn'
        gi_wp2
        have hq1 := HQ.out
        go_roundw
        case rel => exact ⟨k + 1, by omega, by rw [show ((4 * (k + 1) : Nat) : Int) = (q : Int) + 4 by omega], by rw [upto_succ]; exact hJ3, (hnx.drewN nq).trans hk3⟩
        case measure => simp [intOf]; omega
      · gi_wp2
        refine bodyPost_ret (results_none rfl _ _ _) rfl ?_
        exact ⟨⟨_, rfl⟩, .inr ⟨_, ⟨k + 1, by omega, by rw [upto_succ]⟩, hJx3⟩⟩
    · have ek : k = c := by omega
      have t1 : ¬ (q : Int) < (len : Int) := by omega
      subst ek
      clear hq hqc hl4
      gi_wp2
      go_end0
      first | exact ⟨⟨_, rfl⟩, .inl ⟨_, rfl, hJs⟩⟩ | exact ⟨⟨_, rfl⟩, .inl hJs⟩
set_option maxHeartbeats 1000000 in
theorem chunk_any (a : Option Addr) (len cap : Nat) (w : World) :
    Calls Try.prog 76 #[.slice a len cap, .int .i64 4] w fun e w' => e = .returned (.func (.func 82) #[] #[.pointer (some ⟨w.heap.size, 0, none⟩), .pointer (some ⟨w.heap.size + 1, 0, none⟩)]) ∧ w' = (w.alloc (.cells #[.slice a len cap] 22)).alloc (.cells #[.int .i64 4] 3) := by
  go_enter Try.func76, Try.ntmps76
  go_wp2
  go_ret
  exact ⟨rfl, rfl⟩
/-- slices.Chunk(s, 4) hands back what stops -/
theorem chunk_stops (n : Nat) (hn : 1 ≤ n) (Bs Bn n₀ g : Nat) (hBg : Bs ≠ g) (hNg : Bn ≠ g) (ad : Addr) (len c cp : Nat) (hc0 : 0 < c) (hlen : len = 4 * c) (hcp : len ≤ cp) (hreach : cp ≤ 9223372036854775807) (w : World) (hBs : Bs < w.heap.size) (hBl : Bs < n₀) (hBn : Bn < w.heap.size) (hNl : Bn < n₀)
    (hc : w.cell? ⟨Bs, 0, none⟩ = some (.slice (some ad) len cp)) (hc2 : w.cell? ⟨Bn, 0, none⟩ = some (vi 4)) :
    SeqStopsK Fence.wide n Try.prog 82 #[.pointer (some ⟨Bs, 0, none⟩), .pointer (some ⟨Bn, 0, none⟩)] (fun x : Fin c => #[chunkV ad x.1]) (KeepBut n₀ g) (fun ys => ys = upto (chF hc0) c)
      (fun pre => ∃ k, k ≤ c ∧ pre = upto (chF hc0) k) c w := fun l J Jx W hW hA _ hY h0 =>
  chunk1_in n hn l Bs Bn n₀ g hBg hNg ad len c cp hc0 hlen hcp hreach J Jx _ hA hY W ((hW.cell (p := ⟨Bs, 0, none⟩) hBs).trans hc) hBl ((hW.cell (p := ⟨Bn, 0, none⟩) hBn).trans hc2) hNl h0
theorem blk_kept {W W' : World} {row : Option Nat} {g : Nat} {t : TypeId} {cs : Array Value} (h : Blk W g t cs) (hg : W.grownBy W' row) (hr : ∀ r, row = some r → ∃ o : Obj, W.heap[r]? = some o ∧ o.isCells = false) : Blk W' g t cs := by
  refine (hg.block g h.lt fun e => ?_).trans h
  obtain ⟨o, ho, hc⟩ := hr g e.symm
  unfold Blk at h
  rw [h] at ho
  injection ho with ho
  subst ho
  cases hc
theorem keeps_below {W W' : World} (h : Below W.heap.size W W') : KeepsOthers W W' := ⟨h.size, fun k o hk _ => (h.block k (Array.getElem?_eq_some_iff.1 hk).1).trans hk⟩
theorem keeps_setRow {W : World} {g : Nat} {t : TypeId} {cs : Array Value} (h : Blk W g t cs) (ds : Array Value) : KeepsOthers W (W.setRow g ds) := ⟨by rw [setRow_size]; exact Nat.le_refl _, fun k o hk hc => by
  by_cases e : k = g
  · subst e
    unfold Blk at h
    rw [h] at hk
    injection hk with hk
    subst hk
    cases hc
  · exact (setRow_other W g k ds e).trans hk⟩
theorem KeepBut.below {n₀ g : Nat} {A B C : World} (h : KeepBut n₀ g A B) (hb : Below B.heap.size B C) (hn : n₀ ≤ B.heap.size) : KeepBut n₀ g A C := fun k hk hg => (hb.block k (by omega)).trans (h k hk hg)
theorem KeepBut.setRow {n₀ g : Nat} {A B : World} (h : KeepBut n₀ g A B) (cs : Array Value) : KeepBut n₀ g A (B.setRow g cs) := fun k hk hg => (setRow_other B g k cs hg).trans (h k hk hg)
/-- the state when some pieces came -/
def hashL {p c : Nat} [NeZero p] (k : Nat) (m : Nat → Fin p) (pre : List (Fin c)) : Nat → Fin p := pre.foldl (fun v x => permT k (absT v m x.1) 8) (fun _ => 0)
theorem hashL_snoc {p c : Nat} [NeZero p] (k : Nat) (m : Nat → Fin p) (pre : List (Fin c)) (x : Fin c) : hashL k m (pre ++ [x]) = permT k (absT (hashL k m pre) m x.1) 8 := by simp [hashL]
theorem hashL_upto {p c : Nat} [NeZero p] (hc : 0 < c) (k : Nat) (m : Nat → Fin p) : ∀ t, t ≤ c → hashL k m (upto (chF hc) t) = hashT k m t := by
  intro t
  induction t with
  | zero => intro _; rfl
  | succ t ih => intro ht; rw [upto_succ, hashL_snoc, ih (by omega), chF_val hc (by omega)]; rfl
/-- what Hash hands back -/
def HashIs {p : Nat} [NeZero p] (D : Nat → Fin p) (w : World) (e : Ending) (w' : World) : Prop :=
  ∃ g : Nat, e = .returned (.slice (some ⟨g, 0, none⟩) 4 4) ∧ Blk w' g 59 (st fun j => fv (D j)) ∧ w.heap.size ≤ g ∧ Below w.heap.size w w'
set_option maxRecDepth 100000 in
set_option maxHeartbeats 4000000 in
theorem hash_any (p S b s k z : Nat) [NeZero p] (oo : Nat → Nat → Fin p) (A : Option Addr) (n c : Nat) (l : List Int) (hn : l.length = n) (hI : ∀ x ∈ l, I64 x) (hr : n * 8 + 64 ≤ 140737488355328) (w : World) (F : Fld w S b p) (G : Spg w s b k z oo) (hs : SL w A l) :
    Calls Try.prog 67 #[.pointer (some ⟨s, 0, none⟩), .slice A n c] w fun e w' => HashIs (digE p k l) w e w' := by
  refine (callsIn_wide (n := 3)).1 ?_
  have hro : (Fence.wide).round = none := rfl
  have h1 : 1 ≤ 3 := by omega
  have hp1 := F.two
  have hp2 := F.max
  have hsl := block_lt_of_cell G.c0
  have hba : Below w.heap.size w ((w.alloc (.cells #[.pointer (some ⟨s, 0, none⟩)] 24)).alloc (.cells (st fun _ => 0) 59)) := ((Below.refl _ _).alloc (Nat.le_refl _) _).alloc (by simp) _
  have hBs := (Blk.new w 24 #[.pointer (some ⟨s, 0, none⟩)]).alloc (.cells (st fun _ => 0) 59)
  have hBx := Blk.new (w.alloc (.cells #[.pointer (some ⟨s, 0, none⟩)] 24)) 59 (st fun _ => 0)
  rw [World.size_alloc] at hBx
  have HPAD := Lib.hid (pad_new p S b s k z oo A n c l hn hI hr _ (F.below hba F.le) (G.below hba hsl) (hs.below hba))
  have hszA : ((w.alloc (.cells #[.pointer (some ⟨s, 0, none⟩)] 24)).alloc (.cells (st fun _ => 0) 59)).heap.size = w.heap.size + 2 := by simp
  obtain ⟨Wa, hWa⟩ : ∃ Wa : World, Wa = (w.alloc (.cells #[.pointer (some ⟨s, 0, none⟩)] 24)).alloc (.cells (st fun _ => 0) 59) := ⟨_, rfl⟩
  rw [← hWa] at hba hBs hBx HPAD hszA
  have HWA := Lib.hid hWa
  have hlM : (padL (fvs (els p l))).length = 4 * padC n := by rw [padC_len, show (fvs (els p l)).length = l.length by simp [fvs, els], hn]
  have hEM := fun j hj => padE_at hp1 l (j := j) hj
  obtain ⟨m, hm⟩ : ∃ m, m = padE p l := ⟨_, rfl⟩
  rw [← hm] at hEM
  obtain ⟨M, hM⟩ : ∃ M, M = padL (fvs (els p l)) := ⟨_, rfl⟩
  have hEM' : ∀ j (hj : j < M.length), M[j] = fv (m j) := by subst hM; exact hEM
  rw [← hM] at hlM HPAD
  have hdig : digE p k l = hashT k m (padC n) := by unfold digE; rw [hn, hm]
  rw [hdig]
  have hc0 : 1 ≤ padC n := by unfold padC padN; omega
  have hcn : 4 * padC n ≤ n + 4 := by unfold padC padN; omega
  obtain ⟨C, hC⟩ : ∃ C, C = padC n := ⟨_, rfl⟩
  rw [← hC] at hlM hc0 hcn ⊢
  have HLM := Lib.hid hlM
  have HEM := Lib.hid hEM'
  clear hWa hEM hEM' hM hm hlM hdig hC hs hI hn
  refine callsIn_of_wp_marks Try.func67 rfl trivial ?_ hro
  simp only [Try.ntmps67, List.size_toArray, List.length_cons, List.length_nil, Nat.reduceAdd, Nat.reduceSub, Array.replicate_succ, Array.replicate_zero, List.push_toArray, List.append_toArray, List.nil_append, List.cons_append]
  gi_wp2_with (fail)
  refine ⟨trivial, ?_⟩
  rw [← st_zero, ← HWA.out]
  refine (callsIn_wide.2 HPAD.out).mono ?_
  rintro _ w2 ⟨A2, c2, rfl, hc2, hm2, hS2, hb2, hfr⟩
  obtain ⟨len, hlen⟩ : ∃ len, len = M.length := ⟨_, rfl⟩
  rw [← hlen] at hc2 ⊢
  have hlen4 : len = 4 * C := by rw [hlen, HLM.out]
  obtain ⟨ad, rfl, had, hcM⟩ := hS2.2 (by omega)
  have HLEN := Lib.hid hlen
  have HL4 := Lib.hid hlen4
  have HCM := Lib.hid hcM
  have hfr2 := hfr ad rfl
  clear hlen hlen4 hcM hS2 hfr
  gi_wp2_with (refine ⟨trivial, ?_⟩; gi_at_call 76; refine (callsIn_wide.2 (chunk_any _ _ _ _)).mono ?_; rintro e w' ⟨rfl, rfl⟩)
  obtain ⟨W0, hW0⟩ : ∃ W0 : World, W0 = (w2.alloc (.cells #[.slice (some ad) len c2] 22)).alloc (.cells #[.int .i64 4] 3) := ⟨_, rfl⟩
  have hsz : W0.heap.size = w2.heap.size + 2 := by rw [hW0]; simp
  have hb20 : Below w2.heap.size w2 W0 := by rw [hW0]; exact ((Below.refl _ w2).alloc (Nat.le_refl _) _).alloc (by simp) _
  have hba2 := hba.trans (hb2.mono hba.size)
  have hbel : Below w.heap.size w W0 := hba2.trans (hb20.mono hba2.size)
  have hb02 := hb2.size
  have bS : Blk W0 w.heap.size 24 #[.pointer (some ⟨s, 0, none⟩)] := (Blk.below (Blk.below (HWA.out ▸ hBs) hb2 (by omega)) hb20 (by omega))
  have bX : Blk W0 (w.heap.size + 1) 59 (st fun _ => 0) := (Blk.below (Blk.below hBx hb2 (by omega)) hb20 (by omega))
  have bL : Blk W0 w2.heap.size 22 #[.slice (some ad) len c2] := by rw [hW0]; exact (Blk.new _ _ _).alloc _
  have bN : Blk W0 (w2.heap.size + 1) 3 #[.int .i64 4] := by
    rw [hW0]; have := Blk.new (w2.alloc (.cells #[.slice (some ad) len c2] 22)) 3 #[.int .i64 4]
    rw [World.size_alloc] at this; exact this
  have hcL : ∀ i, i < len → W0.cell? (ad.add i) = some (vi (fv (m i))) := fun i hi => by
    have hiM : i < M.length := by rw [← HLEN.out]; exact hi
    refine (hb20.cell (p := ad.add i) (by rw [block_of_add]; exact had)).trans ?_
    have := HCM.out i (vi M[i]) (by simp [hiM])
    rw [this, HEM.out i hiM]
  rw [← hW0]
  clear hW0
  have e00 : (st fun _ => 0) = st fun j => fv (hashL (p := p) k m ([] : List (Fin C)) j) := st_congr fun j _ => by
    show 0 = fv (0 : Fin p); rw [fv_zero]
  refine wpIn_rangeFunc_ownG hro h1 (gf := 82) (lb := #[.pointer (some ⟨w2.heap.size, 0, none⟩), .pointer (some ⟨w2.heap.size + 1, 0, none⟩)]) rfl trivial (enters_of Try.func82 (by kernel_rfl) rfl)
    (chunk_stops (3 - 1) (by omega) w2.heap.size (w2.heap.size + 1) (w2.heap.size + 2) (w.heap.size + 1) (by omega) (by omega) ad len C c2 hc0 HL4.out hc2 (by unfold maxLen at hm2; omega) W0 (by omega) (by omega) (by omega) (by omega) (by rw [bL.cell]; rfl) (by rw [bN.cell]; rfl))
    KeepBut.trans (KeepBut.put (by omega)) (Below.refl _ _) (fun _ => rfl)
    (fun pre W => (W.cell? ⟨w.heap.size, 0, none⟩ = some (.pointer (some ⟨s, 0, none⟩)) ∧ Blk W (w.heap.size + 1) 59 (st fun j => fv (hashL (p := p) k m pre j)) ∧ (∀ i, i < len → W.cell? (ad.add i) = some (vi (fv (m i)))) ∧ W0.heap.size ≤ W.heap.size) ∧ Below w.heap.size w W)
    (fun _ _ _ => False)
    (OwnFrom.and (Own.from (fun s A B row hs hg hr => ⟨cell_kept hs.1 hg hr, blk_kept hs.2.1 hg hr, fun i hi => cell_kept (hs.2.2.1 i hi) hg hr, Nat.le_trans hs.2.2.2 hg.size⟩) _) (ownFrom_below (Nat.le_refl _) (by omega)))
    (fun _ _ _ _ _ hs _ _ => hs)
    ⟨⟨by rw [bS.cell]; rfl, by rw [← e00]; exact bX, hcL, Nat.le_refl _⟩, hbel⟩
    (fun y => { tmps := #[.pointer (some ⟨s, 0, none⟩), .slice A n c, .pointer (some ⟨w.heap.size, 0, none⟩), undef, .slice none 0 0, .pointer (some ⟨w.heap.size + 1, 0, none⟩), .slice (some (ad.add (4 * y.1))) 4 4, undef, undef, .pointer (some ⟨s, 0, none⟩), .slice A n c, .slice (some ad) len c2, .func (.func 82) #[] #[.pointer (some ⟨w2.heap.size, 0, none⟩), .pointer (some ⟨w2.heap.size + 1, 0, none⟩)], .slice (some (ad.add (4 * y.1))) 4 4, undef, undef, undef, undef, undef, undef, undef, undef, undef, undef, undef, undef, undef, undef, undef, undef, undef, undef, undef, undef, undef, undef, undef], defers := [] }) ?assign ?body ?done ?stop
  case assign =>
    intro l y W K hK
    gi_wp2
    exact hK
  case body =>
    rintro l pre y W ⟨⟨hcs, hBx, hcM, hszW⟩, hB⟩ _
    have h1' : 1 ≤ 3 - 1 - 1 := by omega
    have hmx : Try.prog.follows .mixedOrders = true := by kernel_rfl
    obtain ⟨Y, hY⟩ : ∃ Y : Nat, Y = y.1 := ⟨_, rfl⟩
    have hYC : Y < C := by rw [hY]; exact y.2
    obtain ⟨V, hV⟩ : ∃ V : Nat → Fin p, V = hashL k m pre := ⟨_, rfl⟩
    rw [← hY]
    rw [← hV, show (fun j => fv (V j)) = absI V m Y 0 by rw [absI_zero]] at hBx
    have HY := Lib.hid hY
    have HV := Lib.hid hV
    have hl4 := HL4.out
    have hY4 : ∀ i, i < 4 → W.cell? (ad.add (4 * Y + i)) = some (vi (fv (m (4 * Y + i)))) := fun i hi => hcM _ (by omega)
    have HYM := Lib.hid hY4
    clear hY hV hl4 hY4
    gi_wp2
    gi_loopw [16, 7, 8] (fun t _ _ wr => ∃ i : Nat, i ≤ 4 ∧ t = vi i ∧ Blk wr (w.heap.size + 1) 59 (st (absI V m Y i)) ∧ KeepsOthers W wr ∧ KeepBut (w2.heap.size + 2) (w.heap.size + 1) W wr ∧ Below w.heap.size w wr) (fun t _ _ _ => 4 - (intOf t).toNat)
    case atStart => exact ⟨0, by omega, rfl, hBx, KeepsOthers.refl _, KeepBut.refl _ _ _, hB⟩
    case round =>
      clear hBx
      obtain ⟨i, hi, rfl, hBx, hko, hkb, hB⟩ := hrel
      by_cases hi4 : i < 4
      · have i1 : (0 : Int) ≤ (i : Int) := by omega
        have i2 : (i : Int) < 4 := by omega
        have i3 : (i : Int) < 8 := by omega
        have hbs : w.heap.size < w2.heap.size + 2 := by omega
        have hcr : wr.cell? ⟨w.heap.size, 0, none⟩ = some (.pointer (some ⟨s, 0, none⟩)) := (hkb.cell (p := ⟨w.heap.size, 0, none⟩) hbs (by show w.heap.size ≠ w.heap.size + 1; omega)).trans hcs
        have hs0 : wr.cell? ⟨s, 0, none⟩ = some (.pointer (some ⟨b, 0, none⟩)) := (hB.cell (p := ⟨s, 0, none⟩) hsl).trans G.c0
        have hc0 : wr.cell? ⟨b, 0, none⟩ = some (vi p) := (hB.cell (p := ⟨b, 0, none⟩) (Nat.lt_of_lt_of_le F.lt F.le)).trans F.c0
        have hcy : wr.cell? ((ad.add (4 * Y)).add i) = some (vi (fv (m (4 * Y + i)))) := by
          rw [add_of_add]
          exact (hkb.cell (p := ad.add (4 * Y + i)) (by rw [block_of_add]; omega) (by rw [block_of_add]; omega)).trans (HYM.out i hi4)
        have cX := hBx.at8 (show i < 8 by omega)
        have fX := hBx.frozen i
        rw [absI_at] at cX
        have hst := absI_step V m Y i
        obtain ⟨E, hE⟩ : ∃ E, E = m (4 * Y + i) := ⟨_, rfl⟩
        rw [← hE] at hcy hst
        obtain ⟨X, hX⟩ : ∃ X, X = V i := ⟨_, rfl⟩
        rw [← hX] at cX hst
        have hadd := fun W hc => add_any p hp2 b (fv X) (fv E) (i64_fv _ hp2) (i64_fv _ hp2) W hc
        rw [el_fv, el_fv] at hadd
        obtain ⟨U, hU⟩ : ∃ U, U = X + E := ⟨_, rfl⟩
        rw [← hU] at hadd hst
        have hset := fun nq => (hBx.drewN nq).set8 (show i < 8 by omega) (fv U)
        rw [hst] at hset
        have HADD := Lib.hid hadd
        have HSET := Lib.hid hset
        have HKO := Lib.hid hko
        have HKB := Lib.hid hkb
        have HB := Lib.hid hB
        clear hadd hset hst hE hX hU hBx hko hkb hB
        gi_wp2
        refine wpIn_region_quiet_tail_lp 11 hmx (by kernel_rfl) (by kernel_rfl) ?_
        simp only [List.take_succ_cons, List.take_zero, List.drop_succ_cons, List.drop_zero]
        repeat (quiet_step ((go_at_call 53; exact Calls.quiet_of (HADD.out _ (by exact hc0)))))
        refine wpQuiet_nil ?_
        intro _ hw'
        obtain ⟨nq, hw''⟩ := hw'
        subst hw''
        go_wp2
        have hq1 := HSET.out nq
        have hq2 := (HKO.out.trans (⟨Nat.le_refl _, fun _ _ h _ => h⟩ : KeepsOthers wr (wr.drewN nq))).trans (KeepsOthers.setCell (wr.drewN nq) ⟨w.heap.size + 1, i, none⟩ (vi (fv U)))
        have hq3 := (HKB.out.drewN nq).setCell (p := ⟨w.heap.size + 1, i, none⟩) rfl (vi (fv U))
        have hq4 := (below_drewN HB.out nq).setCell (p := ⟨w.heap.size + 1, i, none⟩) (by show w.heap.size ≤ w.heap.size + 1; omega) (vi (fv U))
        rw [noOut_normal]
        gi_wp2
        go_roundw
        case rel => exact ⟨i + 1, by omega, by go_num, hq1, hq2, hq3, hq4⟩
        case measure => simp [intOf]; omega
      · have ei : i = 4 := by omega
        rw [ei] at hBx
        have t4 : ¬ (i : Int) < 4 := by omega
        clear ei
        have hbs : w.heap.size < w2.heap.size + 2 := by omega
        have hcr : wr.cell? ⟨w.heap.size, 0, none⟩ = some (.pointer (some ⟨s, 0, none⟩)) := (hkb.cell (p := ⟨w.heap.size, 0, none⟩) hbs (by show w.heap.size ≠ w.heap.size + 1; omega)).trans hcs
        obtain ⟨X, hX⟩ : ∃ X, X = absI V m Y 4 := ⟨_, rfl⟩
        rw [← hX] at hBx
        have hXE : ∀ j, el p (X j) = absT V m Y j := by rw [hX]; exact fun j => absI_done V m Y j
        have hXI : ∀ j, I64 (X j) := by rw [hX]; exact fun j => i64_absI hp2 V m Y 4 j
        have x0 := hBx.at8 (show 0 < 8 by omega)
        have x1 := hBx.at8 (show 1 < 8 by omega)
        have x2 := hBx.at8 (show 2 < 8 by omega)
        have x3 := hBx.at8 (show 3 < 8 by omega)
        have x4 := hBx.at8 (show 4 < 8 by omega)
        have x5 := hBx.at8 (show 5 < 8 by omega)
        have x6 := hBx.at8 (show 6 < 8 by omega)
        have x7 := hBx.at8 (show 7 < 8 by omega)
        have HP := Lib.hid (permuted_any p S b s k z oo X hXI wr (F.below hB F.le) (G.below hB hsl))
        have hres : (st fun i => fv (permT (p := p) k (fun j => el p (X j)) 8 i)) = st fun j => fv (hashL k m (pre ++ [y]) j) := st_congr fun j hj => by
          show fv (permT k _ 8 j) = fv (hashL k m (pre ++ [y]) j)
          rw [hashL_snoc, ← HV.out, ← HY.out, permT_congr k (u := fun j => el p (X j)) (v := absT V m Y) (fun i' _ => hXE i') 8 j hj]
        rw [hres] at HP
        have HBX := Lib.hid hBx
        have HKO := Lib.hid hko
        have HKB := Lib.hid hkb
        have HB := Lib.hid hB
        obtain ⟨R, hR⟩ : ∃ R : Nat → Int, R = fun j => fv (hashL k m (pre ++ [y]) j) := ⟨_, rfl⟩
        rw [← hR] at HP
        have HR := Lib.hid hR
        rw [st_lit X] at HP
        clear hres hX hXI hXE hBx hko hkb hB hR
        gi_wp2_with (fail)
        refine ⟨trivial, (CallsIn.inRound l (callsIn_wide.2 HP.out)).mono ?_⟩
        rintro _ w3 ⟨rfl, hb3⟩
        have h3 := Blk.below HBX.out hb3 HBX.out.lt
        have HB3 := Lib.hid hb3
        clear hb3 x0 x1 x2 x3 x4 x5 x6 x7 hcr
        gi_wp2_with (refine wpListIn_plain rfl fun K hK => operIn_of_wp (by intro c h; cases h) (wp_store_row 59 _ _ rfl (w.heap.size + 1) (st R) rfl rfl _ _ h3 (info8 _) (by rw [st_size, st_size]) (st_one _) (hK _ _ ?_)))
        have hbB : Below w.heap.size w w3 := HB.out.trans (HB3.out.mono HB.out.size)
        have hkb3 : KeepBut (w2.heap.size + 2) (w.heap.size + 1) W (w3.setRow (w.heap.size + 1) (st R)) := (HKB.out.below HB3.out (by have := HKO.out.size; omega)).setRow _
        have hko3 : KeepsOthers W (w3.setRow (w.heap.size + 1) (st R)) := (HKO.out.trans (keeps_below HB3.out)).trans (keeps_setRow h3 _)
        have hBR : Blk (w3.setRow (w.heap.size + 1) (st R)) (w.heap.size + 1) 59 (st R) := setRow_heap _ _ _ _ _ _ h3
        refine ⟨hko3.from _, hkb3, ⟨(hkb3.cell (p := ⟨w.heap.size, 0, none⟩) hbs (by show w.heap.size ≠ w.heap.size + 1; omega)).trans hcs, by rw [← HR.out]; exact hBR, fun i' hi' => (hkb3.cell (p := ad.add i') (by rw [block_of_add]; omega) (by rw [block_of_add]; omega)).trans (hcM i' hi'), ?_⟩, below_setRow8 hbB (by omega) _⟩
        have := hko3.size
        omega
  case done =>
    rintro D ys W hD rfl ⟨⟨_, hBx, _, _⟩, hB⟩ hK
    rw [hashL_upto hc0 k m C (Nat.le_refl _)] at hBx
    gi_wp2
    refine ⟨by simp, .inl ⟨_, _, rfl, run_takeDeferred hK, ?_⟩⟩
    have hbD : ∀ B : Nat, B ≤ W0.heap.size → ∀ o', Below B W (W.putObj D o') := fun B hBB o' => belowK_b (n₀ := B) (w := W0) hBB W D _ o' hD hK rfl rfl
    exact ⟨_, results_tmp rfl _ _ _, w.heap.size + 1, rfl, hBx.below (hbD W0.heap.size (Nat.le_refl _) _) (by omega), by omega, hB.trans (hbD w.heap.size (by omega) _)⟩
  case stop =>
    rintro D c pre W _ _ h _
    exact h.elim
end Go.Proofs.Ytabhndfdioimcaa
