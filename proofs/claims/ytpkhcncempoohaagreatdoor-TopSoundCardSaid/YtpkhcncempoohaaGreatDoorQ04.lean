/- A bundle of texts: Round, Mul, Each, Jb1, Jb2, Jb3, Jb4, Jb5, Jb6. -/
import Derived.StillTail
import Derived.StillTactics
import Derived.Deep.QuietTactic
import Derived.BigQuiet
import Derived.OrdersIn
import Derived.RangeFuncWrites
import Derived.RangeFuncCalls
import Derived.TacticsIn
import Derived.Test.YtpkhcncempoohaaGreatDoorQ03
import Derived.Test.YtpkhcncempoohaaGreatDoorQ00
import Derived.IntWalk
import Derived.Test.YtpkhcncempoohaaGreatDoorQ02
import Derived.Deep.RegionHeld3
import Derived.Deep.DeepCutAuto
set_option linter.unusedVariables false
set_option linter.unusedSimpArgs false
namespace Go.Proofs.YtpkhcncempoohaaGreatDoor
section
variable {P : Program}
theorem quiet_eq {f : FuncId} {args : Array Value} {w : World} {n : Nat} {v : Value} (h : Calls P f args (w.drewN n) fun e w' => e = .returned v ∧ w.drewN n = w') : Calls P f args (w.drewN n) fun e w'' => e = .returned v ∧ ∃ m, w'' = w.drewN m :=
  h.mono fun _ _ ⟨he, hm⟩ => ⟨he, n, hm.symm⟩
section
variable {ops : Array Oper} {md : Region.Mode} {C : World → Prop}
def wpAnyQL (P : Program) (md : Region.Mode) (ops : Array Oper) (C : World → Prop) (n : Nat) (L : Array Bool → Act → Prop) : Nat → Array Bool → Act → Prop
  | 0, listed, a => L listed a
  | f + 1, listed, a =>
    Region.ready md ops listed ≠ [] ∧ ∀ i ∈ Region.ready md ops listed, i < n ∧ qOp P ops C i (wpAnyQL P md ops C n L f (listed.setIfInBounds i true)) a
theorem wpAny_of_headQ {n g : Nat} {L : Array Bool → Act → Prop} {Q' : Exit → Act → World → Prop} (hL : ∀ listed a w, C w → L listed a → wpAny P md ops Q' g listed a w) :
    ∀ (f : Nat) (listed : Array Bool) (a : Act) (w : World), C w → wpAnyQL P md ops C n L f listed a → wpAny P md ops Q' (f + g) listed a w
  | 0, listed, a, w, hw, h => by rw [Nat.zero_add]; exact hL _ _ _ hw h
  | f + 1, listed, a, w, hw, h => by
    rw [show f + 1 + g = (f + g) + 1 by omega]
    exact ⟨fun h0 => absurd h0 h.1, fun i hi => wpOp_of_qOp hw (fun a' w' hw' h' => wpAny_of_headQ hL f _ a' w' hw' h') (h.2 i hi).2⟩
theorem wpAnyQL_first {n i : Nat} {oi : Oper} {v : Value} {L : Array Bool → Act → Prop} (hi : ops[i]? = some oi) (hsel : ∀ (j : Nat) (o : Oper) cs b, ops[j]? = some o → o.op ≠ .select cs b)
    (hs : Region.sinkB md ops n = true) (hc : Region.chainB md ops n = true) (hn : n < ops.size) (hin : i < n)
    (hdone : ∀ listed a, L listed a → ∀ j ∈ Region.ready md ops listed, n ≤ j) :
    ∀ (f : Nat) (listed : Array Bool) (a : Act), HeadInv md ops n listed →
      (∀ j oj, ops[j]? = some oj → j ≠ i → listed.getD j true = false → (∀ e ∈ oj.after, Region.binds md e = true → e.on ≠ i) → oi.apart ops oj = true) →
      i ∈ Region.ready md ops listed → YieldsIn P ops C oi v a →
      wpAnyQL P md ops C n L f (listed.setIfInBounds i true) (a.put oi.dst v) → wpAnyQL P md ops C n L (f + 1) listed a := by
  intro f
  induction f with
  | zero =>
    intro listed a inv _ hr hy H
    have hun := (mem_ready.1 hr).1
    refine ⟨fun h => (by rw [h] at hr; cases hr), fun j hj => ?_⟩
    have hjn : j < n := by
      rcases Nat.lt_or_ge j n with h | h
      · exact h
      · exact absurd hj (tail_waits hs hc hn inv _ i rfl hin hun j h)
    refine ⟨hjn, ?_⟩
    by_cases hji : j = i
    · subst hji; exact hy.qOp hi H
    · have := hdone _ _ H j (ready_mono hj hji)
      omega
  | succ f ih =>
    intro listed a inv hfree hr hy H
    have hun := (mem_ready.1 hr).1
    refine ⟨fun h => (by rw [h] at hr; cases hr), fun j hj => ?_⟩
    have hjn : j < n := by
      rcases Nat.lt_or_ge j n with h | h
      · exact h
      · exact absurd hj (tail_waits hs hc hn inv _ i rfl hin hun j h)
    refine ⟨hjn, ?_⟩
    by_cases hji : j = i
    · subst hji; exact hy.qOp hi H
    · have h1 := (H.2 j (ready_mono hj hji)).2
      obtain ⟨hjun, oj, hoj, hall⟩ := mem_ready.1 hj
      have hnot : ∀ e ∈ oj.after, Region.binds md e = true → e.on ≠ i := fun e he hb heq => by
        have h1 := hall e he hb
        rw [heq, getD_both hun] at h1
        cases h1
      have h2 := qOp_put hoj (hfree j oj hoj hji hjun hnot) (fun cs b => hsel i oi cs b hi) (fun cs b => hsel j oj cs b hoj) hy h1
      have hfree' : ∀ k ok, ops[k]? = some ok → k ≠ i → (listed.setIfInBounds j true).getD k true = false →
          (∀ e ∈ ok.after, Region.binds md e = true → e.on ≠ i) → oi.apart ops ok = true := fun k ok hk hki hun hno => by
        refine hfree k ok hk hki ?_ hno
        by_cases hjk : j = k
        · subst hjk; exact hjun
        · rw [getD_set_ne true hjk] at hun; exact hun
      refine qOp_mono (fun a' h3 => ih (listed.setIfInBounds j true) a' (inv.set hj hjn) hfree' (ready_mono hr (Ne.symm hji)) h3.1 ?_) h2
      rw [Array.setIfInBounds_comm _ _ hji]
      exact h3.2
theorem wpAnyQL_lex {n g : Nat} {Lq : Act → Prop} (hsel : Region.noSelect ops = true) (hs : Region.sinkB md ops n = true) (hc : Region.chainB md ops n = true) (hn : n < ops.size) :
    ∀ (l : List Oper) (k : Nat) (listed : Array Bool) (a : Act), (∀ j, j < l.length → l[j]? = ops[k + j]?) → k + l.length = n → HeadInv md ops n listed →
    Region.lexHead md ops g l.length k listed = true → wpQuiet P ops C Lq l a →
    wpAnyQL P md ops C n (fun listed' a' => Region.seqB md ops g n listed' = true ∧ Lq a') l.length listed a
  | [], k, listed, a, _, hk, _, hB, h => by
    have : k = n := by simpa using hk
    subst this
    exact ⟨by simpa [Region.lexHead] using hB, h⟩
  | o :: l, k, listed, a, hl, hk, inv, hB, h => by
    have h0 : ops[k]? = some o := by simpa using (hl 0 (by simp)).symm
    simp only [List.length_cons, Region.lexHead, Bool.and_eq_true] at hB
    obtain ⟨⟨hr, hf⟩, hB'⟩ := hB
    have hkn : k < n := by simp only [List.length_cons] at hk; omega
    have hr' : k ∈ Region.ready md ops listed := by simpa using hr
    have hst : qOp P ops C k (wpQuiet P ops C Lq l) a := by unfold qOp; simp only [h0]; exact h
    obtain ⟨v, hy, hK⟩ := yieldsIn_of_qOp h0 hst
    exact wpAnyQL_first h0 (Region.noSelect_spec hsel) hs hc hn hkn (fun listed' a' hL => seqB_ready hL.1) l.length listed a inv (Region.free_spec h0 hf) hr' hy
      (wpAnyQL_lex hsel hs hc hn l (k + 1) _ _ (fun j hj => by have := hl (j + 1) (by simp; omega); simpa [Nat.add_assoc, Nat.add_comm 1 j] using this) (by simp only [List.length_cons] at hk; omega) (inv.set hr' hkn) hB' hK)
theorem wpAny_quiet_tail {Q : Exit → Act → World → Prop} {a : Act} {w : World} {l : List Oper} (n : Nat) (hB : Region.lexTailB .any l.toArray n = true)
    (h : wpQuiet P l.toArray (fun w' => ∃ n, w' = w.drewN n) (fun a' => ∀ w', (∃ n, w' = w.drewN n) → wpList P l.toArray Q (l.drop n) a' w') (l.take n) a) :
    wpAny P .any l.toArray Q l.toArray.size (Array.replicate l.toArray.size false) a { w with drawn := w.drawn + 1 } := by
  simp only [Region.lexTailB, Bool.and_eq_true, decide_eq_true_eq] at hB
  obtain ⟨⟨⟨⟨hsel, hn⟩, hs⟩, hc⟩, hlex⟩ := hB
  have hn' : n < l.length := by simpa using hn
  have htl : (l.take n).length = n := by simp; omega
  have hdl : (l.drop n).length = l.toArray.size - n := by simp
  have inv0 : HeadInv .any l.toArray n (Array.replicate l.toArray.size false) :=
    ⟨by simp, fun j oj _ hl => (by rw [getD_replicate_false] at hl; cases hl), fun t _ ht => getD_in (by simpa using ht) (getD_replicate_false _ _)⟩
  have H := wpAnyQL_lex (md := .any) (g := l.toArray.size - n) hsel hs hc hn (l.take n) 0 _ a (fun j hj => by
    have hj' : j < n := by rw [htl] at hj; exact hj
    simp [hj']) (by simpa using htl) inv0 (by rw [htl]; exact hlex) h
  have := wpAny_of_headQ (Q' := Q) (g := l.toArray.size - n) (fun listed a' w' hw' hL => by
    have := wpAny_of_seq (md := .any) (Q' := Q) (l.drop n) n listed a' w' (fun j => by simp [List.getElem?_drop]) (by rw [hdl]; exact hL.1) (hL.2 w' hw')
    rwa [hdl] at this) _ _ _ { w with drawn := w.drawn + 1 } ⟨1, rfl⟩ H
  rw [htl, show n + (l.toArray.size - n) = l.toArray.size by omega] at this
  exact this
theorem wp_region_quiet_tail {id : Nat} {Q : Exit → Act → World → Prop} {a : Act} {w : World} {l : List Oper} (n : Nat) (hm : P.follows .mixedOrders = true) (hB : Region.lexTailB .any l.toArray n = true)
    (h : wpQuiet P l.toArray (fun w' => ∃ n, w' = w.drewN n) (fun a' => ∀ w', (∃ n, w' = w.drewN n) → wpList P l.toArray Q (l.drop n) a' w') (l.take n) a) : (Code.region id l.toArray true).wp P Q a w :=
  wp_region_any hm (wpAny_quiet_tail n hB h)
end
end
end Go.Proofs.YtpkhcncempoohaaGreatDoor

namespace Go.Proofs.YtpkhcncempoohaaGreatDoor
open Go.RowKit Zp
def OwnE {p : Nat} (wr : World) (base g n : Nat) (L : List (Fin p)) : Prop := L.length = n ∧ Own wr base (.slice (some ⟨g, 0, none⟩) n n) (fvs L)
theorem OwnE.at_ {p : Nat} [NeZero p] {wr : World} {base g n : Nat} {L : List (Fin p)} (h : OwnE wr base g n L) (j : Nat) (hj : j < n) : wr.cell? ⟨g, j, none⟩ = some (vi (fv (co L j))) := by
  have hl := h.1
  have := Own.at_ h.2 (by simp [hl]) j (by simp [hl]; omega)
  rw [this, co_of_lt (by omega), List.getElem_map]
theorem OwnE.frozen {p : Nat} {wr : World} {base g n : Nat} {L : List (Fin p)} (h : OwnE wr base g n L) (j : Nat) : wr.frozen? ⟨g, j, none⟩ = false := Own.frozen_ h.2 (by simp [h.1]) j
theorem OwnE.store {p : Nat} {wr : World} {base g n : Nat} {L : List (Fin p)} (h : OwnE wr base g n L) (j : Nat) (x : Fin p) : OwnE (wr.setCell ⟨g, j, none⟩ (vi (fv x))) base g n (L.set j x) := by
  refine ⟨by simp [h.1], ?_⟩
  have := Own.store h.2 (by simp [h.1]) j (fv x)
  rwa [← List.map_set] at this
theorem OwnE.made {p : Nat} [NeZero p] (w : World) (base n : Nat) (hb : base ≤ w.heap.size) (hc : n * 8 ≤ 281474976710656) : OwnE (p := p) (w.alloc (.cells (zeros n) 3)) base w.heap.size n (List.replicate n 0) := by
  refine ⟨by simp, ?_⟩
  have := own_made w base n hb hc
  rwa [show List.replicate n (0 : Int) = fvs (List.replicate n (0 : Fin p)) from by simp [fv_zero]] at this
theorem OwnE.lt {p : Nat} {wr : World} {base g n : Nat} {L : List (Fin p)} (h : OwnE wr base g n L) : base ≤ g ∧ g < wr.heap.size := h.2.lt g rfl
theorem OwnE.sl {p : Nat} {wr : World} {base g n : Nat} {L : List (Fin p)} (h : OwnE wr base g n L) : SL wr (some ⟨g, 0, none⟩) (fvs L) := by
  obtain ⟨A, c, h1, h2⟩ := h.2.len
  injection h1 with h1 _ _
  rw [h1]; exact h2
theorem co_set {p : Nat} [NeZero p] (L : List (Fin p)) (j : Nat) (x : Fin p) (hj : j < L.length) (m : Nat) : co (L.set j x) m = if m = j then x else co L m := by
  unfold co
  rw [List.getElem?_set]
  by_cases h : m = j
  · subst h; rw [if_pos rfl, if_pos rfl, if_pos hj]; rfl
  · rw [if_neg (fun e => h e.symm), if_neg h]
theorem i64_fvs {p : Nat} (L : List (Fin p)) (hp2 : p ≤ 2147483647) : ∀ n ∈ fvs L, I64 n := by
  intro n hn
  obtain ⟨x, _, rfl⟩ := List.mem_map.1 hn
  exact i64_fv x hp2
end Go.Proofs.YtpkhcncempoohaaGreatDoor

namespace Go.Proofs.YtpkhcncempoohaaGreatDoor
open Go.RowKit Zp
theorem callFunc_enters {K : Nat} {fn : Func} (hf : Tryz.prog.funcs[K]? = some fn) (hname : (fn.name == "runtime.NumGoroutine") = false) (hb : fn.body.isSome = true) (args : Array Value) (w : World) :
    (callFunc K args).run Tryz.prog w = .ok (.enter K args) w := by
  have h1 : fn.name ≠ "runtime.NumGoroutine" := by simpa using hname
  obtain ⟨c, hc⟩ := Option.isSome_iff_exists.1 hb
  simp [callFunc, hf, h1, hc]
end Go.Proofs.YtpkhcncempoohaaGreatDoor

namespace Go.Proofs.YtpkhcncempoohaaGreatDoor
open Go.RowKit Zp
structure JR (w : World) (j b p : Nat) (g n cA : Nat) (rw : Nat → Int) : Prop where
  cp : w.cell? ⟨b, 0, none⟩ = some (vi p)
  cb : w.cell? ⟨j, 0, none⟩ = some (.pointer (some ⟨b, 0, none⟩))
  cr : w.cell? ⟨j, 4, none⟩ = some (.slice (some ⟨g, 0, none⟩) n cA)
  at_ : ∀ k, k < n → w.cell? ⟨g, k, none⟩ = some (vi (rw k))
  i64 : ∀ k, I64 (rw k)
  len : 20 ≤ n
  max : p ≤ 2147483647
  big : n ≤ 65536
theorem JR.below {w w' : World} {j b p : Nat} {g n cA : Nat} {rw : Nat → Int} (h : JR w j b p g n cA rw) (hb : Below w.heap.size w w') : JR w' j b p g n cA rw :=
  ⟨(hb.cell (block_lt_of_cell h.cp)).trans h.cp, (hb.cell (block_lt_of_cell h.cb)).trans h.cb, (hb.cell (block_lt_of_cell h.cr)).trans h.cr, fun k hk => (hb.cell (block_lt_of_cell (h.at_ k hk))).trans (h.at_ k hk), h.i64, h.len, h.max, h.big⟩
def rE (p : Nat) [NeZero p] (rw : Nat → Int) : Nat → Fin p := fun k => el p (rw k)
theorem el_two (p : Nat) [NeZero p] : el p 2 = 1 + 1 := by rw [show (2 : Int) = 1 + 1 from rfl, el_add, el_one]
def insV (x : InsI) : Value := .agg #[vi x.op, vi x.a, vi x.b, vi x.c]
structure InsOk (x : InsI) : Prop where
  op : I64 x.op
  a : I64 x.a
  b : I64 x.b
  c : I64 x.c
def GivesE {p : Nat} [NeZero p] (X : Fin p) (w : World) (e : Ending) (w' : World) : Prop := ∃ z : Int, I64 z ∧ e = .returned (vi z) ∧ el p z = X ∧ Below w.heap.size w w'
theorem GivesE.of_fv {p : Nat} [NeZero p] {X : Fin p} {w w' : World} {Y : Fin p} (hp2 : p ≤ 2147483647) (h : Y = X) (hb : Below w.heap.size w w') : GivesE X w (.returned (vi (fv Y))) w' := ⟨fv Y, i64_fv _ hp2, rfl, by rw [el_fv, h], hb⟩
theorem jv_any (j b p : Nat) (g n cA : Nat) (rw : Nat → Int) (i : Nat) (hi : i < 3) (w : World) (h : JR w j b p g n cA rw) :
    Calls Tryz.prog 149 #[.pointer (some ⟨j, 0, none⟩), vi i] w fun e w' => e = .returned (vi (rw (7 + i))) ∧ w' = w := by
  have hl := h.len
  have c4 := h.cr
  have e7 := h.at_ 7 (by omega)
  have e8 := h.at_ 8 (by omega)
  have e9 := h.at_ 9 (by omega)
  have i7 : (7 : Int) < (n : Int) := by omega
  have i8 : (8 : Int) < (n : Int) := by omega
  have i9 : (9 : Int) < (n : Int) := by omega
  clear h
  go_enter Tryz.func149, Tryz.ntmps149
  obtain rfl | rfl | rfl : i = 0 ∨ i = 1 ∨ i = 2 := by omega
  all_goals
    go_wp2
    go_ret
    exact ⟨rfl, rfl⟩
theorem jhelps_any (j b p : Nat) [NeZero p] (g n cA : Nat) (rw : Nat → Int) (w : World) (h : JR w j b p g n cA rw) :
    Calls Tryz.prog 176 #[.pointer (some ⟨j, 0, none⟩)] w fun e w' => e = .returned (vi (fv (rE p rw 11 * rE p rw 7))) ∧ ∃ k, w' = w.drewN k := by
  have hl := h.len
  have hp2 := h.max
  have c0 := h.cb
  have c4 := h.cr
  have cb := h.cp
  have c11 := h.at_ 11 (by omega)
  have hV := Lib.hid (fun k => jv_any j b p g n cA rw 0 (by omega) (w.drewN k) (h.below (below_drewN (Below.refl _ _) k)))
  have i0 : (11 : Int) < (n : Int) := by omega
  have hi1 := h.i64 11
  have hi2 := h.i64 7
  clear h
  go_enter Tryz.func176, Tryz.ntmps176
  go_wp2
  go_region_held3 (fun w' => w'.cell? ⟨j, 0, none⟩ = some (.pointer (some ⟨b, 0, none⟩)) ∧ w'.cell? ⟨j, 4, none⟩ = some (.slice (some ⟨g, 0, none⟩) n cA) ∧ w'.cell? ⟨g, 11, none⟩ = some (vi (rw 11)) ∧ w'.cell? ⟨b, 0, none⟩ = some (vi p)) (exact ⟨c0, c4, c11, cb⟩) ((first | (go_at_call 69; refine (mul_any p hp2 b _ _ hi1 hi2 _ (by exact cb)).mono ?_; rintro e w' ⟨rfl, k3, rfl⟩) | (go_at_call 149; refine (hV.out _).mono ?_; rintro e w' ⟨rfl, rfl⟩)))
  go_wp2
  go_ret
  exact ⟨rfl, _, rfl⟩
theorem jone_any (k : Nat) (x : InsI) (w : World) : Calls Tryz.prog 139 #[vi k, insV x] w fun e w' => e = .returned (vi 1) ∧ Below w.heap.size w w' := by
  unfold insV
  have hb0 : Below w.heap.size w (w.alloc (.cells #[vi x.op, vi x.a, vi x.b, vi x.c] 121)) := (Below.refl _ _).alloc (Nat.le_refl _) _
  go_enter Tryz.func139, Tryz.ntmps139
  go_wp2
  go_ret
  exact ⟨rfl, hb0⟩
theorem jhalts_any (p : Nat) [NeZero p] (k : Nat) (x : InsI) (w : World) : Calls Tryz.prog 148 #[vi k, insV x] w (GivesE (haltI k x : Fin p) w) := by
  unfold insV
  have hb0 : Below w.heap.size w (w.alloc (.cells #[vi x.op, vi x.a, vi x.b, vi x.c] 121)) := (Below.refl _ _).alloc (Nat.le_refl _) _
  go_enter Tryz.func148, Tryz.ntmps148
  by_cases h : x.op = 0
  · have g : (x.op == 0) = true := by simp [h]
    have HB0 := Lib.hid hb0
    have H := Lib.hid h
    clear h hb0
    go_wp2
    go_ret
    exact ⟨1, by constructor <;> omega, rfl, by rw [haltI, if_pos H.out, el_one], HB0.out⟩
  · have g : (x.op == 0) = false := by simp [h]
    go_wp2
    go_ret
    exact ⟨0, by constructor <;> omega, rfl, by rw [haltI, if_neg h, el_zero], hb0⟩
end Go.Proofs.YtpkhcncempoohaaGreatDoor

namespace Go.Proofs.YtpkhcncempoohaaGreatDoor
open Go.RowKit Zp
set_option maxRecDepth 100000 in
set_option maxHeartbeats 8000000 in
theorem jdoes_any (j b p : Nat) [NeZero p] (g n cA : Nat) (rw : Nat → Int) (k : Nat) (op ia ib ic : Int) (ho : I64 op) (hia : I64 ia) (hib : I64 ib) (hic : I64 ic) (w : World) (h : JR w j b p g n cA rw) :
    Calls Tryz.prog 141 #[.pointer (some ⟨j, 0, none⟩), vi k, .agg #[vi op, vi ia, vi ib, vi ic]] w (GivesE (doesI (rE p rw) k ⟨op, ia, ib, ic⟩) w) := by
  have hl := h.len
  have hp2 := h.max
  have HP0 := Lib.hid (Nat.pos_of_ne_zero (NeZero.ne p))
  have hI := h.i64
  have hb0 : Below w.heap.size w (w.alloc (.cells #[vi op, vi ia, vi ib, vi ic] 121)) := (Below.refl _ _).alloc (Nat.le_refl _) _
  have hB0 := Blk.new w 121 #[vi op, vi ia, vi ib, vi ic]
  obtain ⟨W0, hW0⟩ : ∃ W0, W0 = w.alloc (.cells #[vi op, vi ia, vi ib, vi ic] 121) := ⟨_, rfl⟩
  rw [← hW0] at hb0 hB0
  have x0 := (hB0.cell 0).trans (show _ = some (vi op) from rfl)
  have x1 := (hB0.cell 1).trans (show _ = some (vi ia) from rfl)
  have x2 := (hB0.cell 2).trans (show _ = some (vi ib) from rfl)
  have x3 := (hB0.cell 3).trans (show _ = some (vi ic) from rfl)
  have h1 := h.below hb0
  have HJ := Lib.hid (fun k => h1.below (below_drewN (Below.refl _ _) k))
  have c0 := h1.cb
  have c4 := h1.cr
  have cb := h1.cp
  have r0 := h1.at_ 0 (by omega)
  have r1 := h1.at_ 1 (by omega)
  have r2 := h1.at_ 2 (by omega)
  have r11 := h1.at_ 11 (by omega)
  have n0 : 0 < n := by omega
  have n00 : (0 : Int) < (n : Int) := by omega
  have n1 : (1 : Int) < (n : Int) := by omega
  have n2 : (2 : Int) < (n : Int) := by omega
  have n11 : (11 : Int) < (n : Int) := by omega
  have hV0 : ∀ W, JR W j b p g n cA rw → Calls Tryz.prog 149 #[.pointer (some ⟨j, 0, none⟩), vi 0] W (fun e w' => e = .returned (vi (rw 7)) ∧ W = w') := fun W hW => (jv_any j b p g n cA rw 0 (by omega) W hW).mono fun e w' h => ⟨h.1, h.2.symm⟩
  have hV1 : ∀ W, JR W j b p g n cA rw → Calls Tryz.prog 149 #[.pointer (some ⟨j, 0, none⟩), vi 1] W (fun e w' => e = .returned (vi (rw 8)) ∧ W = w') := fun W hW => (jv_any j b p g n cA rw 1 (by omega) W hW).mono fun e w' h => ⟨h.1, h.2.symm⟩
  have hV2 : ∀ W, JR W j b p g n cA rw → Calls Tryz.prog 149 #[.pointer (some ⟨j, 0, none⟩), vi 2] W (fun e w' => e = .returned (vi (rw 9)) ∧ W = w') := fun W hW => (jv_any j b p g n cA rw 2 (by omega) W hW).mono fun e w' h => ⟨h.1, h.2.symm⟩
  have HV0 := Lib.hid hV0
  have HV1 := Lib.hid hV1
  have HV2 := Lib.hid hV2
  have HHP := Lib.hid (fun k => jhelps_any j b p g n cA rw (W0.drewN k) (HJ.out k))
  have HI := Lib.hid hI
  have HB0 := Lib.hid hb0
  have HW0 := Lib.hid hW0
  clear hW0 hb0 hB0 h h1 hV0 hV1 hV2 hI
  go_enter Tryz.func141, Tryz.ntmps141
  go_upto_region 1 with (fail)
  rw [← HW0.out]
  go_wp2_with fail
  refine (HV0.out _ (HJ.out 0)).mono ?_
  rintro _ _ ⟨rfl, rfl⟩
  go_wp2_with fail
  refine (HV1.out _ (HJ.out 0)).mono ?_
  rintro _ _ ⟨rfl, rfl⟩
  go_wp2_with fail
  refine (HV2.out _ (HJ.out 0)).mono ?_
  rintro _ _ ⟨rfl, rfl⟩
  by_cases e1 : op = 1
  · subst e1
    go_wp2
    go_region_held3 (fun w' => w'.cell? ⟨j, 0, none⟩ = some (.pointer (some ⟨b, 0, none⟩)) ∧ w'.cell? ⟨j, 4, none⟩ = some (.slice (some ⟨g, 0, none⟩) n cA) ∧ w'.cell? ⟨b, 0, none⟩ = some (vi p) ∧ w'.cell? ⟨g, 0, none⟩ = some (vi (rw 0)) ∧ w'.cell? ⟨g, 1, none⟩ = some (vi (rw 1)) ∧ w'.cell? ⟨g, 2, none⟩ = some (vi (rw 2)) ∧ w'.cell? ⟨g, 11, none⟩ = some (vi (rw 11)) ∧ w'.cell? ⟨w.heap.size, 1, none⟩ = some (vi ia) ∧ w'.cell? ⟨w.heap.size, 2, none⟩ = some (vi ib) ∧ w'.cell? ⟨w.heap.size, 3, none⟩ = some (vi ic)) (exact ⟨c0, c4, cb, r0, r1, r2, r11, x1, x2, x3⟩) ((first | (go_at_call 69; refine (mul_any p hp2 b _ _ (by first | exact HI.out _ | exact i64_fv _ hp2 | assumption | (constructor <;> omega)) (by first | exact HI.out _ | exact i64_fv _ hp2 | assumption | (constructor <;> omega)) _ (by exact cb)).mono ?_; rintro e w' ⟨rfl, k3, rfl⟩) | (go_at_call 98; refine (add_any p hp2 b _ _ (by first | exact HI.out _ | exact i64_fv _ hp2 | assumption | (constructor <;> omega)) (by first | exact HI.out _ | exact i64_fv _ hp2 | assumption | (constructor <;> omega)) _ (by exact cb)).mono ?_; rintro e w' ⟨rfl, k3, rfl⟩) | (go_at_call 94; refine (sub_any p hp2 b _ _ (by first | exact HI.out _ | exact i64_fv _ hp2 | assumption | (constructor <;> omega)) (by first | exact HI.out _ | exact i64_fv _ hp2 | assumption | (constructor <;> omega)) _ (by exact cb)).mono ?_; rintro e w' ⟨rfl, rfl⟩) | (go_at_call 25; refine (of_any p HP0.out hp2 b _ (by first | exact HI.out _ | exact i64_fv _ hp2 | assumption | (constructor <;> omega)) _ (by exact cb)).mono ?_; rw [← fv_el]; rintro e w' ⟨rfl, rfl⟩) | (go_at_call 149; (first | (with_reducible refine Calls.mono (HV0.out _ ?_) ?_) | (with_reducible refine Calls.mono (HV1.out _ ?_) ?_) | (with_reducible refine Calls.mono (HV2.out _ ?_) ?_)); (exact HJ.out _); rintro e w' ⟨rfl, rfl⟩) | (go_at_call 176; refine (HHP.out _).mono ?_; rintro e w' ⟨rfl, k3, rfl⟩)))
    go_wp2
    go_ret
    exact GivesE.of_fv hp2 (by simp [el_fv, el_one, doesI, rE]) (below_drewN HB0.out _)
  by_cases e2 : op = 2
  · subst e2
    go_wp2
    go_region_held3 (fun w' => w'.cell? ⟨j, 0, none⟩ = some (.pointer (some ⟨b, 0, none⟩)) ∧ w'.cell? ⟨j, 4, none⟩ = some (.slice (some ⟨g, 0, none⟩) n cA) ∧ w'.cell? ⟨b, 0, none⟩ = some (vi p) ∧ w'.cell? ⟨g, 0, none⟩ = some (vi (rw 0)) ∧ w'.cell? ⟨g, 1, none⟩ = some (vi (rw 1)) ∧ w'.cell? ⟨g, 2, none⟩ = some (vi (rw 2)) ∧ w'.cell? ⟨g, 11, none⟩ = some (vi (rw 11)) ∧ w'.cell? ⟨w.heap.size, 1, none⟩ = some (vi ia) ∧ w'.cell? ⟨w.heap.size, 2, none⟩ = some (vi ib) ∧ w'.cell? ⟨w.heap.size, 3, none⟩ = some (vi ic)) (exact ⟨c0, c4, cb, r0, r1, r2, r11, x1, x2, x3⟩) ((first | (go_at_call 69; refine (mul_any p hp2 b _ _ (by first | exact HI.out _ | exact i64_fv _ hp2 | assumption | (constructor <;> omega)) (by first | exact HI.out _ | exact i64_fv _ hp2 | assumption | (constructor <;> omega)) _ (by exact cb)).mono ?_; rintro e w' ⟨rfl, k3, rfl⟩) | (go_at_call 98; refine (add_any p hp2 b _ _ (by first | exact HI.out _ | exact i64_fv _ hp2 | assumption | (constructor <;> omega)) (by first | exact HI.out _ | exact i64_fv _ hp2 | assumption | (constructor <;> omega)) _ (by exact cb)).mono ?_; rintro e w' ⟨rfl, k3, rfl⟩) | (go_at_call 94; refine (sub_any p hp2 b _ _ (by first | exact HI.out _ | exact i64_fv _ hp2 | assumption | (constructor <;> omega)) (by first | exact HI.out _ | exact i64_fv _ hp2 | assumption | (constructor <;> omega)) _ (by exact cb)).mono ?_; rintro e w' ⟨rfl, rfl⟩) | (go_at_call 25; refine (of_any p HP0.out hp2 b _ (by first | exact HI.out _ | exact i64_fv _ hp2 | assumption | (constructor <;> omega)) _ (by exact cb)).mono ?_; rw [← fv_el]; rintro e w' ⟨rfl, rfl⟩) | (go_at_call 149; (first | (with_reducible refine Calls.mono (HV0.out _ ?_) ?_) | (with_reducible refine Calls.mono (HV1.out _ ?_) ?_) | (with_reducible refine Calls.mono (HV2.out _ ?_) ?_)); (exact HJ.out _); rintro e w' ⟨rfl, rfl⟩) | (go_at_call 176; refine (HHP.out _).mono ?_; rintro e w' ⟨rfl, k3, rfl⟩)))
    go_wp2
    go_ret
    exact GivesE.of_fv hp2 (by simp [el_fv, el_one, doesI, rE]) (below_drewN HB0.out _)
  by_cases e3 : op = 3
  · subst e3
    go_wp2
    go_region_held3 (fun w' => w'.cell? ⟨j, 0, none⟩ = some (.pointer (some ⟨b, 0, none⟩)) ∧ w'.cell? ⟨j, 4, none⟩ = some (.slice (some ⟨g, 0, none⟩) n cA) ∧ w'.cell? ⟨b, 0, none⟩ = some (vi p) ∧ w'.cell? ⟨g, 0, none⟩ = some (vi (rw 0)) ∧ w'.cell? ⟨g, 1, none⟩ = some (vi (rw 1)) ∧ w'.cell? ⟨g, 2, none⟩ = some (vi (rw 2)) ∧ w'.cell? ⟨g, 11, none⟩ = some (vi (rw 11)) ∧ w'.cell? ⟨w.heap.size, 1, none⟩ = some (vi ia) ∧ w'.cell? ⟨w.heap.size, 2, none⟩ = some (vi ib) ∧ w'.cell? ⟨w.heap.size, 3, none⟩ = some (vi ic)) (exact ⟨c0, c4, cb, r0, r1, r2, r11, x1, x2, x3⟩) ((first | (go_at_call 69; refine (mul_any p hp2 b _ _ (by first | exact HI.out _ | exact i64_fv _ hp2 | assumption | (constructor <;> omega)) (by first | exact HI.out _ | exact i64_fv _ hp2 | assumption | (constructor <;> omega)) _ (by exact cb)).mono ?_; rintro e w' ⟨rfl, k3, rfl⟩) | (go_at_call 98; refine (add_any p hp2 b _ _ (by first | exact HI.out _ | exact i64_fv _ hp2 | assumption | (constructor <;> omega)) (by first | exact HI.out _ | exact i64_fv _ hp2 | assumption | (constructor <;> omega)) _ (by exact cb)).mono ?_; rintro e w' ⟨rfl, k3, rfl⟩) | (go_at_call 94; refine (sub_any p hp2 b _ _ (by first | exact HI.out _ | exact i64_fv _ hp2 | assumption | (constructor <;> omega)) (by first | exact HI.out _ | exact i64_fv _ hp2 | assumption | (constructor <;> omega)) _ (by exact cb)).mono ?_; rintro e w' ⟨rfl, rfl⟩) | (go_at_call 25; refine (of_any p HP0.out hp2 b _ (by first | exact HI.out _ | exact i64_fv _ hp2 | assumption | (constructor <;> omega)) _ (by exact cb)).mono ?_; rw [← fv_el]; rintro e w' ⟨rfl, rfl⟩) | (go_at_call 149; (first | (with_reducible refine Calls.mono (HV0.out _ ?_) ?_) | (with_reducible refine Calls.mono (HV1.out _ ?_) ?_) | (with_reducible refine Calls.mono (HV2.out _ ?_) ?_)); (exact HJ.out _); rintro e w' ⟨rfl, rfl⟩) | (go_at_call 176; refine (HHP.out _).mono ?_; rintro e w' ⟨rfl, k3, rfl⟩)))
    go_wp2
    go_ret
    exact GivesE.of_fv hp2 (by simp [el_fv, el_one, doesI, rE]) (below_drewN HB0.out _)
  by_cases e4 : op = 4
  · subst e4
    go_wp2
    go_region_held3 (fun w' => w'.cell? ⟨j, 0, none⟩ = some (.pointer (some ⟨b, 0, none⟩)) ∧ w'.cell? ⟨j, 4, none⟩ = some (.slice (some ⟨g, 0, none⟩) n cA) ∧ w'.cell? ⟨b, 0, none⟩ = some (vi p) ∧ w'.cell? ⟨g, 0, none⟩ = some (vi (rw 0)) ∧ w'.cell? ⟨g, 1, none⟩ = some (vi (rw 1)) ∧ w'.cell? ⟨g, 2, none⟩ = some (vi (rw 2)) ∧ w'.cell? ⟨g, 11, none⟩ = some (vi (rw 11)) ∧ w'.cell? ⟨w.heap.size, 1, none⟩ = some (vi ia) ∧ w'.cell? ⟨w.heap.size, 2, none⟩ = some (vi ib) ∧ w'.cell? ⟨w.heap.size, 3, none⟩ = some (vi ic)) (exact ⟨c0, c4, cb, r0, r1, r2, r11, x1, x2, x3⟩) ((first | (go_at_call 69; refine (mul_any p hp2 b _ _ (by first | exact HI.out _ | exact i64_fv _ hp2 | assumption | (constructor <;> omega)) (by first | exact HI.out _ | exact i64_fv _ hp2 | assumption | (constructor <;> omega)) _ (by exact cb)).mono ?_; rintro e w' ⟨rfl, k3, rfl⟩) | (go_at_call 98; refine (add_any p hp2 b _ _ (by first | exact HI.out _ | exact i64_fv _ hp2 | assumption | (constructor <;> omega)) (by first | exact HI.out _ | exact i64_fv _ hp2 | assumption | (constructor <;> omega)) _ (by exact cb)).mono ?_; rintro e w' ⟨rfl, k3, rfl⟩) | (go_at_call 94; refine (sub_any p hp2 b _ _ (by first | exact HI.out _ | exact i64_fv _ hp2 | assumption | (constructor <;> omega)) (by first | exact HI.out _ | exact i64_fv _ hp2 | assumption | (constructor <;> omega)) _ (by exact cb)).mono ?_; rintro e w' ⟨rfl, rfl⟩) | (go_at_call 25; refine (of_any p HP0.out hp2 b _ (by first | exact HI.out _ | exact i64_fv _ hp2 | assumption | (constructor <;> omega)) _ (by exact cb)).mono ?_; rw [← fv_el]; rintro e w' ⟨rfl, rfl⟩) | (go_at_call 149; (first | (with_reducible refine Calls.mono (HV0.out _ ?_) ?_) | (with_reducible refine Calls.mono (HV1.out _ ?_) ?_) | (with_reducible refine Calls.mono (HV2.out _ ?_) ?_)); (exact HJ.out _); rintro e w' ⟨rfl, rfl⟩) | (go_at_call 176; refine (HHP.out _).mono ?_; rintro e w' ⟨rfl, k3, rfl⟩)))
    go_wp2
    go_ret
    exact GivesE.of_fv hp2 (by simp [el_fv, el_one, doesI, rE]) (below_drewN HB0.out _)
  by_cases e5 : op = 5
  · subst e5
    go_wp2
    go_region_held3 (fun w' => w'.cell? ⟨j, 0, none⟩ = some (.pointer (some ⟨b, 0, none⟩)) ∧ w'.cell? ⟨j, 4, none⟩ = some (.slice (some ⟨g, 0, none⟩) n cA) ∧ w'.cell? ⟨b, 0, none⟩ = some (vi p) ∧ w'.cell? ⟨g, 0, none⟩ = some (vi (rw 0)) ∧ w'.cell? ⟨g, 1, none⟩ = some (vi (rw 1)) ∧ w'.cell? ⟨g, 2, none⟩ = some (vi (rw 2)) ∧ w'.cell? ⟨g, 11, none⟩ = some (vi (rw 11)) ∧ w'.cell? ⟨w.heap.size, 1, none⟩ = some (vi ia) ∧ w'.cell? ⟨w.heap.size, 2, none⟩ = some (vi ib) ∧ w'.cell? ⟨w.heap.size, 3, none⟩ = some (vi ic)) (exact ⟨c0, c4, cb, r0, r1, r2, r11, x1, x2, x3⟩) ((first | (go_at_call 69; refine (mul_any p hp2 b _ _ (by first | exact HI.out _ | exact i64_fv _ hp2 | assumption | (constructor <;> omega)) (by first | exact HI.out _ | exact i64_fv _ hp2 | assumption | (constructor <;> omega)) _ (by exact cb)).mono ?_; rintro e w' ⟨rfl, k3, rfl⟩) | (go_at_call 98; refine (add_any p hp2 b _ _ (by first | exact HI.out _ | exact i64_fv _ hp2 | assumption | (constructor <;> omega)) (by first | exact HI.out _ | exact i64_fv _ hp2 | assumption | (constructor <;> omega)) _ (by exact cb)).mono ?_; rintro e w' ⟨rfl, k3, rfl⟩) | (go_at_call 94; refine (sub_any p hp2 b _ _ (by first | exact HI.out _ | exact i64_fv _ hp2 | assumption | (constructor <;> omega)) (by first | exact HI.out _ | exact i64_fv _ hp2 | assumption | (constructor <;> omega)) _ (by exact cb)).mono ?_; rintro e w' ⟨rfl, rfl⟩) | (go_at_call 25; refine (of_any p HP0.out hp2 b _ (by first | exact HI.out _ | exact i64_fv _ hp2 | assumption | (constructor <;> omega)) _ (by exact cb)).mono ?_; rw [← fv_el]; rintro e w' ⟨rfl, rfl⟩) | (go_at_call 149; (first | (with_reducible refine Calls.mono (HV0.out _ ?_) ?_) | (with_reducible refine Calls.mono (HV1.out _ ?_) ?_) | (with_reducible refine Calls.mono (HV2.out _ ?_) ?_)); (exact HJ.out _); rintro e w' ⟨rfl, rfl⟩) | (go_at_call 176; refine (HHP.out _).mono ?_; rintro e w' ⟨rfl, k3, rfl⟩)))
    go_wp2
    go_ret
    exact GivesE.of_fv hp2 (by simp [el_fv, el_one, doesI, rE]) (below_drewN HB0.out _)
  by_cases e6 : op = 6
  · subst e6
    go_wp2
    go_region_held3 (fun w' => w'.cell? ⟨j, 0, none⟩ = some (.pointer (some ⟨b, 0, none⟩)) ∧ w'.cell? ⟨j, 4, none⟩ = some (.slice (some ⟨g, 0, none⟩) n cA) ∧ w'.cell? ⟨b, 0, none⟩ = some (vi p) ∧ w'.cell? ⟨g, 0, none⟩ = some (vi (rw 0)) ∧ w'.cell? ⟨g, 1, none⟩ = some (vi (rw 1)) ∧ w'.cell? ⟨g, 2, none⟩ = some (vi (rw 2)) ∧ w'.cell? ⟨g, 11, none⟩ = some (vi (rw 11)) ∧ w'.cell? ⟨w.heap.size, 1, none⟩ = some (vi ia) ∧ w'.cell? ⟨w.heap.size, 2, none⟩ = some (vi ib) ∧ w'.cell? ⟨w.heap.size, 3, none⟩ = some (vi ic)) (exact ⟨c0, c4, cb, r0, r1, r2, r11, x1, x2, x3⟩) ((first | (go_at_call 69; refine (mul_any p hp2 b _ _ (by first | exact HI.out _ | exact i64_fv _ hp2 | assumption | (constructor <;> omega)) (by first | exact HI.out _ | exact i64_fv _ hp2 | assumption | (constructor <;> omega)) _ (by exact cb)).mono ?_; rintro e w' ⟨rfl, k3, rfl⟩) | (go_at_call 98; refine (add_any p hp2 b _ _ (by first | exact HI.out _ | exact i64_fv _ hp2 | assumption | (constructor <;> omega)) (by first | exact HI.out _ | exact i64_fv _ hp2 | assumption | (constructor <;> omega)) _ (by exact cb)).mono ?_; rintro e w' ⟨rfl, k3, rfl⟩) | (go_at_call 94; refine (sub_any p hp2 b _ _ (by first | exact HI.out _ | exact i64_fv _ hp2 | assumption | (constructor <;> omega)) (by first | exact HI.out _ | exact i64_fv _ hp2 | assumption | (constructor <;> omega)) _ (by exact cb)).mono ?_; rintro e w' ⟨rfl, rfl⟩) | (go_at_call 25; refine (of_any p HP0.out hp2 b _ (by first | exact HI.out _ | exact i64_fv _ hp2 | assumption | (constructor <;> omega)) _ (by exact cb)).mono ?_; rw [← fv_el]; rintro e w' ⟨rfl, rfl⟩) | (go_at_call 149; (first | (with_reducible refine Calls.mono (HV0.out _ ?_) ?_) | (with_reducible refine Calls.mono (HV1.out _ ?_) ?_) | (with_reducible refine Calls.mono (HV2.out _ ?_) ?_)); (exact HJ.out _); rintro e w' ⟨rfl, rfl⟩) | (go_at_call 176; refine (HHP.out _).mono ?_; rintro e w' ⟨rfl, k3, rfl⟩)))
    go_wp2
    go_ret
    exact GivesE.of_fv hp2 (by simp [el_fv, el_one, doesI, rE]) (below_drewN HB0.out _)
  by_cases e7 : op = 7
  · subst e7
    go_wp2_with fail
    refine (sub_any p hp2 b _ _ (HI.out _) (HI.out _) _ (by exact cb)).mono ?_
    rintro _ _ ⟨rfl, rfl⟩
    go_wp2
    go_ret
    exact GivesE.of_fv hp2 (by simp [el_fv, el_one, doesI, rE]) (below_drewN HB0.out _)
  by_cases e13 : op = 13
  · subst e13
    go_wp2_with fail
    refine (sub_any p hp2 b _ _ (HI.out _) (HI.out _) _ (by exact cb)).mono ?_
    rintro _ _ ⟨rfl, rfl⟩
    go_wp2
    go_ret
    exact GivesE.of_fv hp2 (by simp [el_fv, el_one, doesI, rE]) (below_drewN HB0.out _)
  by_cases e9 : op = 9
  · subst e9
    go_wp2
    go_region_held3 (fun w' => w'.cell? ⟨j, 0, none⟩ = some (.pointer (some ⟨b, 0, none⟩)) ∧ w'.cell? ⟨j, 4, none⟩ = some (.slice (some ⟨g, 0, none⟩) n cA) ∧ w'.cell? ⟨b, 0, none⟩ = some (vi p) ∧ w'.cell? ⟨g, 0, none⟩ = some (vi (rw 0)) ∧ w'.cell? ⟨g, 1, none⟩ = some (vi (rw 1)) ∧ w'.cell? ⟨g, 2, none⟩ = some (vi (rw 2)) ∧ w'.cell? ⟨g, 11, none⟩ = some (vi (rw 11)) ∧ w'.cell? ⟨w.heap.size, 1, none⟩ = some (vi ia) ∧ w'.cell? ⟨w.heap.size, 2, none⟩ = some (vi ib) ∧ w'.cell? ⟨w.heap.size, 3, none⟩ = some (vi ic)) (exact ⟨c0, c4, cb, r0, r1, r2, r11, x1, x2, x3⟩) ((first | (go_at_call 69; refine (mul_any p hp2 b _ _ (by first | exact HI.out _ | exact i64_fv _ hp2 | assumption | (constructor <;> omega)) (by first | exact HI.out _ | exact i64_fv _ hp2 | assumption | (constructor <;> omega)) _ (by exact cb)).mono ?_; rintro e w' ⟨rfl, k3, rfl⟩) | (go_at_call 98; refine (add_any p hp2 b _ _ (by first | exact HI.out _ | exact i64_fv _ hp2 | assumption | (constructor <;> omega)) (by first | exact HI.out _ | exact i64_fv _ hp2 | assumption | (constructor <;> omega)) _ (by exact cb)).mono ?_; rintro e w' ⟨rfl, k3, rfl⟩) | (go_at_call 94; refine (sub_any p hp2 b _ _ (by first | exact HI.out _ | exact i64_fv _ hp2 | assumption | (constructor <;> omega)) (by first | exact HI.out _ | exact i64_fv _ hp2 | assumption | (constructor <;> omega)) _ (by exact cb)).mono ?_; rintro e w' ⟨rfl, rfl⟩) | (go_at_call 25; refine (of_any p HP0.out hp2 b _ (by first | exact HI.out _ | exact i64_fv _ hp2 | assumption | (constructor <;> omega)) _ (by exact cb)).mono ?_; rw [← fv_el]; rintro e w' ⟨rfl, rfl⟩) | (go_at_call 149; (first | (with_reducible refine Calls.mono (HV0.out _ ?_) ?_) | (with_reducible refine Calls.mono (HV1.out _ ?_) ?_) | (with_reducible refine Calls.mono (HV2.out _ ?_) ?_)); (exact HJ.out _); rintro e w' ⟨rfl, rfl⟩) | (go_at_call 176; refine (HHP.out _).mono ?_; rintro e w' ⟨rfl, k3, rfl⟩)))
    go_wp2
    go_ret
    exact GivesE.of_fv hp2 (by simp [el_fv, el_one, doesI, rE]) (below_drewN HB0.out _)
  by_cases e10 : op = 10
  · subst e10
    go_wp2
    go_region_held3 (fun w' => w'.cell? ⟨j, 0, none⟩ = some (.pointer (some ⟨b, 0, none⟩)) ∧ w'.cell? ⟨j, 4, none⟩ = some (.slice (some ⟨g, 0, none⟩) n cA) ∧ w'.cell? ⟨b, 0, none⟩ = some (vi p) ∧ w'.cell? ⟨g, 0, none⟩ = some (vi (rw 0)) ∧ w'.cell? ⟨g, 1, none⟩ = some (vi (rw 1)) ∧ w'.cell? ⟨g, 2, none⟩ = some (vi (rw 2)) ∧ w'.cell? ⟨g, 11, none⟩ = some (vi (rw 11)) ∧ w'.cell? ⟨w.heap.size, 1, none⟩ = some (vi ia) ∧ w'.cell? ⟨w.heap.size, 2, none⟩ = some (vi ib) ∧ w'.cell? ⟨w.heap.size, 3, none⟩ = some (vi ic)) (exact ⟨c0, c4, cb, r0, r1, r2, r11, x1, x2, x3⟩) ((first | (go_at_call 69; refine (mul_any p hp2 b _ _ (by first | exact HI.out _ | exact i64_fv _ hp2 | assumption | (constructor <;> omega)) (by first | exact HI.out _ | exact i64_fv _ hp2 | assumption | (constructor <;> omega)) _ (by exact cb)).mono ?_; rintro e w' ⟨rfl, k3, rfl⟩) | (go_at_call 98; refine (add_any p hp2 b _ _ (by first | exact HI.out _ | exact i64_fv _ hp2 | assumption | (constructor <;> omega)) (by first | exact HI.out _ | exact i64_fv _ hp2 | assumption | (constructor <;> omega)) _ (by exact cb)).mono ?_; rintro e w' ⟨rfl, k3, rfl⟩) | (go_at_call 94; refine (sub_any p hp2 b _ _ (by first | exact HI.out _ | exact i64_fv _ hp2 | assumption | (constructor <;> omega)) (by first | exact HI.out _ | exact i64_fv _ hp2 | assumption | (constructor <;> omega)) _ (by exact cb)).mono ?_; rintro e w' ⟨rfl, rfl⟩) | (go_at_call 25; refine (of_any p HP0.out hp2 b _ (by first | exact HI.out _ | exact i64_fv _ hp2 | assumption | (constructor <;> omega)) _ (by exact cb)).mono ?_; rw [← fv_el]; rintro e w' ⟨rfl, rfl⟩) | (go_at_call 149; (first | (with_reducible refine Calls.mono (HV0.out _ ?_) ?_) | (with_reducible refine Calls.mono (HV1.out _ ?_) ?_) | (with_reducible refine Calls.mono (HV2.out _ ?_) ?_)); (exact HJ.out _); rintro e w' ⟨rfl, rfl⟩) | (go_at_call 176; refine (HHP.out _).mono ?_; rintro e w' ⟨rfl, k3, rfl⟩)))
    go_wp2
    go_ret
    exact GivesE.of_fv hp2 (by simp [el_fv, el_one, doesI, rE]) (below_drewN HB0.out _)
  by_cases e12 : op = 12
  · subst e12
    go_wp2
    go_region_held3 (fun w' => w'.cell? ⟨j, 0, none⟩ = some (.pointer (some ⟨b, 0, none⟩)) ∧ w'.cell? ⟨j, 4, none⟩ = some (.slice (some ⟨g, 0, none⟩) n cA) ∧ w'.cell? ⟨b, 0, none⟩ = some (vi p) ∧ w'.cell? ⟨g, 0, none⟩ = some (vi (rw 0)) ∧ w'.cell? ⟨g, 1, none⟩ = some (vi (rw 1)) ∧ w'.cell? ⟨g, 2, none⟩ = some (vi (rw 2)) ∧ w'.cell? ⟨g, 11, none⟩ = some (vi (rw 11)) ∧ w'.cell? ⟨w.heap.size, 1, none⟩ = some (vi ia) ∧ w'.cell? ⟨w.heap.size, 2, none⟩ = some (vi ib) ∧ w'.cell? ⟨w.heap.size, 3, none⟩ = some (vi ic)) (exact ⟨c0, c4, cb, r0, r1, r2, r11, x1, x2, x3⟩) ((first | (go_at_call 69; refine (mul_any p hp2 b _ _ (by first | exact HI.out _ | exact i64_fv _ hp2 | assumption | (constructor <;> omega)) (by first | exact HI.out _ | exact i64_fv _ hp2 | assumption | (constructor <;> omega)) _ (by exact cb)).mono ?_; rintro e w' ⟨rfl, k3, rfl⟩) | (go_at_call 98; refine (add_any p hp2 b _ _ (by first | exact HI.out _ | exact i64_fv _ hp2 | assumption | (constructor <;> omega)) (by first | exact HI.out _ | exact i64_fv _ hp2 | assumption | (constructor <;> omega)) _ (by exact cb)).mono ?_; rintro e w' ⟨rfl, k3, rfl⟩) | (go_at_call 94; refine (sub_any p hp2 b _ _ (by first | exact HI.out _ | exact i64_fv _ hp2 | assumption | (constructor <;> omega)) (by first | exact HI.out _ | exact i64_fv _ hp2 | assumption | (constructor <;> omega)) _ (by exact cb)).mono ?_; rintro e w' ⟨rfl, rfl⟩) | (go_at_call 25; refine (of_any p HP0.out hp2 b _ (by first | exact HI.out _ | exact i64_fv _ hp2 | assumption | (constructor <;> omega)) _ (by exact cb)).mono ?_; rw [← fv_el]; rintro e w' ⟨rfl, rfl⟩) | (go_at_call 149; (first | (with_reducible refine Calls.mono (HV0.out _ ?_) ?_) | (with_reducible refine Calls.mono (HV1.out _ ?_) ?_) | (with_reducible refine Calls.mono (HV2.out _ ?_) ?_)); (exact HJ.out _); rintro e w' ⟨rfl, rfl⟩) | (go_at_call 176; refine (HHP.out _).mono ?_; rintro e w' ⟨rfl, k3, rfl⟩)))
    go_wp2
    go_ret
    exact GivesE.of_fv hp2 (by simp [el_fv, el_one, doesI, rE]) (below_drewN HB0.out _)
  by_cases e0 : op = 0
  · subst e0
    go_wp2
    go_ret
    exact ⟨0, by constructor <;> omega, rfl, by simp [doesI, el_zero], below_drewN HB0.out 0⟩
  by_cases e8 : op = 8
  · subst e8
    go_wp2
    go_ret
    exact ⟨0, by constructor <;> omega, rfl, by simp [doesI, el_zero], below_drewN HB0.out 0⟩
  by_cases e11 : op = 11
  · subst e11
    go_wp2
    go_ret
    exact ⟨0, by constructor <;> omega, rfl, by simp [doesI, el_zero], below_drewN HB0.out 0⟩
  have f0 : (op == 0) = false := by simp [e0]
  have f1 : (op == 1) = false := by simp [e1]
  have f2 : (op == 2) = false := by simp [e2]
  have f3 : (op == 3) = false := by simp [e3]
  have f4 : (op == 4) = false := by simp [e4]
  have f5 : (op == 5) = false := by simp [e5]
  have f6 : (op == 6) = false := by simp [e6]
  have f7 : (op == 7) = false := by simp [e7]
  have f8 : (op == 8) = false := by simp [e8]
  have f9 : (op == 9) = false := by simp [e9]
  have f10 : (op == 10) = false := by simp [e10]
  have f11 : (op == 11) = false := by simp [e11]
  have f12 : (op == 12) = false := by simp [e12]
  have f13 : (op == 13) = false := by simp [e13]
  have HD := Lib.hid (show doesI (rE p rw) k ⟨op, ia, ib, ic⟩ = 1 by simp [doesI, e0, e1, e2, e3, e4, e5, e6, e7, e8, e9, e10, e11, e12, e13])
  clear e0 e1 e2 e3 e4 e5 e6 e7 e8 e9 e10 e11 e12 e13
  go_wp2
  go_ret
  exact ⟨1, by constructor <;> omega, rfl, by rw [HD.out, el_one], below_drewN HB0.out 0⟩
end Go.Proofs.YtpkhcncempoohaaGreatDoor

namespace Go.Proofs.YtpkhcncempoohaaGreatDoor
open Go.RowKit Zp
set_option maxRecDepth 100000 in
set_option maxHeartbeats 2000000 in
theorem jmore_any (j b p : Nat) [NeZero p] (g n cA : Nat) (rw : Nat → Int) (k : Nat) (hk : k ≤ 65536) (op ia ib ic : Int) (ho : I64 op) (hia : I64 ia) (hib : I64 ib) (hic : I64 ic) (w : World) (h : JR w j b p g n cA rw) :
    Calls Tryz.prog 142 #[.pointer (some ⟨j, 0, none⟩), vi k, .agg #[vi op, vi ia, vi ib, vi ic]] w (GivesE (moreI (rE p rw) k ⟨op, ia, ib, ic⟩) w) := by
  have hl := h.len
  have hp2 := h.max
  have HP0 := Lib.hid (Nat.pos_of_ne_zero (NeZero.ne p))
  have hI := h.i64
  have hb0 : Below w.heap.size w (w.alloc (.cells #[vi op, vi ia, vi ib, vi ic] 121)) := (Below.refl _ _).alloc (Nat.le_refl _) _
  have hB0 := Blk.new w 121 #[vi op, vi ia, vi ib, vi ic]
  obtain ⟨W0, hW0⟩ : ∃ W0, W0 = w.alloc (.cells #[vi op, vi ia, vi ib, vi ic] 121) := ⟨_, rfl⟩
  rw [← hW0] at hb0 hB0
  have x0 := (hB0.cell 0).trans (show _ = some (vi op) from rfl)
  have x1 := (hB0.cell 1).trans (show _ = some (vi ia) from rfl)
  have x2 := (hB0.cell 2).trans (show _ = some (vi ib) from rfl)
  have x3 := (hB0.cell 3).trans (show _ = some (vi ic) from rfl)
  have h1 := h.below hb0
  have HJ := Lib.hid (fun k => h1.below (below_drewN (Below.refl _ _) k))
  have c0 := h1.cb
  have c4 := h1.cr
  have cb := h1.cp
  have r0 := h1.at_ 0 (by omega)
  have r1 := h1.at_ 1 (by omega)
  have r2 := h1.at_ 2 (by omega)
  have r11 := h1.at_ 11 (by omega)
  have n0 : 0 < n := by omega
  have n00 : (0 : Int) < (n : Int) := by omega
  have n1 : (1 : Int) < (n : Int) := by omega
  have n2 : (2 : Int) < (n : Int) := by omega
  have n11 : (11 : Int) < (n : Int) := by omega
  have hV0 : ∀ W, JR W j b p g n cA rw → Calls Tryz.prog 149 #[.pointer (some ⟨j, 0, none⟩), vi 0] W (fun e w' => e = .returned (vi (rw 7)) ∧ W = w') := fun W hW => (jv_any j b p g n cA rw 0 (by omega) W hW).mono fun e w' h => ⟨h.1, h.2.symm⟩
  have hV1 : ∀ W, JR W j b p g n cA rw → Calls Tryz.prog 149 #[.pointer (some ⟨j, 0, none⟩), vi 1] W (fun e w' => e = .returned (vi (rw 8)) ∧ W = w') := fun W hW => (jv_any j b p g n cA rw 1 (by omega) W hW).mono fun e w' h => ⟨h.1, h.2.symm⟩
  have hV2 : ∀ W, JR W j b p g n cA rw → Calls Tryz.prog 149 #[.pointer (some ⟨j, 0, none⟩), vi 2] W (fun e w' => e = .returned (vi (rw 9)) ∧ W = w') := fun W hW => (jv_any j b p g n cA rw 2 (by omega) W hW).mono fun e w' h => ⟨h.1, h.2.symm⟩
  have HV0 := Lib.hid hV0
  have HV1 := Lib.hid hV1
  have HV2 := Lib.hid hV2
  have HHP := Lib.hid (fun k => jhelps_any j b p g n cA rw (W0.drewN k) (HJ.out k))
  have HI := Lib.hid hI
  have HB0 := Lib.hid hb0
  have HW0 := Lib.hid hW0
  clear hW0 hb0 hB0 h h1 hV0 hV1 hV2 hI
  have k1 : IntKind.i64.wrap ((k : Int) + 1) = (k : Int) + 1 := IntWalk.i64_in _ (by constructor <;> omega)
  have hk1 : I64 ((k : Int) + 1) := by constructor <;> omega
  have hk0 : I64 (k : Int) := by constructor <;> omega
  go_enter Tryz.func142, Tryz.ntmps142
  go_upto_region 1 with (fail)
  rw [← HW0.out]
  by_cases e4 : op = 4
  · subst e4
    go_wp2
    go_region_held3 (fun w' => w'.cell? ⟨j, 0, none⟩ = some (.pointer (some ⟨b, 0, none⟩)) ∧ w'.cell? ⟨j, 4, none⟩ = some (.slice (some ⟨g, 0, none⟩) n cA) ∧ w'.cell? ⟨b, 0, none⟩ = some (vi p) ∧ w'.cell? ⟨g, 0, none⟩ = some (vi (rw 0)) ∧ w'.cell? ⟨g, 1, none⟩ = some (vi (rw 1)) ∧ w'.cell? ⟨g, 2, none⟩ = some (vi (rw 2)) ∧ w'.cell? ⟨g, 11, none⟩ = some (vi (rw 11)) ∧ w'.cell? ⟨w.heap.size, 1, none⟩ = some (vi ia) ∧ w'.cell? ⟨w.heap.size, 2, none⟩ = some (vi ib) ∧ w'.cell? ⟨w.heap.size, 3, none⟩ = some (vi ic)) (exact ⟨c0, c4, cb, r0, r1, r2, r11, x1, x2, x3⟩) ((first | (go_at_call 69; refine (mul_any p hp2 b _ _ (by first | exact HI.out _ | exact i64_fv _ hp2 | assumption | (constructor <;> omega)) (by first | exact HI.out _ | exact i64_fv _ hp2 | assumption | (constructor <;> omega)) _ (by exact cb)).mono ?_; rintro e w' ⟨rfl, k3, rfl⟩) | (go_at_call 98; refine (add_any p hp2 b _ _ (by first | exact HI.out _ | exact i64_fv _ hp2 | assumption | (constructor <;> omega)) (by first | exact HI.out _ | exact i64_fv _ hp2 | assumption | (constructor <;> omega)) _ (by exact cb)).mono ?_; rintro e w' ⟨rfl, k3, rfl⟩) | (go_at_call 94; refine (sub_any p hp2 b _ _ (by first | exact HI.out _ | exact i64_fv _ hp2 | assumption | (constructor <;> omega)) (by first | exact HI.out _ | exact i64_fv _ hp2 | assumption | (constructor <;> omega)) _ (by exact cb)).mono ?_; rintro e w' ⟨rfl, rfl⟩) | (go_at_call 25; refine (of_any p HP0.out hp2 b _ (by first | exact HI.out _ | exact i64_fv _ hp2 | assumption | (constructor <;> omega)) _ (by exact cb)).mono ?_; rw [← fv_el]; rintro e w' ⟨rfl, rfl⟩) | (go_at_call 149; (first | (with_reducible refine Calls.mono (HV0.out _ ?_) ?_) | (with_reducible refine Calls.mono (HV1.out _ ?_) ?_) | (with_reducible refine Calls.mono (HV2.out _ ?_) ?_)); (exact HJ.out _); rintro e w' ⟨rfl, rfl⟩) | (go_at_call 176; refine (HHP.out _).mono ?_; rintro e w' ⟨rfl, k3, rfl⟩)))
    go_wp2
    go_ret
    exact GivesE.of_fv hp2 (by simp [el_fv, el_one, moreI, rE]) (below_drewN HB0.out _)
  by_cases e6 : op = 6
  · subst e6
    go_wp2
    go_region_held3 (fun w' => w'.cell? ⟨j, 0, none⟩ = some (.pointer (some ⟨b, 0, none⟩)) ∧ w'.cell? ⟨j, 4, none⟩ = some (.slice (some ⟨g, 0, none⟩) n cA) ∧ w'.cell? ⟨b, 0, none⟩ = some (vi p) ∧ w'.cell? ⟨g, 0, none⟩ = some (vi (rw 0)) ∧ w'.cell? ⟨g, 1, none⟩ = some (vi (rw 1)) ∧ w'.cell? ⟨g, 2, none⟩ = some (vi (rw 2)) ∧ w'.cell? ⟨g, 11, none⟩ = some (vi (rw 11)) ∧ w'.cell? ⟨w.heap.size, 1, none⟩ = some (vi ia) ∧ w'.cell? ⟨w.heap.size, 2, none⟩ = some (vi ib) ∧ w'.cell? ⟨w.heap.size, 3, none⟩ = some (vi ic)) (exact ⟨c0, c4, cb, r0, r1, r2, r11, x1, x2, x3⟩) ((first | (go_at_call 69; refine (mul_any p hp2 b _ _ (by first | exact HI.out _ | exact i64_fv _ hp2 | assumption | (constructor <;> omega)) (by first | exact HI.out _ | exact i64_fv _ hp2 | assumption | (constructor <;> omega)) _ (by exact cb)).mono ?_; rintro e w' ⟨rfl, k3, rfl⟩) | (go_at_call 98; refine (add_any p hp2 b _ _ (by first | exact HI.out _ | exact i64_fv _ hp2 | assumption | (constructor <;> omega)) (by first | exact HI.out _ | exact i64_fv _ hp2 | assumption | (constructor <;> omega)) _ (by exact cb)).mono ?_; rintro e w' ⟨rfl, k3, rfl⟩) | (go_at_call 94; refine (sub_any p hp2 b _ _ (by first | exact HI.out _ | exact i64_fv _ hp2 | assumption | (constructor <;> omega)) (by first | exact HI.out _ | exact i64_fv _ hp2 | assumption | (constructor <;> omega)) _ (by exact cb)).mono ?_; rintro e w' ⟨rfl, rfl⟩) | (go_at_call 25; refine (of_any p HP0.out hp2 b _ (by first | exact HI.out _ | exact i64_fv _ hp2 | assumption | (constructor <;> omega)) _ (by exact cb)).mono ?_; rw [← fv_el]; rintro e w' ⟨rfl, rfl⟩) | (go_at_call 149; (first | (with_reducible refine Calls.mono (HV0.out _ ?_) ?_) | (with_reducible refine Calls.mono (HV1.out _ ?_) ?_) | (with_reducible refine Calls.mono (HV2.out _ ?_) ?_)); (exact HJ.out _); rintro e w' ⟨rfl, rfl⟩) | (go_at_call 176; refine (HHP.out _).mono ?_; rintro e w' ⟨rfl, k3, rfl⟩)))
    go_wp2
    go_ret
    exact GivesE.of_fv hp2 (by simp [el_fv, el_one, moreI, rE]) (below_drewN HB0.out _)
  by_cases e10 : op = 10
  · subst e10
    go_wp2
    go_region_held3 (fun w' => w'.cell? ⟨j, 0, none⟩ = some (.pointer (some ⟨b, 0, none⟩)) ∧ w'.cell? ⟨j, 4, none⟩ = some (.slice (some ⟨g, 0, none⟩) n cA) ∧ w'.cell? ⟨b, 0, none⟩ = some (vi p) ∧ w'.cell? ⟨g, 0, none⟩ = some (vi (rw 0)) ∧ w'.cell? ⟨g, 1, none⟩ = some (vi (rw 1)) ∧ w'.cell? ⟨g, 2, none⟩ = some (vi (rw 2)) ∧ w'.cell? ⟨g, 11, none⟩ = some (vi (rw 11)) ∧ w'.cell? ⟨w.heap.size, 1, none⟩ = some (vi ia) ∧ w'.cell? ⟨w.heap.size, 2, none⟩ = some (vi ib) ∧ w'.cell? ⟨w.heap.size, 3, none⟩ = some (vi ic)) (exact ⟨c0, c4, cb, r0, r1, r2, r11, x1, x2, x3⟩) ((first | (go_at_call 69; refine (mul_any p hp2 b _ _ (by first | exact HI.out _ | exact i64_fv _ hp2 | assumption | (constructor <;> omega)) (by first | exact HI.out _ | exact i64_fv _ hp2 | assumption | (constructor <;> omega)) _ (by exact cb)).mono ?_; rintro e w' ⟨rfl, k3, rfl⟩) | (go_at_call 98; refine (add_any p hp2 b _ _ (by first | exact HI.out _ | exact i64_fv _ hp2 | assumption | (constructor <;> omega)) (by first | exact HI.out _ | exact i64_fv _ hp2 | assumption | (constructor <;> omega)) _ (by exact cb)).mono ?_; rintro e w' ⟨rfl, k3, rfl⟩) | (go_at_call 94; refine (sub_any p hp2 b _ _ (by first | exact HI.out _ | exact i64_fv _ hp2 | assumption | (constructor <;> omega)) (by first | exact HI.out _ | exact i64_fv _ hp2 | assumption | (constructor <;> omega)) _ (by exact cb)).mono ?_; rintro e w' ⟨rfl, rfl⟩) | (go_at_call 25; refine (of_any p HP0.out hp2 b _ (by first | exact HI.out _ | exact i64_fv _ hp2 | assumption | (constructor <;> omega)) _ (by exact cb)).mono ?_; rw [← fv_el]; rintro e w' ⟨rfl, rfl⟩) | (go_at_call 149; (first | (with_reducible refine Calls.mono (HV0.out _ ?_) ?_) | (with_reducible refine Calls.mono (HV1.out _ ?_) ?_) | (with_reducible refine Calls.mono (HV2.out _ ?_) ?_)); (exact HJ.out _); rintro e w' ⟨rfl, rfl⟩) | (go_at_call 176; refine (HHP.out _).mono ?_; rintro e w' ⟨rfl, k3, rfl⟩)))
    go_wp2
    go_ret
    exact GivesE.of_fv hp2 (by simp [el_fv, el_one, moreI, rE]) (below_drewN HB0.out _)
  have f4 : (op == 4) = false := by simp [e4]
  have f6 : (op == 6) = false := by simp [e6]
  have f10 : (op == 10) = false := by simp [e10]
  have HD := Lib.hid (show moreI (rE p rw) k ⟨op, ia, ib, ic⟩ = 0 by simp [moreI, e4, e6, e10])
  clear e4 e6 e10
  go_wp2
  go_ret
  exact ⟨0, by constructor <;> omega, rfl, by rw [HD.out, el_zero], below_drewN HB0.out 0⟩
end Go.Proofs.YtpkhcncempoohaaGreatDoor

namespace Go.Proofs.YtpkhcncempoohaaGreatDoor
open Go.RowKit Zp
set_option maxRecDepth 100000 in
set_option maxHeartbeats 2000000 in
theorem jgoes_any (j b p : Nat) [NeZero p] (g n cA : Nat) (rw : Nat → Int) (k : Nat) (hk : k ≤ 65536) (op ia ib ic : Int) (ho : I64 op) (hia : I64 ia) (hib : I64 ib) (hic : I64 ic) (w : World) (h : JR w j b p g n cA rw) :
    Calls Tryz.prog 144 #[.pointer (some ⟨j, 0, none⟩), vi k, .agg #[vi op, vi ia, vi ib, vi ic]] w (GivesE (goesI (rE p rw) k ⟨op, ia, ib, ic⟩) w) := by
  have hl := h.len
  have hp2 := h.max
  have HP0 := Lib.hid (Nat.pos_of_ne_zero (NeZero.ne p))
  have hI := h.i64
  have hb0 : Below w.heap.size w (w.alloc (.cells #[vi op, vi ia, vi ib, vi ic] 121)) := (Below.refl _ _).alloc (Nat.le_refl _) _
  have hB0 := Blk.new w 121 #[vi op, vi ia, vi ib, vi ic]
  obtain ⟨W0, hW0⟩ : ∃ W0, W0 = w.alloc (.cells #[vi op, vi ia, vi ib, vi ic] 121) := ⟨_, rfl⟩
  rw [← hW0] at hb0 hB0
  have x0 := (hB0.cell 0).trans (show _ = some (vi op) from rfl)
  have x1 := (hB0.cell 1).trans (show _ = some (vi ia) from rfl)
  have x2 := (hB0.cell 2).trans (show _ = some (vi ib) from rfl)
  have x3 := (hB0.cell 3).trans (show _ = some (vi ic) from rfl)
  have h1 := h.below hb0
  have HJ := Lib.hid (fun k => h1.below (below_drewN (Below.refl _ _) k))
  have c0 := h1.cb
  have c4 := h1.cr
  have cb := h1.cp
  have r0 := h1.at_ 0 (by omega)
  have r1 := h1.at_ 1 (by omega)
  have r2 := h1.at_ 2 (by omega)
  have r11 := h1.at_ 11 (by omega)
  have n0 : 0 < n := by omega
  have n00 : (0 : Int) < (n : Int) := by omega
  have n1 : (1 : Int) < (n : Int) := by omega
  have n2 : (2 : Int) < (n : Int) := by omega
  have n11 : (11 : Int) < (n : Int) := by omega
  have hV0 : ∀ W, JR W j b p g n cA rw → Calls Tryz.prog 149 #[.pointer (some ⟨j, 0, none⟩), vi 0] W (fun e w' => e = .returned (vi (rw 7)) ∧ W = w') := fun W hW => (jv_any j b p g n cA rw 0 (by omega) W hW).mono fun e w' h => ⟨h.1, h.2.symm⟩
  have hV1 : ∀ W, JR W j b p g n cA rw → Calls Tryz.prog 149 #[.pointer (some ⟨j, 0, none⟩), vi 1] W (fun e w' => e = .returned (vi (rw 8)) ∧ W = w') := fun W hW => (jv_any j b p g n cA rw 1 (by omega) W hW).mono fun e w' h => ⟨h.1, h.2.symm⟩
  have hV2 : ∀ W, JR W j b p g n cA rw → Calls Tryz.prog 149 #[.pointer (some ⟨j, 0, none⟩), vi 2] W (fun e w' => e = .returned (vi (rw 9)) ∧ W = w') := fun W hW => (jv_any j b p g n cA rw 2 (by omega) W hW).mono fun e w' h => ⟨h.1, h.2.symm⟩
  have HV0 := Lib.hid hV0
  have HV1 := Lib.hid hV1
  have HV2 := Lib.hid hV2
  have HHP := Lib.hid (fun k => jhelps_any j b p g n cA rw (W0.drewN k) (HJ.out k))
  have HI := Lib.hid hI
  have HB0 := Lib.hid hb0
  have HW0 := Lib.hid hW0
  clear hW0 hb0 hB0 h h1 hV0 hV1 hV2 hI
  have k1 : IntKind.i64.wrap ((k : Int) + 1) = (k : Int) + 1 := IntWalk.i64_in _ (by constructor <;> omega)
  have hk1 : I64 ((k : Int) + 1) := by constructor <;> omega
  have hk0 : I64 (k : Int) := by constructor <;> omega
  go_enter Tryz.func144, Tryz.ntmps144
  go_upto_region 1 with (fail)
  rw [← HW0.out]
  by_cases e0 : op = 0
  · subst e0
    go_wp2
    go_ret
    exact ⟨k, hk0, rfl, by simp [goesI], below_drewN HB0.out 0⟩
  by_cases e8 : op = 8
  · subst e8
    go_wp2
    go_region_held3 (fun w' => w'.cell? ⟨j, 0, none⟩ = some (.pointer (some ⟨b, 0, none⟩)) ∧ w'.cell? ⟨j, 4, none⟩ = some (.slice (some ⟨g, 0, none⟩) n cA) ∧ w'.cell? ⟨b, 0, none⟩ = some (vi p) ∧ w'.cell? ⟨g, 0, none⟩ = some (vi (rw 0)) ∧ w'.cell? ⟨g, 1, none⟩ = some (vi (rw 1)) ∧ w'.cell? ⟨g, 2, none⟩ = some (vi (rw 2)) ∧ w'.cell? ⟨g, 11, none⟩ = some (vi (rw 11)) ∧ w'.cell? ⟨w.heap.size, 1, none⟩ = some (vi ia) ∧ w'.cell? ⟨w.heap.size, 2, none⟩ = some (vi ib) ∧ w'.cell? ⟨w.heap.size, 3, none⟩ = some (vi ic)) (exact ⟨c0, c4, cb, r0, r1, r2, r11, x1, x2, x3⟩) ((first | (go_at_call 69; refine (mul_any p hp2 b _ _ (by first | exact HI.out _ | exact i64_fv _ hp2 | assumption | (constructor <;> omega)) (by first | exact HI.out _ | exact i64_fv _ hp2 | assumption | (constructor <;> omega)) _ (by exact cb)).mono ?_; rintro e w' ⟨rfl, k3, rfl⟩) | (go_at_call 98; refine (add_any p hp2 b _ _ (by first | exact HI.out _ | exact i64_fv _ hp2 | assumption | (constructor <;> omega)) (by first | exact HI.out _ | exact i64_fv _ hp2 | assumption | (constructor <;> omega)) _ (by exact cb)).mono ?_; rintro e w' ⟨rfl, k3, rfl⟩) | (go_at_call 94; refine (sub_any p hp2 b _ _ (by first | exact HI.out _ | exact i64_fv _ hp2 | assumption | (constructor <;> omega)) (by first | exact HI.out _ | exact i64_fv _ hp2 | assumption | (constructor <;> omega)) _ (by exact cb)).mono ?_; rintro e w' ⟨rfl, rfl⟩) | (go_at_call 25; refine (of_any p HP0.out hp2 b _ (by first | exact HI.out _ | exact i64_fv _ hp2 | assumption | (constructor <;> omega)) _ (by exact cb)).mono ?_; rw [← fv_el]; rintro e w' ⟨rfl, rfl⟩) | (go_at_call 149; (first | (with_reducible refine Calls.mono (HV0.out _ ?_) ?_) | (with_reducible refine Calls.mono (HV1.out _ ?_) ?_) | (with_reducible refine Calls.mono (HV2.out _ ?_) ?_)); (exact HJ.out _); rintro e w' ⟨rfl, rfl⟩) | (go_at_call 176; refine (HHP.out _).mono ?_; rintro e w' ⟨rfl, k3, rfl⟩)))
    go_wp2
    go_ret
    exact GivesE.of_fv hp2 (by simp [el_fv, el_one, goesI, rE]) (below_drewN HB0.out _)
  by_cases e10 : op = 10
  · subst e10
    go_wp2
    go_region_held3 (fun w' => w'.cell? ⟨j, 0, none⟩ = some (.pointer (some ⟨b, 0, none⟩)) ∧ w'.cell? ⟨j, 4, none⟩ = some (.slice (some ⟨g, 0, none⟩) n cA) ∧ w'.cell? ⟨b, 0, none⟩ = some (vi p) ∧ w'.cell? ⟨g, 0, none⟩ = some (vi (rw 0)) ∧ w'.cell? ⟨g, 1, none⟩ = some (vi (rw 1)) ∧ w'.cell? ⟨g, 2, none⟩ = some (vi (rw 2)) ∧ w'.cell? ⟨g, 11, none⟩ = some (vi (rw 11)) ∧ w'.cell? ⟨w.heap.size, 1, none⟩ = some (vi ia) ∧ w'.cell? ⟨w.heap.size, 2, none⟩ = some (vi ib) ∧ w'.cell? ⟨w.heap.size, 3, none⟩ = some (vi ic)) (exact ⟨c0, c4, cb, r0, r1, r2, r11, x1, x2, x3⟩) ((first | (go_at_call 69; refine (mul_any p hp2 b _ _ (by first | exact HI.out _ | exact i64_fv _ hp2 | assumption | (constructor <;> omega)) (by first | exact HI.out _ | exact i64_fv _ hp2 | assumption | (constructor <;> omega)) _ (by exact cb)).mono ?_; rintro e w' ⟨rfl, k3, rfl⟩) | (go_at_call 98; refine (add_any p hp2 b _ _ (by first | exact HI.out _ | exact i64_fv _ hp2 | assumption | (constructor <;> omega)) (by first | exact HI.out _ | exact i64_fv _ hp2 | assumption | (constructor <;> omega)) _ (by exact cb)).mono ?_; rintro e w' ⟨rfl, k3, rfl⟩) | (go_at_call 94; refine (sub_any p hp2 b _ _ (by first | exact HI.out _ | exact i64_fv _ hp2 | assumption | (constructor <;> omega)) (by first | exact HI.out _ | exact i64_fv _ hp2 | assumption | (constructor <;> omega)) _ (by exact cb)).mono ?_; rintro e w' ⟨rfl, rfl⟩) | (go_at_call 25; refine (of_any p HP0.out hp2 b _ (by first | exact HI.out _ | exact i64_fv _ hp2 | assumption | (constructor <;> omega)) _ (by exact cb)).mono ?_; rw [← fv_el]; rintro e w' ⟨rfl, rfl⟩) | (go_at_call 149; (first | (with_reducible refine Calls.mono (HV0.out _ ?_) ?_) | (with_reducible refine Calls.mono (HV1.out _ ?_) ?_) | (with_reducible refine Calls.mono (HV2.out _ ?_) ?_)); (exact HJ.out _); rintro e w' ⟨rfl, rfl⟩) | (go_at_call 176; refine (HHP.out _).mono ?_; rintro e w' ⟨rfl, k3, rfl⟩)))
    go_wp2
    go_ret
    exact GivesE.of_fv hp2 (by simp [el_fv, el_one, goesI, rE]) (below_drewN HB0.out _)
  by_cases e9 : op = 9
  · subst e9
    go_wp2_with fail
    refine (HHP.out 0).mono ?_
    rintro _ _ ⟨rfl, k8, rfl⟩
    have HJ8 := HJ.out k8
    go_wp2
    go_region_held3 (fun w' => w'.cell? ⟨j, 0, none⟩ = some (.pointer (some ⟨b, 0, none⟩)) ∧ w'.cell? ⟨j, 4, none⟩ = some (.slice (some ⟨g, 0, none⟩) n cA) ∧ w'.cell? ⟨b, 0, none⟩ = some (vi p) ∧ w'.cell? ⟨g, 0, none⟩ = some (vi (rw 0)) ∧ w'.cell? ⟨g, 1, none⟩ = some (vi (rw 1)) ∧ w'.cell? ⟨g, 2, none⟩ = some (vi (rw 2)) ∧ w'.cell? ⟨g, 11, none⟩ = some (vi (rw 11)) ∧ w'.cell? ⟨w.heap.size, 1, none⟩ = some (vi ia) ∧ w'.cell? ⟨w.heap.size, 2, none⟩ = some (vi ib) ∧ w'.cell? ⟨w.heap.size, 3, none⟩ = some (vi ic)) (exact ⟨c0, c4, cb, r0, r1, r2, r11, x1, x2, x3⟩) ((first | (go_at_call 69; refine (mul_any p hp2 b _ _ (by first | exact HI.out _ | exact i64_fv _ hp2 | assumption | (constructor <;> omega)) (by first | exact HI.out _ | exact i64_fv _ hp2 | assumption | (constructor <;> omega)) _ (by exact cb)).mono ?_; rintro e w' ⟨rfl, k3, rfl⟩) | (go_at_call 98; refine (add_any p hp2 b _ _ (by first | exact HI.out _ | exact i64_fv _ hp2 | assumption | (constructor <;> omega)) (by first | exact HI.out _ | exact i64_fv _ hp2 | assumption | (constructor <;> omega)) _ (by exact cb)).mono ?_; rintro e w' ⟨rfl, k3, rfl⟩) | (go_at_call 94; refine (sub_any p hp2 b _ _ (by first | exact HI.out _ | exact i64_fv _ hp2 | assumption | (constructor <;> omega)) (by first | exact HI.out _ | exact i64_fv _ hp2 | assumption | (constructor <;> omega)) _ (by exact cb)).mono ?_; rintro e w' ⟨rfl, rfl⟩) | (go_at_call 25; refine (of_any p HP0.out hp2 b _ (by first | exact HI.out _ | exact i64_fv _ hp2 | assumption | (constructor <;> omega)) _ (by exact cb)).mono ?_; rw [← fv_el]; rintro e w' ⟨rfl, rfl⟩) | (go_at_call 149; (first | (with_reducible refine Calls.mono (HV0.out _ ?_) ?_) | (with_reducible refine Calls.mono (HV1.out _ ?_) ?_) | (with_reducible refine Calls.mono (HV2.out _ ?_) ?_)); (exact HJ.out _); rintro e w' ⟨rfl, rfl⟩) | (go_at_call 176; refine (HHP.out _).mono ?_; rintro e w' ⟨rfl, k3, rfl⟩)))
    go_wp2
    go_ret
    exact GivesE.of_fv hp2 (by simp [el_fv, el_one, goesI, rE]) (below_drewN HB0.out _)
  by_cases e11 : op = 11
  · subst e11
    go_wp2_with fail
    refine (HV1.out _ (HJ.out 0)).mono ?_
    rintro _ _ ⟨rfl, rfl⟩
    go_wp2
    go_ret
    exact ⟨_, HI.out 8, rfl, by simp [goesI, rE], below_drewN HB0.out 0⟩
  have f0 : (op == 0) = false := by simp [e0]
  have f8 : (op == 8) = false := by simp [e8]
  have f10 : (op == 10) = false := by simp [e10]
  have f9 : (op == 9) = false := by simp [e9]
  have f11 : (op == 11) = false := by simp [e11]
  have HD := Lib.hid (show goesI (rE p rw) k ⟨op, ia, ib, ic⟩ = el p ((k : Int) + 1) by simp [goesI, e0, e8, e9, e10, e11])
  clear e0 e8 e9 e10 e11
  go_wp2
  go_ret
  exact ⟨_, hk1, rfl, HD.out.symm, below_drewN HB0.out 0⟩
end Go.Proofs.YtpkhcncempoohaaGreatDoor

namespace Go.Proofs.YtpkhcncempoohaaGreatDoor
open Go.RowKit Zp
set_option maxRecDepth 100000 in
set_option maxHeartbeats 2000000 in
theorem jfp_any (j b p : Nat) [NeZero p] (g n cA : Nat) (rw : Nat → Int) (k : Nat) (hk : k ≤ 65536) (op ia ib ic : Int) (ho : I64 op) (hia : I64 ia) (hib : I64 ib) (hic : I64 ic) (w : World) (h : JR w j b p g n cA rw) :
    Calls Tryz.prog 145 #[.pointer (some ⟨j, 0, none⟩), vi k, .agg #[vi op, vi ia, vi ib, vi ic]] w (GivesE (fpI (rE p rw) k ⟨op, ia, ib, ic⟩) w) := by
  have hl := h.len
  have hp2 := h.max
  have HP0 := Lib.hid (Nat.pos_of_ne_zero (NeZero.ne p))
  have hI := h.i64
  have hb0 : Below w.heap.size w (w.alloc (.cells #[vi op, vi ia, vi ib, vi ic] 121)) := (Below.refl _ _).alloc (Nat.le_refl _) _
  have hB0 := Blk.new w 121 #[vi op, vi ia, vi ib, vi ic]
  obtain ⟨W0, hW0⟩ : ∃ W0, W0 = w.alloc (.cells #[vi op, vi ia, vi ib, vi ic] 121) := ⟨_, rfl⟩
  rw [← hW0] at hb0 hB0
  have x0 := (hB0.cell 0).trans (show _ = some (vi op) from rfl)
  have x1 := (hB0.cell 1).trans (show _ = some (vi ia) from rfl)
  have x2 := (hB0.cell 2).trans (show _ = some (vi ib) from rfl)
  have x3 := (hB0.cell 3).trans (show _ = some (vi ic) from rfl)
  have h1 := h.below hb0
  have HJ := Lib.hid (fun k => h1.below (below_drewN (Below.refl _ _) k))
  have c0 := h1.cb
  have c4 := h1.cr
  have cb := h1.cp
  have r0 := h1.at_ 0 (by omega)
  have r1 := h1.at_ 1 (by omega)
  have r2 := h1.at_ 2 (by omega)
  have r11 := h1.at_ 11 (by omega)
  have n0 : 0 < n := by omega
  have n00 : (0 : Int) < (n : Int) := by omega
  have n1 : (1 : Int) < (n : Int) := by omega
  have n2 : (2 : Int) < (n : Int) := by omega
  have n11 : (11 : Int) < (n : Int) := by omega
  have hV0 : ∀ W, JR W j b p g n cA rw → Calls Tryz.prog 149 #[.pointer (some ⟨j, 0, none⟩), vi 0] W (fun e w' => e = .returned (vi (rw 7)) ∧ W = w') := fun W hW => (jv_any j b p g n cA rw 0 (by omega) W hW).mono fun e w' h => ⟨h.1, h.2.symm⟩
  have hV1 : ∀ W, JR W j b p g n cA rw → Calls Tryz.prog 149 #[.pointer (some ⟨j, 0, none⟩), vi 1] W (fun e w' => e = .returned (vi (rw 8)) ∧ W = w') := fun W hW => (jv_any j b p g n cA rw 1 (by omega) W hW).mono fun e w' h => ⟨h.1, h.2.symm⟩
  have hV2 : ∀ W, JR W j b p g n cA rw → Calls Tryz.prog 149 #[.pointer (some ⟨j, 0, none⟩), vi 2] W (fun e w' => e = .returned (vi (rw 9)) ∧ W = w') := fun W hW => (jv_any j b p g n cA rw 2 (by omega) W hW).mono fun e w' h => ⟨h.1, h.2.symm⟩
  have HV0 := Lib.hid hV0
  have HV1 := Lib.hid hV1
  have HV2 := Lib.hid hV2
  have HHP := Lib.hid (fun k => jhelps_any j b p g n cA rw (W0.drewN k) (HJ.out k))
  have HI := Lib.hid hI
  have HB0 := Lib.hid hb0
  have HW0 := Lib.hid hW0
  clear hW0 hb0 hB0 h h1 hV0 hV1 hV2 hI
  have k1 : IntKind.i64.wrap ((k : Int) + 1) = (k : Int) + 1 := IntWalk.i64_in _ (by constructor <;> omega)
  have hk1 : I64 ((k : Int) + 1) := by constructor <;> omega
  have hk0 : I64 (k : Int) := by constructor <;> omega
  go_enter Tryz.func145, Tryz.ntmps145
  go_upto_region 1 with (fail)
  rw [← HW0.out]
  by_cases e10 : op = 10
  · subst e10
    go_wp2
    go_region_held3 (fun w' => w'.cell? ⟨j, 0, none⟩ = some (.pointer (some ⟨b, 0, none⟩)) ∧ w'.cell? ⟨j, 4, none⟩ = some (.slice (some ⟨g, 0, none⟩) n cA) ∧ w'.cell? ⟨b, 0, none⟩ = some (vi p) ∧ w'.cell? ⟨g, 0, none⟩ = some (vi (rw 0)) ∧ w'.cell? ⟨g, 1, none⟩ = some (vi (rw 1)) ∧ w'.cell? ⟨g, 2, none⟩ = some (vi (rw 2)) ∧ w'.cell? ⟨g, 11, none⟩ = some (vi (rw 11)) ∧ w'.cell? ⟨w.heap.size, 1, none⟩ = some (vi ia) ∧ w'.cell? ⟨w.heap.size, 2, none⟩ = some (vi ib) ∧ w'.cell? ⟨w.heap.size, 3, none⟩ = some (vi ic)) (exact ⟨c0, c4, cb, r0, r1, r2, r11, x1, x2, x3⟩) ((first | (go_at_call 69; refine (mul_any p hp2 b _ _ (by first | exact HI.out _ | exact i64_fv _ hp2 | assumption | (constructor <;> omega)) (by first | exact HI.out _ | exact i64_fv _ hp2 | assumption | (constructor <;> omega)) _ (by exact cb)).mono ?_; rintro e w' ⟨rfl, k3, rfl⟩) | (go_at_call 98; refine (add_any p hp2 b _ _ (by first | exact HI.out _ | exact i64_fv _ hp2 | assumption | (constructor <;> omega)) (by first | exact HI.out _ | exact i64_fv _ hp2 | assumption | (constructor <;> omega)) _ (by exact cb)).mono ?_; rintro e w' ⟨rfl, k3, rfl⟩) | (go_at_call 94; refine (sub_any p hp2 b _ _ (by first | exact HI.out _ | exact i64_fv _ hp2 | assumption | (constructor <;> omega)) (by first | exact HI.out _ | exact i64_fv _ hp2 | assumption | (constructor <;> omega)) _ (by exact cb)).mono ?_; rintro e w' ⟨rfl, rfl⟩) | (go_at_call 25; refine (of_any p HP0.out hp2 b _ (by first | exact HI.out _ | exact i64_fv _ hp2 | assumption | (constructor <;> omega)) _ (by exact cb)).mono ?_; rw [← fv_el]; rintro e w' ⟨rfl, rfl⟩) | (go_at_call 149; (first | (with_reducible refine Calls.mono (HV0.out _ ?_) ?_) | (with_reducible refine Calls.mono (HV1.out _ ?_) ?_) | (with_reducible refine Calls.mono (HV2.out _ ?_) ?_)); (exact HJ.out _); rintro e w' ⟨rfl, rfl⟩) | (go_at_call 176; refine (HHP.out _).mono ?_; rintro e w' ⟨rfl, k3, rfl⟩)))
    go_wp2
    go_ret
    exact GivesE.of_fv hp2 (by simp [el_fv, el_one, el_two, fpI, rE]) (below_drewN HB0.out _)
  by_cases e11 : op = 11
  · subst e11
    go_wp2_with fail
    refine (HV0.out _ (HJ.out 0)).mono ?_
    rintro _ _ ⟨rfl, rfl⟩
    go_wp2
    go_ret
    exact ⟨_, HI.out 7, rfl, by simp [fpI, rE], below_drewN HB0.out 0⟩
  have f10 : (op == 10) = false := by simp [e10]
  have f11 : (op == 11) = false := by simp [e11]
  have HD := Lib.hid (show fpI (rE p rw) k ⟨op, ia, ib, ic⟩ = rE p rw 0 by simp [fpI, e10, e11])
  clear e10 e11
  go_wp2
  go_ret
  exact ⟨_, HI.out 0, rfl, HD.out.symm, below_drewN HB0.out 0⟩
set_option maxRecDepth 100000 in
set_option maxHeartbeats 2000000 in
theorem jap_any (j b p : Nat) [NeZero p] (g n cA : Nat) (rw : Nat → Int) (k : Nat) (hk : k ≤ 65536) (op ia ib ic : Int) (ho : I64 op) (hia : I64 ia) (hib : I64 ib) (hic : I64 ic) (w : World) (h : JR w j b p g n cA rw) :
    Calls Tryz.prog 146 #[.pointer (some ⟨j, 0, none⟩), vi k, .agg #[vi op, vi ia, vi ib, vi ic]] w (GivesE (apI (rE p rw) k ⟨op, ia, ib, ic⟩) w) := by
  have hl := h.len
  have hp2 := h.max
  have HP0 := Lib.hid (Nat.pos_of_ne_zero (NeZero.ne p))
  have hI := h.i64
  have hb0 : Below w.heap.size w (w.alloc (.cells #[vi op, vi ia, vi ib, vi ic] 121)) := (Below.refl _ _).alloc (Nat.le_refl _) _
  have hB0 := Blk.new w 121 #[vi op, vi ia, vi ib, vi ic]
  obtain ⟨W0, hW0⟩ : ∃ W0, W0 = w.alloc (.cells #[vi op, vi ia, vi ib, vi ic] 121) := ⟨_, rfl⟩
  rw [← hW0] at hb0 hB0
  have x0 := (hB0.cell 0).trans (show _ = some (vi op) from rfl)
  have x1 := (hB0.cell 1).trans (show _ = some (vi ia) from rfl)
  have x2 := (hB0.cell 2).trans (show _ = some (vi ib) from rfl)
  have x3 := (hB0.cell 3).trans (show _ = some (vi ic) from rfl)
  have h1 := h.below hb0
  have HJ := Lib.hid (fun k => h1.below (below_drewN (Below.refl _ _) k))
  have c0 := h1.cb
  have c4 := h1.cr
  have cb := h1.cp
  have r0 := h1.at_ 0 (by omega)
  have r1 := h1.at_ 1 (by omega)
  have r2 := h1.at_ 2 (by omega)
  have r11 := h1.at_ 11 (by omega)
  have n0 : 0 < n := by omega
  have n00 : (0 : Int) < (n : Int) := by omega
  have n1 : (1 : Int) < (n : Int) := by omega
  have n2 : (2 : Int) < (n : Int) := by omega
  have n11 : (11 : Int) < (n : Int) := by omega
  have hV0 : ∀ W, JR W j b p g n cA rw → Calls Tryz.prog 149 #[.pointer (some ⟨j, 0, none⟩), vi 0] W (fun e w' => e = .returned (vi (rw 7)) ∧ W = w') := fun W hW => (jv_any j b p g n cA rw 0 (by omega) W hW).mono fun e w' h => ⟨h.1, h.2.symm⟩
  have hV1 : ∀ W, JR W j b p g n cA rw → Calls Tryz.prog 149 #[.pointer (some ⟨j, 0, none⟩), vi 1] W (fun e w' => e = .returned (vi (rw 8)) ∧ W = w') := fun W hW => (jv_any j b p g n cA rw 1 (by omega) W hW).mono fun e w' h => ⟨h.1, h.2.symm⟩
  have hV2 : ∀ W, JR W j b p g n cA rw → Calls Tryz.prog 149 #[.pointer (some ⟨j, 0, none⟩), vi 2] W (fun e w' => e = .returned (vi (rw 9)) ∧ W = w') := fun W hW => (jv_any j b p g n cA rw 2 (by omega) W hW).mono fun e w' h => ⟨h.1, h.2.symm⟩
  have HV0 := Lib.hid hV0
  have HV1 := Lib.hid hV1
  have HV2 := Lib.hid hV2
  have HHP := Lib.hid (fun k => jhelps_any j b p g n cA rw (W0.drewN k) (HJ.out k))
  have HI := Lib.hid hI
  have HB0 := Lib.hid hb0
  have HW0 := Lib.hid hW0
  clear hW0 hb0 hB0 h h1 hV0 hV1 hV2 hI
  have k1 : IntKind.i64.wrap ((k : Int) + 1) = (k : Int) + 1 := IntWalk.i64_in _ (by constructor <;> omega)
  have hk1 : I64 ((k : Int) + 1) := by constructor <;> omega
  have hk0 : I64 (k : Int) := by constructor <;> omega
  go_enter Tryz.func146, Tryz.ntmps146
  go_upto_region 1 with (fail)
  rw [← HW0.out]
  by_cases e10 : op = 10
  · subst e10
    go_wp2
    go_region_held3 (fun w' => w'.cell? ⟨j, 0, none⟩ = some (.pointer (some ⟨b, 0, none⟩)) ∧ w'.cell? ⟨j, 4, none⟩ = some (.slice (some ⟨g, 0, none⟩) n cA) ∧ w'.cell? ⟨b, 0, none⟩ = some (vi p) ∧ w'.cell? ⟨g, 0, none⟩ = some (vi (rw 0)) ∧ w'.cell? ⟨g, 1, none⟩ = some (vi (rw 1)) ∧ w'.cell? ⟨g, 2, none⟩ = some (vi (rw 2)) ∧ w'.cell? ⟨g, 11, none⟩ = some (vi (rw 11)) ∧ w'.cell? ⟨w.heap.size, 1, none⟩ = some (vi ia) ∧ w'.cell? ⟨w.heap.size, 2, none⟩ = some (vi ib) ∧ w'.cell? ⟨w.heap.size, 3, none⟩ = some (vi ic)) (exact ⟨c0, c4, cb, r0, r1, r2, r11, x1, x2, x3⟩) ((first | (go_at_call 69; refine (mul_any p hp2 b _ _ (by first | exact HI.out _ | exact i64_fv _ hp2 | assumption | (constructor <;> omega)) (by first | exact HI.out _ | exact i64_fv _ hp2 | assumption | (constructor <;> omega)) _ (by exact cb)).mono ?_; rintro e w' ⟨rfl, k3, rfl⟩) | (go_at_call 98; refine (add_any p hp2 b _ _ (by first | exact HI.out _ | exact i64_fv _ hp2 | assumption | (constructor <;> omega)) (by first | exact HI.out _ | exact i64_fv _ hp2 | assumption | (constructor <;> omega)) _ (by exact cb)).mono ?_; rintro e w' ⟨rfl, k3, rfl⟩) | (go_at_call 94; refine (sub_any p hp2 b _ _ (by first | exact HI.out _ | exact i64_fv _ hp2 | assumption | (constructor <;> omega)) (by first | exact HI.out _ | exact i64_fv _ hp2 | assumption | (constructor <;> omega)) _ (by exact cb)).mono ?_; rintro e w' ⟨rfl, rfl⟩) | (go_at_call 25; refine (of_any p HP0.out hp2 b _ (by first | exact HI.out _ | exact i64_fv _ hp2 | assumption | (constructor <;> omega)) _ (by exact cb)).mono ?_; rw [← fv_el]; rintro e w' ⟨rfl, rfl⟩) | (go_at_call 149; (first | (with_reducible refine Calls.mono (HV0.out _ ?_) ?_) | (with_reducible refine Calls.mono (HV1.out _ ?_) ?_) | (with_reducible refine Calls.mono (HV2.out _ ?_) ?_)); (exact HJ.out _); rintro e w' ⟨rfl, rfl⟩) | (go_at_call 176; refine (HHP.out _).mono ?_; rintro e w' ⟨rfl, k3, rfl⟩)))
    go_wp2
    go_ret
    exact GivesE.of_fv hp2 (by simp [el_fv, el_one, el_two, apI, rE]) (below_drewN HB0.out _)
  have f10 : (op == 10) = false := by simp [e10]
  have HD := Lib.hid (show apI (rE p rw) k ⟨op, ia, ib, ic⟩ = rE p rw 1 by simp [apI, e10])
  clear e10
  go_wp2
  go_ret
  exact ⟨_, HI.out 1, rfl, HD.out.symm, below_drewN HB0.out 0⟩
set_option maxRecDepth 100000 in
set_option maxHeartbeats 2000000 in
theorem jrv_any (j b p : Nat) [NeZero p] (g n cA : Nat) (rw : Nat → Int) (k : Nat) (hk : k ≤ 65536) (op ia ib ic : Int) (ho : I64 op) (hia : I64 ia) (hib : I64 ib) (hic : I64 ic) (w : World) (h : JR w j b p g n cA rw) :
    Calls Tryz.prog 147 #[.pointer (some ⟨j, 0, none⟩), vi k, .agg #[vi op, vi ia, vi ib, vi ic]] w (GivesE (rvI (rE p rw) k ⟨op, ia, ib, ic⟩) w) := by
  have hl := h.len
  have hp2 := h.max
  have HP0 := Lib.hid (Nat.pos_of_ne_zero (NeZero.ne p))
  have hI := h.i64
  have hb0 : Below w.heap.size w (w.alloc (.cells #[vi op, vi ia, vi ib, vi ic] 121)) := (Below.refl _ _).alloc (Nat.le_refl _) _
  have hB0 := Blk.new w 121 #[vi op, vi ia, vi ib, vi ic]
  obtain ⟨W0, hW0⟩ : ∃ W0, W0 = w.alloc (.cells #[vi op, vi ia, vi ib, vi ic] 121) := ⟨_, rfl⟩
  rw [← hW0] at hb0 hB0
  have x0 := (hB0.cell 0).trans (show _ = some (vi op) from rfl)
  have x1 := (hB0.cell 1).trans (show _ = some (vi ia) from rfl)
  have x2 := (hB0.cell 2).trans (show _ = some (vi ib) from rfl)
  have x3 := (hB0.cell 3).trans (show _ = some (vi ic) from rfl)
  have h1 := h.below hb0
  have HJ := Lib.hid (fun k => h1.below (below_drewN (Below.refl _ _) k))
  have c0 := h1.cb
  have c4 := h1.cr
  have cb := h1.cp
  have r0 := h1.at_ 0 (by omega)
  have r1 := h1.at_ 1 (by omega)
  have r2 := h1.at_ 2 (by omega)
  have r11 := h1.at_ 11 (by omega)
  have n0 : 0 < n := by omega
  have n00 : (0 : Int) < (n : Int) := by omega
  have n1 : (1 : Int) < (n : Int) := by omega
  have n2 : (2 : Int) < (n : Int) := by omega
  have n11 : (11 : Int) < (n : Int) := by omega
  have hV0 : ∀ W, JR W j b p g n cA rw → Calls Tryz.prog 149 #[.pointer (some ⟨j, 0, none⟩), vi 0] W (fun e w' => e = .returned (vi (rw 7)) ∧ W = w') := fun W hW => (jv_any j b p g n cA rw 0 (by omega) W hW).mono fun e w' h => ⟨h.1, h.2.symm⟩
  have hV1 : ∀ W, JR W j b p g n cA rw → Calls Tryz.prog 149 #[.pointer (some ⟨j, 0, none⟩), vi 1] W (fun e w' => e = .returned (vi (rw 8)) ∧ W = w') := fun W hW => (jv_any j b p g n cA rw 1 (by omega) W hW).mono fun e w' h => ⟨h.1, h.2.symm⟩
  have hV2 : ∀ W, JR W j b p g n cA rw → Calls Tryz.prog 149 #[.pointer (some ⟨j, 0, none⟩), vi 2] W (fun e w' => e = .returned (vi (rw 9)) ∧ W = w') := fun W hW => (jv_any j b p g n cA rw 2 (by omega) W hW).mono fun e w' h => ⟨h.1, h.2.symm⟩
  have HV0 := Lib.hid hV0
  have HV1 := Lib.hid hV1
  have HV2 := Lib.hid hV2
  have HHP := Lib.hid (fun k => jhelps_any j b p g n cA rw (W0.drewN k) (HJ.out k))
  have HI := Lib.hid hI
  have HB0 := Lib.hid hb0
  have HW0 := Lib.hid hW0
  clear hW0 hb0 hB0 h h1 hV0 hV1 hV2 hI
  have k1 : IntKind.i64.wrap ((k : Int) + 1) = (k : Int) + 1 := IntWalk.i64_in _ (by constructor <;> omega)
  have hk1 : I64 ((k : Int) + 1) := by constructor <;> omega
  have hk0 : I64 (k : Int) := by constructor <;> omega
  go_enter Tryz.func147, Tryz.ntmps147
  go_upto_region 1 with (fail)
  rw [← HW0.out]
  by_cases e11 : op = 11
  · subst e11
    go_wp2_with fail
    refine (HV2.out _ (HJ.out 0)).mono ?_
    rintro _ _ ⟨rfl, rfl⟩
    go_wp2
    go_ret
    exact ⟨_, HI.out 9, rfl, by simp [rvI, rE], below_drewN HB0.out 0⟩
  have f11 : (op == 11) = false := by simp [e11]
  have HD := Lib.hid (show rvI (rE p rw) k ⟨op, ia, ib, ic⟩ = rE p rw 2 by simp [rvI, e11])
  clear e11
  go_wp2
  go_ret
  exact ⟨_, HI.out 2, rfl, HD.out.symm, below_drewN HB0.out 0⟩
end Go.Proofs.YtpkhcncempoohaaGreatDoor

namespace Go.Proofs.YtpkhcncempoohaaGreatDoor
open Go.RowKit Zp
set_option maxRecDepth 100000 in
set_option maxHeartbeats 8000000 in
theorem jcell1_any (j b p : Nat) [NeZero p] (g n cA : Nat) (rw : Nat → Int) (k i g1 g2 : Nat) (hi : i < 3) (op ia ib ic : Int) (ho : I64 op) (hia : I64 ia) (hib : I64 ib) (hic : I64 ic) (w : World) (h : JR w j b p g n cA rw) (hg1 : w.cell? ⟨g1, 0, none⟩ = some (.pointer (some ⟨j, 0, none⟩))) (hg2 : w.cell? ⟨g2, 0, none⟩ = some (vi i)) :
    Calls Tryz.prog 175 #[vi k, .agg #[vi op, vi ia, vi ib, vi ic], .pointer (some ⟨g1, 0, none⟩), .pointer (some ⟨g2, 0, none⟩)] w (GivesE (cellI (rE p rw) i k ⟨op, ia, ib, ic⟩) w) := by
  have hl := h.len
  have hp2 := h.max
  have HP0 := Lib.hid (Nat.pos_of_ne_zero (NeZero.ne p))
  have hI := h.i64
  have hb0 : Below w.heap.size w (w.alloc (.cells #[vi op, vi ia, vi ib, vi ic] 121)) := (Below.refl _ _).alloc (Nat.le_refl _) _
  have hB0 := Blk.new w 121 #[vi op, vi ia, vi ib, vi ic]
  obtain ⟨W0, hW0⟩ : ∃ W0, W0 = w.alloc (.cells #[vi op, vi ia, vi ib, vi ic] 121) := ⟨_, rfl⟩
  rw [← hW0] at hb0 hB0
  have x0 := (hB0.cell 0).trans (show _ = some (vi op) from rfl)
  have x1 := (hB0.cell 1).trans (show _ = some (vi ia) from rfl)
  have x2 := (hB0.cell 2).trans (show _ = some (vi ib) from rfl)
  have x3 := (hB0.cell 3).trans (show _ = some (vi ic) from rfl)
  have h1 := h.below hb0
  have HJ := Lib.hid (fun k => h1.below (below_drewN (Below.refl _ _) k))
  have c0 := h1.cb
  have c4 := h1.cr
  have cb := h1.cp
  have r0 := h1.at_ 0 (by omega)
  have r1 := h1.at_ 1 (by omega)
  have r2 := h1.at_ 2 (by omega)
  have r11 := h1.at_ 11 (by omega)
  have n0 : 0 < n := by omega
  have n00 : (0 : Int) < (n : Int) := by omega
  have n1 : (1 : Int) < (n : Int) := by omega
  have n2 : (2 : Int) < (n : Int) := by omega
  have n11 : (11 : Int) < (n : Int) := by omega
  have hV0 : ∀ W, JR W j b p g n cA rw → Calls Tryz.prog 149 #[.pointer (some ⟨j, 0, none⟩), vi 0] W (fun e w' => e = .returned (vi (rw 7)) ∧ W = w') := fun W hW => (jv_any j b p g n cA rw 0 (by omega) W hW).mono fun e w' h => ⟨h.1, h.2.symm⟩
  have hV1 : ∀ W, JR W j b p g n cA rw → Calls Tryz.prog 149 #[.pointer (some ⟨j, 0, none⟩), vi 1] W (fun e w' => e = .returned (vi (rw 8)) ∧ W = w') := fun W hW => (jv_any j b p g n cA rw 1 (by omega) W hW).mono fun e w' h => ⟨h.1, h.2.symm⟩
  have hV2 : ∀ W, JR W j b p g n cA rw → Calls Tryz.prog 149 #[.pointer (some ⟨j, 0, none⟩), vi 2] W (fun e w' => e = .returned (vi (rw 9)) ∧ W = w') := fun W hW => (jv_any j b p g n cA rw 2 (by omega) W hW).mono fun e w' h => ⟨h.1, h.2.symm⟩
  have HV0 := Lib.hid hV0
  have HV1 := Lib.hid hV1
  have HV2 := Lib.hid hV2
  have HHP := Lib.hid (fun k => jhelps_any j b p g n cA rw (W0.drewN k) (HJ.out k))
  have HI := Lib.hid hI
  have HB0 := Lib.hid hb0
  have HW0 := Lib.hid hW0
  clear hW0 hb0 hB0 h h1 hV0 hV1 hV2 hI
  have y1 := (HB0.out.cell (block_lt_of_cell hg1)).trans hg1
  have y2 := (HB0.out.cell (block_lt_of_cell hg2)).trans hg2
  have KS := Lib.hid (fun W (hb : Below W0.heap.size W0 W) => show W.cell? ⟨g1, 0, none⟩ = some (.pointer (some ⟨j, 0, none⟩)) ∧ W.cell? ⟨j, 0, none⟩ = some (.pointer (some ⟨b, 0, none⟩)) ∧ W.cell? ⟨b, 0, none⟩ = some (vi p) ∧ W.cell? ⟨w.heap.size, 1, none⟩ = some (vi ia) ∧ W.cell? ⟨w.heap.size, 2, none⟩ = some (vi ib) ∧ W.cell? ⟨w.heap.size, 3, none⟩ = some (vi ic) from ⟨(hb.cell (block_lt_of_cell y1)).trans y1, (hb.cell (block_lt_of_cell c0)).trans c0, (hb.cell (block_lt_of_cell cb)).trans cb, (hb.cell (block_lt_of_cell x1)).trans x1, (hb.cell (block_lt_of_cell x2)).trans x2, (hb.cell (block_lt_of_cell x3)).trans x3⟩)
  have HYY := Lib.hid (fun K (os : Array Value) => (Below.alloc (below_drewN (Below.refl W0.heap.size W0) K) (Nat.le_refl _) (.cells os 3)))
  have HBW := Lib.hid (fun K (os : Array Value) => HB0.out.trans ((HYY.out K os).mono HB0.out.size))
  have z2 : ∀ K (os : Array Value), ((W0.drewN K).alloc (.cells os 3)).cell? ⟨g2, 0, none⟩ = some (vi i) := fun K os => ((HYY.out K os).cell (block_lt_of_cell y2)).trans y2
  have q10 : ∀ K (a : Value), ((W0.drewN K).alloc (.cells #[a] 3)).cell? ⟨W0.heap.size, 0, none⟩ = some a := fun K a => (Blk.new (W0.drewN K) 3 #[a]).cell 0
  have q20 : ∀ K (a b : Value), ((W0.drewN K).alloc (.cells #[a, b] 3)).cell? ⟨W0.heap.size, 0, none⟩ = some a := fun K a b => (Blk.new (W0.drewN K) 3 #[a, b]).cell 0
  have q21 : ∀ K (a b : Value), ((W0.drewN K).alloc (.cells #[a, b] 3)).cell? ⟨W0.heap.size, 1, none⟩ = some b := fun K a b => (Blk.new (W0.drewN K) 3 #[a, b]).cell 1
  have q30 : ∀ K (a b c : Value), ((W0.drewN K).alloc (.cells #[a, b, c] 3)).cell? ⟨W0.heap.size, 0, none⟩ = some a := fun K a b c => (Blk.new (W0.drewN K) 3 #[a, b, c]).cell 0
  have q31 : ∀ K (a b c : Value), ((W0.drewN K).alloc (.cells #[a, b, c] 3)).cell? ⟨W0.heap.size, 1, none⟩ = some b := fun K a b c => (Blk.new (W0.drewN K) 3 #[a, b, c]).cell 1
  have q32 : ∀ K (a b c : Value), ((W0.drewN K).alloc (.cells #[a, b, c] 3)).cell? ⟨W0.heap.size, 2, none⟩ = some c := fun K a b c => (Blk.new (W0.drewN K) 3 #[a, b, c]).cell 2
  clear hg1 hg2
  go_enter Tryz.func175, Tryz.ntmps175
  go_upto_region 1 with (fail)
  rw [← HW0.out]
  go_quiet (fail)
  by_cases e1 : op = 1
  · subst e1
    go_wp2
    go_region_held3 (fun w' => w'.cell? ⟨g1, 0, none⟩ = some (.pointer (some ⟨j, 0, none⟩)) ∧ w'.cell? ⟨j, 0, none⟩ = some (.pointer (some ⟨b, 0, none⟩)) ∧ w'.cell? ⟨b, 0, none⟩ = some (vi p) ∧ w'.cell? ⟨w.heap.size, 1, none⟩ = some (vi ia) ∧ w'.cell? ⟨w.heap.size, 2, none⟩ = some (vi ib) ∧ w'.cell? ⟨w.heap.size, 3, none⟩ = some (vi ic)) (first | exact ⟨y1, c0, cb, x1, x2, x3⟩ | exact KS.out _ (Below.alloc (below_drewN (Below.refl _ _) _) (Nat.le_refl _) _)) ((first | (go_at_call 98; refine (add_any p hp2 b _ _ (by first | exact HI.out _ | exact i64_fv _ hp2 | assumption | (constructor <;> omega)) (by first | exact HI.out _ | exact i64_fv _ hp2 | assumption | (constructor <;> omega)) _ (by exact cb)).mono ?_; rintro e w' ⟨rfl, k3, rfl⟩) | (go_at_call 94; refine (sub_any p hp2 b _ _ (by first | exact HI.out _ | exact i64_fv _ hp2 | assumption | (constructor <;> omega)) (by first | exact HI.out _ | exact i64_fv _ hp2 | assumption | (constructor <;> omega)) _ (by exact cb)).mono ?_; rintro e w' ⟨rfl, rfl⟩)))
    obtain rfl | rfl | rfl : i = 0 ∨ i = 1 ∨ i = 2 := by omega
    all_goals
      go_wp2
      go_ret
      first | exact GivesE.of_fv hp2 (by simp [el_fv, el_one, el_two, cellI, rE]) (HBW.out _ _) | exact ⟨0, by constructor <;> omega, rfl, by simp [cellI, el_zero], HBW.out _ _⟩ | exact ⟨_, HI.out 1, rfl, by simp [cellI, rE], HBW.out _ _⟩
  by_cases e2 : op = 2
  · subst e2
    go_wp2
    go_region_held3 (fun w' => w'.cell? ⟨g1, 0, none⟩ = some (.pointer (some ⟨j, 0, none⟩)) ∧ w'.cell? ⟨j, 0, none⟩ = some (.pointer (some ⟨b, 0, none⟩)) ∧ w'.cell? ⟨b, 0, none⟩ = some (vi p) ∧ w'.cell? ⟨w.heap.size, 1, none⟩ = some (vi ia) ∧ w'.cell? ⟨w.heap.size, 2, none⟩ = some (vi ib) ∧ w'.cell? ⟨w.heap.size, 3, none⟩ = some (vi ic)) (first | exact ⟨y1, c0, cb, x1, x2, x3⟩ | exact KS.out _ (Below.alloc (below_drewN (Below.refl _ _) _) (Nat.le_refl _) _)) ((first | (go_at_call 98; refine (add_any p hp2 b _ _ (by first | exact HI.out _ | exact i64_fv _ hp2 | assumption | (constructor <;> omega)) (by first | exact HI.out _ | exact i64_fv _ hp2 | assumption | (constructor <;> omega)) _ (by exact cb)).mono ?_; rintro e w' ⟨rfl, k3, rfl⟩) | (go_at_call 94; refine (sub_any p hp2 b _ _ (by first | exact HI.out _ | exact i64_fv _ hp2 | assumption | (constructor <;> omega)) (by first | exact HI.out _ | exact i64_fv _ hp2 | assumption | (constructor <;> omega)) _ (by exact cb)).mono ?_; rintro e w' ⟨rfl, rfl⟩)))
    obtain rfl | rfl | rfl : i = 0 ∨ i = 1 ∨ i = 2 := by omega
    all_goals
      go_wp2
      go_ret
      first | exact GivesE.of_fv hp2 (by simp [el_fv, el_one, el_two, cellI, rE]) (HBW.out _ _) | exact ⟨0, by constructor <;> omega, rfl, by simp [cellI, el_zero], HBW.out _ _⟩ | exact ⟨_, HI.out 1, rfl, by simp [cellI, rE], HBW.out _ _⟩
  by_cases e3 : op = 3
  · subst e3
    go_wp2
    go_region_held3 (fun w' => w'.cell? ⟨g1, 0, none⟩ = some (.pointer (some ⟨j, 0, none⟩)) ∧ w'.cell? ⟨j, 0, none⟩ = some (.pointer (some ⟨b, 0, none⟩)) ∧ w'.cell? ⟨b, 0, none⟩ = some (vi p) ∧ w'.cell? ⟨w.heap.size, 1, none⟩ = some (vi ia) ∧ w'.cell? ⟨w.heap.size, 2, none⟩ = some (vi ib) ∧ w'.cell? ⟨w.heap.size, 3, none⟩ = some (vi ic)) (first | exact ⟨y1, c0, cb, x1, x2, x3⟩ | exact KS.out _ (Below.alloc (below_drewN (Below.refl _ _) _) (Nat.le_refl _) _)) ((first | (go_at_call 98; refine (add_any p hp2 b _ _ (by first | exact HI.out _ | exact i64_fv _ hp2 | assumption | (constructor <;> omega)) (by first | exact HI.out _ | exact i64_fv _ hp2 | assumption | (constructor <;> omega)) _ (by exact cb)).mono ?_; rintro e w' ⟨rfl, k3, rfl⟩) | (go_at_call 94; refine (sub_any p hp2 b _ _ (by first | exact HI.out _ | exact i64_fv _ hp2 | assumption | (constructor <;> omega)) (by first | exact HI.out _ | exact i64_fv _ hp2 | assumption | (constructor <;> omega)) _ (by exact cb)).mono ?_; rintro e w' ⟨rfl, rfl⟩)))
    obtain rfl | rfl | rfl : i = 0 ∨ i = 1 ∨ i = 2 := by omega
    all_goals
      go_wp2
      go_ret
      first | exact GivesE.of_fv hp2 (by simp [el_fv, el_one, el_two, cellI, rE]) (HBW.out _ _) | exact ⟨0, by constructor <;> omega, rfl, by simp [cellI, el_zero], HBW.out _ _⟩ | exact ⟨_, HI.out 1, rfl, by simp [cellI, rE], HBW.out _ _⟩
  by_cases e4 : op = 4
  · subst e4
    go_wp2
    go_region_held3 (fun w' => w'.cell? ⟨g1, 0, none⟩ = some (.pointer (some ⟨j, 0, none⟩)) ∧ w'.cell? ⟨j, 0, none⟩ = some (.pointer (some ⟨b, 0, none⟩)) ∧ w'.cell? ⟨b, 0, none⟩ = some (vi p) ∧ w'.cell? ⟨w.heap.size, 1, none⟩ = some (vi ia) ∧ w'.cell? ⟨w.heap.size, 2, none⟩ = some (vi ib) ∧ w'.cell? ⟨w.heap.size, 3, none⟩ = some (vi ic)) (first | exact ⟨y1, c0, cb, x1, x2, x3⟩ | exact KS.out _ (Below.alloc (below_drewN (Below.refl _ _) _) (Nat.le_refl _) _)) ((first | (go_at_call 98; refine (add_any p hp2 b _ _ (by first | exact HI.out _ | exact i64_fv _ hp2 | assumption | (constructor <;> omega)) (by first | exact HI.out _ | exact i64_fv _ hp2 | assumption | (constructor <;> omega)) _ (by exact cb)).mono ?_; rintro e w' ⟨rfl, k3, rfl⟩) | (go_at_call 94; refine (sub_any p hp2 b _ _ (by first | exact HI.out _ | exact i64_fv _ hp2 | assumption | (constructor <;> omega)) (by first | exact HI.out _ | exact i64_fv _ hp2 | assumption | (constructor <;> omega)) _ (by exact cb)).mono ?_; rintro e w' ⟨rfl, rfl⟩)))
    obtain rfl | rfl | rfl : i = 0 ∨ i = 1 ∨ i = 2 := by omega
    all_goals
      go_wp2
      go_ret
      first | exact GivesE.of_fv hp2 (by simp [el_fv, el_one, el_two, cellI, rE]) (HBW.out _ _) | exact ⟨0, by constructor <;> omega, rfl, by simp [cellI, el_zero], HBW.out _ _⟩ | exact ⟨_, HI.out 1, rfl, by simp [cellI, rE], HBW.out _ _⟩
  by_cases e6 : op = 6
  · subst e6
    go_wp2
    go_region_held3 (fun w' => w'.cell? ⟨g1, 0, none⟩ = some (.pointer (some ⟨j, 0, none⟩)) ∧ w'.cell? ⟨j, 0, none⟩ = some (.pointer (some ⟨b, 0, none⟩)) ∧ w'.cell? ⟨b, 0, none⟩ = some (vi p) ∧ w'.cell? ⟨w.heap.size, 1, none⟩ = some (vi ia) ∧ w'.cell? ⟨w.heap.size, 2, none⟩ = some (vi ib) ∧ w'.cell? ⟨w.heap.size, 3, none⟩ = some (vi ic)) (first | exact ⟨y1, c0, cb, x1, x2, x3⟩ | exact KS.out _ (Below.alloc (below_drewN (Below.refl _ _) _) (Nat.le_refl _) _)) ((first | (go_at_call 98; refine (add_any p hp2 b _ _ (by first | exact HI.out _ | exact i64_fv _ hp2 | assumption | (constructor <;> omega)) (by first | exact HI.out _ | exact i64_fv _ hp2 | assumption | (constructor <;> omega)) _ (by exact cb)).mono ?_; rintro e w' ⟨rfl, k3, rfl⟩) | (go_at_call 94; refine (sub_any p hp2 b _ _ (by first | exact HI.out _ | exact i64_fv _ hp2 | assumption | (constructor <;> omega)) (by first | exact HI.out _ | exact i64_fv _ hp2 | assumption | (constructor <;> omega)) _ (by exact cb)).mono ?_; rintro e w' ⟨rfl, rfl⟩)))
    obtain rfl | rfl | rfl : i = 0 ∨ i = 1 ∨ i = 2 := by omega
    all_goals
      go_wp2
      go_ret
      first | exact GivesE.of_fv hp2 (by simp [el_fv, el_one, el_two, cellI, rE]) (HBW.out _ _) | exact ⟨0, by constructor <;> omega, rfl, by simp [cellI, el_zero], HBW.out _ _⟩ | exact ⟨_, HI.out 1, rfl, by simp [cellI, rE], HBW.out _ _⟩
  by_cases e5 : op = 5
  · subst e5
    go_wp2
    go_region_held3 (fun w' => w'.cell? ⟨g1, 0, none⟩ = some (.pointer (some ⟨j, 0, none⟩)) ∧ w'.cell? ⟨j, 0, none⟩ = some (.pointer (some ⟨b, 0, none⟩)) ∧ w'.cell? ⟨b, 0, none⟩ = some (vi p) ∧ w'.cell? ⟨w.heap.size, 1, none⟩ = some (vi ia) ∧ w'.cell? ⟨w.heap.size, 2, none⟩ = some (vi ib) ∧ w'.cell? ⟨w.heap.size, 3, none⟩ = some (vi ic)) (first | exact ⟨y1, c0, cb, x1, x2, x3⟩ | exact KS.out _ (Below.alloc (below_drewN (Below.refl _ _) _) (Nat.le_refl _) _)) ((first | (go_at_call 98; refine (add_any p hp2 b _ _ (by first | exact HI.out _ | exact i64_fv _ hp2 | assumption | (constructor <;> omega)) (by first | exact HI.out _ | exact i64_fv _ hp2 | assumption | (constructor <;> omega)) _ (by exact cb)).mono ?_; rintro e w' ⟨rfl, k3, rfl⟩) | (go_at_call 94; refine (sub_any p hp2 b _ _ (by first | exact HI.out _ | exact i64_fv _ hp2 | assumption | (constructor <;> omega)) (by first | exact HI.out _ | exact i64_fv _ hp2 | assumption | (constructor <;> omega)) _ (by exact cb)).mono ?_; rintro e w' ⟨rfl, rfl⟩)))
    obtain rfl | rfl | rfl : i = 0 ∨ i = 1 ∨ i = 2 := by omega
    all_goals
      go_wp2
      go_ret
      first | exact GivesE.of_fv hp2 (by simp [el_fv, el_one, el_two, cellI, rE]) (HBW.out _ _) | exact ⟨0, by constructor <;> omega, rfl, by simp [cellI, el_zero], HBW.out _ _⟩ | exact ⟨_, HI.out 1, rfl, by simp [cellI, rE], HBW.out _ _⟩
  by_cases e9 : op = 9
  · subst e9
    go_wp2
    go_region_held3 (fun w' => w'.cell? ⟨g1, 0, none⟩ = some (.pointer (some ⟨j, 0, none⟩)) ∧ w'.cell? ⟨j, 0, none⟩ = some (.pointer (some ⟨b, 0, none⟩)) ∧ w'.cell? ⟨b, 0, none⟩ = some (vi p) ∧ w'.cell? ⟨w.heap.size, 1, none⟩ = some (vi ia) ∧ w'.cell? ⟨w.heap.size, 2, none⟩ = some (vi ib) ∧ w'.cell? ⟨w.heap.size, 3, none⟩ = some (vi ic)) (first | exact ⟨y1, c0, cb, x1, x2, x3⟩ | exact KS.out _ (Below.alloc (below_drewN (Below.refl _ _) _) (Nat.le_refl _) _)) ((first | (go_at_call 98; refine (add_any p hp2 b _ _ (by first | exact HI.out _ | exact i64_fv _ hp2 | assumption | (constructor <;> omega)) (by first | exact HI.out _ | exact i64_fv _ hp2 | assumption | (constructor <;> omega)) _ (by exact cb)).mono ?_; rintro e w' ⟨rfl, k3, rfl⟩) | (go_at_call 94; refine (sub_any p hp2 b _ _ (by first | exact HI.out _ | exact i64_fv _ hp2 | assumption | (constructor <;> omega)) (by first | exact HI.out _ | exact i64_fv _ hp2 | assumption | (constructor <;> omega)) _ (by exact cb)).mono ?_; rintro e w' ⟨rfl, rfl⟩)))
    obtain rfl | rfl | rfl : i = 0 ∨ i = 1 ∨ i = 2 := by omega
    all_goals
      go_wp2
      go_ret
      first | exact GivesE.of_fv hp2 (by simp [el_fv, el_one, el_two, cellI, rE]) (HBW.out _ _) | exact ⟨0, by constructor <;> omega, rfl, by simp [cellI, el_zero], HBW.out _ _⟩ | exact ⟨_, HI.out 1, rfl, by simp [cellI, rE], HBW.out _ _⟩
  by_cases e12 : op = 12
  · subst e12
    go_wp2
    go_region_held3 (fun w' => w'.cell? ⟨g1, 0, none⟩ = some (.pointer (some ⟨j, 0, none⟩)) ∧ w'.cell? ⟨j, 0, none⟩ = some (.pointer (some ⟨b, 0, none⟩)) ∧ w'.cell? ⟨b, 0, none⟩ = some (vi p) ∧ w'.cell? ⟨w.heap.size, 1, none⟩ = some (vi ia) ∧ w'.cell? ⟨w.heap.size, 2, none⟩ = some (vi ib) ∧ w'.cell? ⟨w.heap.size, 3, none⟩ = some (vi ic)) (first | exact ⟨y1, c0, cb, x1, x2, x3⟩ | exact KS.out _ (Below.alloc (below_drewN (Below.refl _ _) _) (Nat.le_refl _) _)) ((first | (go_at_call 98; refine (add_any p hp2 b _ _ (by first | exact HI.out _ | exact i64_fv _ hp2 | assumption | (constructor <;> omega)) (by first | exact HI.out _ | exact i64_fv _ hp2 | assumption | (constructor <;> omega)) _ (by exact cb)).mono ?_; rintro e w' ⟨rfl, k3, rfl⟩) | (go_at_call 94; refine (sub_any p hp2 b _ _ (by first | exact HI.out _ | exact i64_fv _ hp2 | assumption | (constructor <;> omega)) (by first | exact HI.out _ | exact i64_fv _ hp2 | assumption | (constructor <;> omega)) _ (by exact cb)).mono ?_; rintro e w' ⟨rfl, rfl⟩)))
    obtain rfl | rfl | rfl : i = 0 ∨ i = 1 ∨ i = 2 := by omega
    all_goals
      go_wp2
      go_ret
      first | exact GivesE.of_fv hp2 (by simp [el_fv, el_one, el_two, cellI, rE]) (HBW.out _ _) | exact ⟨0, by constructor <;> omega, rfl, by simp [cellI, el_zero], HBW.out _ _⟩ | exact ⟨_, HI.out 1, rfl, by simp [cellI, rE], HBW.out _ _⟩
  by_cases e0 : op = 0
  · subst e0
    go_wp2
    go_region_held3 (fun w' => w'.cell? ⟨g1, 0, none⟩ = some (.pointer (some ⟨j, 0, none⟩)) ∧ w'.cell? ⟨j, 0, none⟩ = some (.pointer (some ⟨b, 0, none⟩)) ∧ w'.cell? ⟨b, 0, none⟩ = some (vi p) ∧ w'.cell? ⟨w.heap.size, 1, none⟩ = some (vi ia) ∧ w'.cell? ⟨w.heap.size, 2, none⟩ = some (vi ib) ∧ w'.cell? ⟨w.heap.size, 3, none⟩ = some (vi ic)) (first | exact ⟨y1, c0, cb, x1, x2, x3⟩ | exact KS.out _ (Below.alloc (below_drewN (Below.refl _ _) _) (Nat.le_refl _) _)) ((first | (go_at_call 98; refine (add_any p hp2 b _ _ (by first | exact HI.out _ | exact i64_fv _ hp2 | assumption | (constructor <;> omega)) (by first | exact HI.out _ | exact i64_fv _ hp2 | assumption | (constructor <;> omega)) _ (by exact cb)).mono ?_; rintro e w' ⟨rfl, k3, rfl⟩) | (go_at_call 94; refine (sub_any p hp2 b _ _ (by first | exact HI.out _ | exact i64_fv _ hp2 | assumption | (constructor <;> omega)) (by first | exact HI.out _ | exact i64_fv _ hp2 | assumption | (constructor <;> omega)) _ (by exact cb)).mono ?_; rintro e w' ⟨rfl, rfl⟩)))
    obtain rfl | rfl | rfl : i = 0 ∨ i = 1 ∨ i = 2 := by omega
    all_goals
      go_wp2
      go_ret
      first | exact GivesE.of_fv hp2 (by simp [el_fv, el_one, el_two, cellI, rE]) (HBW.out _ _) | exact ⟨0, by constructor <;> omega, rfl, by simp [cellI, el_zero], HBW.out _ _⟩ | exact ⟨_, HI.out 1, rfl, by simp [cellI, rE], HBW.out _ _⟩
  by_cases e7 : op = 7
  · subst e7
    go_wp2
    go_region_held3 (fun w' => w'.cell? ⟨g1, 0, none⟩ = some (.pointer (some ⟨j, 0, none⟩)) ∧ w'.cell? ⟨j, 0, none⟩ = some (.pointer (some ⟨b, 0, none⟩)) ∧ w'.cell? ⟨b, 0, none⟩ = some (vi p) ∧ w'.cell? ⟨w.heap.size, 1, none⟩ = some (vi ia) ∧ w'.cell? ⟨w.heap.size, 2, none⟩ = some (vi ib) ∧ w'.cell? ⟨w.heap.size, 3, none⟩ = some (vi ic)) (first | exact ⟨y1, c0, cb, x1, x2, x3⟩ | exact KS.out _ (Below.alloc (below_drewN (Below.refl _ _) _) (Nat.le_refl _) _)) ((first | (go_at_call 98; refine (add_any p hp2 b _ _ (by first | exact HI.out _ | exact i64_fv _ hp2 | assumption | (constructor <;> omega)) (by first | exact HI.out _ | exact i64_fv _ hp2 | assumption | (constructor <;> omega)) _ (by exact cb)).mono ?_; rintro e w' ⟨rfl, k3, rfl⟩) | (go_at_call 94; refine (sub_any p hp2 b _ _ (by first | exact HI.out _ | exact i64_fv _ hp2 | assumption | (constructor <;> omega)) (by first | exact HI.out _ | exact i64_fv _ hp2 | assumption | (constructor <;> omega)) _ (by exact cb)).mono ?_; rintro e w' ⟨rfl, rfl⟩)))
    obtain rfl | rfl | rfl : i = 0 ∨ i = 1 ∨ i = 2 := by omega
    all_goals
      go_wp2
      go_ret
      first | exact GivesE.of_fv hp2 (by simp [el_fv, el_one, el_two, cellI, rE]) (HBW.out _ _) | exact ⟨0, by constructor <;> omega, rfl, by simp [cellI, el_zero], HBW.out _ _⟩ | exact ⟨_, HI.out 1, rfl, by simp [cellI, rE], HBW.out _ _⟩
  by_cases e10 : op = 10
  · subst e10
    go_wp2_with fail
    refine (add_any p hp2 b _ _ (HI.out 1) (by constructor <;> omega) _ (by exact cb)).mono ?_
    rintro _ _ ⟨rfl, k3, rfl⟩
    obtain rfl | rfl | rfl : i = 0 ∨ i = 1 ∨ i = 2 := by omega
    all_goals
      go_wp2
      go_ret
      first | exact GivesE.of_fv hp2 (by simp [el_fv, el_one, el_two, cellI, rE]) (HBW.out _ _) | exact ⟨0, by constructor <;> omega, rfl, by simp [cellI, el_zero], HBW.out _ _⟩ | exact ⟨_, HI.out 1, rfl, by simp [cellI, rE], HBW.out _ _⟩
  by_cases e11 : op = 11
  · subst e11
    go_wp2
    go_region_held3 (fun w' => w'.cell? ⟨g1, 0, none⟩ = some (.pointer (some ⟨j, 0, none⟩)) ∧ w'.cell? ⟨j, 0, none⟩ = some (.pointer (some ⟨b, 0, none⟩)) ∧ w'.cell? ⟨b, 0, none⟩ = some (vi p) ∧ w'.cell? ⟨w.heap.size, 1, none⟩ = some (vi ia) ∧ w'.cell? ⟨w.heap.size, 2, none⟩ = some (vi ib) ∧ w'.cell? ⟨w.heap.size, 3, none⟩ = some (vi ic)) (first | exact ⟨y1, c0, cb, x1, x2, x3⟩ | exact KS.out _ (Below.alloc (below_drewN (Below.refl _ _) _) (Nat.le_refl _) _)) ((first | (go_at_call 98; refine (add_any p hp2 b _ _ (by first | exact HI.out _ | exact i64_fv _ hp2 | assumption | (constructor <;> omega)) (by first | exact HI.out _ | exact i64_fv _ hp2 | assumption | (constructor <;> omega)) _ (by exact cb)).mono ?_; rintro e w' ⟨rfl, k3, rfl⟩) | (go_at_call 94; refine (sub_any p hp2 b _ _ (by first | exact HI.out _ | exact i64_fv _ hp2 | assumption | (constructor <;> omega)) (by first | exact HI.out _ | exact i64_fv _ hp2 | assumption | (constructor <;> omega)) _ (by exact cb)).mono ?_; rintro e w' ⟨rfl, rfl⟩)))
    obtain rfl | rfl | rfl : i = 0 ∨ i = 1 ∨ i = 2 := by omega
    all_goals
      go_wp2
      go_ret
      first | exact GivesE.of_fv hp2 (by simp [el_fv, el_one, el_two, cellI, rE]) (HBW.out _ _) | exact ⟨0, by constructor <;> omega, rfl, by simp [cellI, el_zero], HBW.out _ _⟩ | exact ⟨_, HI.out 1, rfl, by simp [cellI, rE], HBW.out _ _⟩
  by_cases e13 : op = 13
  · subst e13
    go_wp2
    go_region_held3 (fun w' => w'.cell? ⟨g1, 0, none⟩ = some (.pointer (some ⟨j, 0, none⟩)) ∧ w'.cell? ⟨j, 0, none⟩ = some (.pointer (some ⟨b, 0, none⟩)) ∧ w'.cell? ⟨b, 0, none⟩ = some (vi p) ∧ w'.cell? ⟨w.heap.size, 1, none⟩ = some (vi ia) ∧ w'.cell? ⟨w.heap.size, 2, none⟩ = some (vi ib) ∧ w'.cell? ⟨w.heap.size, 3, none⟩ = some (vi ic)) (first | exact ⟨y1, c0, cb, x1, x2, x3⟩ | exact KS.out _ (Below.alloc (below_drewN (Below.refl _ _) _) (Nat.le_refl _) _)) ((first | (go_at_call 98; refine (add_any p hp2 b _ _ (by first | exact HI.out _ | exact i64_fv _ hp2 | assumption | (constructor <;> omega)) (by first | exact HI.out _ | exact i64_fv _ hp2 | assumption | (constructor <;> omega)) _ (by exact cb)).mono ?_; rintro e w' ⟨rfl, k3, rfl⟩) | (go_at_call 94; refine (sub_any p hp2 b _ _ (by first | exact HI.out _ | exact i64_fv _ hp2 | assumption | (constructor <;> omega)) (by first | exact HI.out _ | exact i64_fv _ hp2 | assumption | (constructor <;> omega)) _ (by exact cb)).mono ?_; rintro e w' ⟨rfl, rfl⟩)))
    obtain rfl | rfl | rfl : i = 0 ∨ i = 1 ∨ i = 2 := by omega
    all_goals
      go_wp2
      go_ret
      first | exact GivesE.of_fv hp2 (by simp [el_fv, el_one, el_two, cellI, rE]) (HBW.out _ _) | exact ⟨0, by constructor <;> omega, rfl, by simp [cellI, el_zero], HBW.out _ _⟩ | exact ⟨_, HI.out 1, rfl, by simp [cellI, rE], HBW.out _ _⟩
  have f0 : (op == 0) = false := by simp [e0]
  have f1 : (op == 1) = false := by simp [e1]
  have f2 : (op == 2) = false := by simp [e2]
  have f3 : (op == 3) = false := by simp [e3]
  have f4 : (op == 4) = false := by simp [e4]
  have f5 : (op == 5) = false := by simp [e5]
  have f6 : (op == 6) = false := by simp [e6]
  have f7 : (op == 7) = false := by simp [e7]
  have f9 : (op == 9) = false := by simp [e9]
  have f10 : (op == 10) = false := by simp [e10]
  have f11 : (op == 11) = false := by simp [e11]
  have f12 : (op == 12) = false := by simp [e12]
  have f13 : (op == 13) = false := by simp [e13]
  have HD := Lib.hid (show cellI (rE p rw) i k ⟨op, ia, ib, ic⟩ = 0 by simp [cellI, e0, e1, e2, e3, e4, e5, e6, e7, e9, e10, e11, e12, e13])
  clear e0 e1 e2 e3 e4 e5 e6 e7 e9 e10 e11 e12 e13
  have y2' : ∀ K, (W0.drewN K).cell? ⟨g2, 0, none⟩ = some (vi i) := fun K => y2
  have i0 : (0 : Int) ≤ (i : Int) := by omega
  go_wp2
  go_ret
  exact ⟨0, by constructor <;> omega, rfl, by rw [HD.out, el_zero], below_drewN HB0.out _⟩
end Go.Proofs.YtpkhcncempoohaaGreatDoor
