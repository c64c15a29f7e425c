/- MidStill Data One TwL Rows2, joined. -/
import Derived.StillTailTactics
import Derived.RegionTactic
import Derived.Lib.Hide
import Derived.Laws.BytesArg
import Derived.Test.YtcffhfcjfjfokaaSh3
import Derived.Test.YtcffhfcjfjfokaaSh4
import Derived.Test.YtcffhfcjfjfokaaSh5
set_option linter.unusedVariables false
set_option linter.unusedSimpArgs false
/- A region that draws its order: reads, then one call that may make memory, then reads again (guarded ones too). One way through it, in the text's order. -/
namespace Go.Proofs.Ytcffhfcjfjfokaa
open Go Go.RowKit
section
variable {P : Program} {ops : Array Oper} {md : Region.Mode} {w : World}
/-- wpStill, shut: nothing looks into it. -/
structure WS (P : Program) (ops : Array Oper) (w : World) (Q : Act → Prop) (l : List Oper) (a : Act) : Prop where
  out : wpStill P ops w Q l a
theorem WS.nil {Q : Act → Prop} {a : Act} (h : Q a) : WS P ops w Q [] a := ⟨h⟩
theorem WS.step {Q : Act → Prop} {a : Act} {o : Oper} {rest : List Oper}
    (h : ∀ K : Act → Prop, Hid (∀ a, WS P ops w Q rest a → K a) → if Region.wanted o (yielded ops a.tmps) then o.still P a w K else K (a.put o.dst undef)) : WS P ops w Q (o :: rest) a :=
  ⟨wpStill_step fun K hK => h K (Lib.hid fun a h => hK a h.out)⟩
/-- Every operation behind number n waits for one from n on. -/
def laterB (md : Region.Mode) (ops : Array Oper) (n : Nat) : Bool :=
  (List.range ops.size).all fun t => decide (t ≤ n) || (List.range t).any fun j => decide (n ≤ j) && Region.waitsFor md ops t j
/-- While an operation ahead of n has not come up, none from n on may. -/
theorem none_later {n : Nat} {listed : Array Bool} (hs : Region.sinkB md ops n = true) (hc : laterB md ops n = true) (hn : n < ops.size) (inv : HeadInv md ops n listed) :
    ∀ (d i : Nat), n - i ≤ d → i < n → listed.getD i true = false → ∀ t, n ≤ t → t ∉ Region.ready md ops listed := by
  intro d
  induction d with
  | zero => intro i hd hi; omega
  | succ d ih =>
    intro i hd hi hun t ht hr
    obtain ⟨_, ot, hot, hall⟩ := mem_ready.1 hr
    have htlt : t < ops.size := (Array.getElem?_eq_some_iff.1 hot).1
    -- an operation that t waits for and that has not come up
    have key : ∃ j, Region.waitsFor md ops t j = true ∧ listed.getD j true = false := by
      by_cases htn : t = n
      · subst htn
        obtain ⟨j, hj, hj2⟩ := List.any_eq_true.1 (List.all_eq_true.1 hs i (List.mem_range.2 hi))
        simp only [Bool.and_eq_true, decide_eq_true_eq] at hj2
        have hjle := List.mem_range.1 hj
        by_cases hjt : j = t
        · subst hjt; exact ⟨i, hj2.2, hun⟩
        · exfalso
          obtain ⟨oj, hoj, e, he, hb, hon⟩ := Region.waitsFor_spec hj2.2
          cases hl : listed.getD j false with
          | true => have h2 := inv.closed j oj hoj hl e he hb; rw [hon, getD_both hun] at h2; cases h2
          | false => exact ih j (by omega) (by omega) (getD_in (by rw [inv.size]; omega) hl) t (Nat.le_refl _) hr
      · have h1 := List.all_eq_true.1 hc t (List.mem_range.2 htlt)
        simp only [Bool.or_eq_true, decide_eq_true_eq, List.any_eq_true, Bool.and_eq_true, List.mem_range] at h1
        rcases h1 with h1 | ⟨j, hj, hnj, hw⟩
        · omega
        · exact ⟨j, hw, inv.tail j hnj (by omega)⟩
    obtain ⟨j, hw, hlj⟩ := key
    obtain ⟨o', ho', e, he, hb, hon⟩ := Region.waitsFor_spec hw
    obtain rfl : o' = ot := Option.some.inj (ho'.symm.trans hot)
    have h2 := hall e he hb
    rw [hon, getD_both hlj] at h2; cases h2
/-- What the head's walk needs of the operations behind it. -/
def Later (md : Region.Mode) (ops : Array Oper) (n : Nat) : Prop := ∀ listed : Array Bool, HeadInv md ops n listed → ∀ i, i < n → listed.getD i true = false → ∀ t, n ≤ t → t ∉ Region.ready md ops listed
theorem head_first {n i : Nat} {oi : Oper} {v : Value} {L : Array Bool → Act → Prop} (hT : Later md ops n) (hsel : Region.noSelect ops = true) (hi : ops[i]? = some oi) (hin : i < n)
    (hdone : ∀ listed a, L listed a → ∀ j ∈ Region.ready md ops listed, n ≤ j) :
    ∀ (f : Nat) (listed : Array Bool) (a : Act), HeadInv md ops n listed →
      (∀ j oj, ops[j]? = some oj → j ≠ i → listed.getD j true = false → (∀ e ∈ oj.after, Region.binds md e = true → e.on ≠ i) → oi.apart ops oj = true) →
      i ∈ Region.ready md ops listed → YieldsAt P ops w oi v a → wpAnyL P md ops w n L f (listed.setIfInBounds i true) (a.put oi.dst v) → wpAnyL P md ops w n L (f + 1) listed a := by
  intro f
  induction f with
  | zero =>
    intro listed a inv _ hr hy H
    refine ⟨List.ne_nil_of_mem hr, fun j hj => ?_⟩
    have hjn : j < n := Nat.lt_of_not_le fun h => hT listed inv i hin (mem_ready.1 hr).1 j h hj
    by_cases hji : j = i
    · subst hji; exact ⟨hjn, hy.stOp hi H⟩
    · exact absurd (hdone _ _ H j (ready_mono hj hji)) (by omega)
  | succ f ih =>
    intro listed a inv hfree hr hy H
    have hun := (mem_ready.1 hr).1
    refine ⟨List.ne_nil_of_mem hr, fun j hj => ?_⟩
    have hjn : j < n := Nat.lt_of_not_le fun h => hT listed inv i hin hun j h hj
    refine ⟨hjn, ?_⟩
    by_cases hji : j = i
    · subst hji; exact hy.stOp hi H
    · obtain ⟨hjun, oj, hoj, hall⟩ := mem_ready.1 hj
      have hnot : ∀ e ∈ oj.after, Region.binds md e = true → e.on ≠ i := fun e he hb heq => by
        have h1 := hall e he hb
        rw [heq, getD_both hun] at h1; cases h1
      have hs := Region.noSelect_spec hsel
      refine stOp_mono (fun a' h3 => ih (listed.setIfInBounds j true) a' (inv.set hj hjn) (fun k ok hk hki hkun hno => hfree k ok hk hki ?_ hno) (ready_mono hr (Ne.symm hji)) h3.1 ?_)
        (stOp_put hoj (hfree j oj hoj hji hjun hnot) (fun cs b => hs i oi cs b hi) (fun cs b => hs j oj cs b hoj) hy (H.2 j (ready_mono hj hji)).2)
      · by_cases hjk : j = k
        · subst hjk; exact hjun
        · rwa [getD_set_ne true hjk] at hkun
      · rw [Array.setIfInBounds_comm _ _ hji]; exact h3.2
/-- The head goes in the text's order; behind it operation n alone may come up, and behind that the rest goes in the text's order too. -/
def midFrom (md : Region.Mode) (ops : Array Oper) (n : Nat) : Nat → Nat → Array Bool → Bool
  | 0, _, listed => decide (Region.ready md ops listed = [n]) && Region.lexFrom md ops (ops.size - (n + 1)) (n + 1) (listed.setIfInBounds n true)
  | f + 1, k, listed => (Region.ready md ops listed).contains k && Region.free md ops listed k && midFrom md ops n f (k + 1) (listed.setIfInBounds k true)
def midB (md : Region.Mode) (ops : Array Oper) (n : Nat) : Bool :=
  Region.noSelect ops && decide (n < ops.size) && Region.sinkB md ops n && laterB md ops n && midFrom md ops n n 0 (Array.replicate ops.size false)
theorem head_lex {n : Nat} {Lq : Act → Prop} (hT : Later md ops n) (hsel : Region.noSelect ops = true) :
    ∀ (l : List Oper) (k : Nat) (listed : Array Bool) (a : Act), (∀ j, j < l.length → l[j]? = ops[k + j]?) → k + l.length = n → HeadInv md ops n listed →
    midFrom md ops n l.length k listed = true → wpStill P ops w Lq l a → wpAnyL P md ops w n (fun listed' a' => midFrom md ops n 0 n listed' = true ∧ Lq a') l.length listed a
  | [], k, listed, a, _, hk, _, hB, h => ⟨hB, h⟩
  | o :: l, k, listed, a, hl, hk, inv, hB, h => by
    have h0 : ops[k]? = some o := by simpa using (hl 0 (by simp)).symm
    simp only [List.length_cons, midFrom, Bool.and_eq_true] at hB
    obtain ⟨⟨hr, hf⟩, hB'⟩ := hB
    have hkn : k < n := by simp only [List.length_cons] at hk; omega
    have hr' : k ∈ Region.ready md ops listed := by simpa using hr
    obtain ⟨v, hy, hK⟩ := yieldsAt_of_stOp h0 (by unfold stOp; simp only [h0]; exact h)
    refine head_first hT hsel h0 hkn (fun listed' a' hL j hj => ?_) l.length listed a inv (Region.free_spec h0 hf) hr' hy
      (head_lex hT hsel l (k + 1) _ _ (fun j hj => by have := hl (j + 1) (by simp; omega); simpa [Nat.add_assoc, Nat.add_comm 1 j] using this) (by simp only [List.length_cons] at hk; omega) (inv.set hr' hkn) hB' hK)
    have h1 := hL.1
    simp only [midFrom, Bool.and_eq_true, decide_eq_true_eq] at h1
    rw [h1.1] at hj
    have : j = n := by simpa using hj
    omega
theorem wp_region_mid {id : Nat} {Q : Exit → Act → World → Prop} {a : Act} {w : World} {l : List Oper} {o : Oper} (n : Nat) (hm : P.follows .mixedOrders = true) (ho : l[n]? = some o) (hB : midB .any l.toArray n = true)
    (h : WS P l.toArray w.drew (fun a' => ∀ K : Act → World → Prop, Hid (∀ a2 w2, WS P l.toArray w2 (fun a3 => Q .normal a3 w2) (l.drop (n + 1)) a2 → K a2 w2) → if Region.wanted o (yielded l.toArray a'.tmps) = true then o.wp P a' w.drew K Q else K (a'.put o.dst undef) w.drew) (l.take n) a) :
    (Code.region id l.toArray true).wp P Q a w := by
  simp only [midB, Bool.and_eq_true, decide_eq_true_eq] at hB
  obtain ⟨⟨⟨⟨hsel, hn⟩, hs⟩, hc⟩, hlex⟩ := hB
  have hn' : n < l.length := by simpa using hn
  have htl : (l.take n).length = n := by simp; omega
  have inv0 : HeadInv .any l.toArray n (Array.replicate l.toArray.size false) :=
    ⟨by simp, fun j oj _ hl => (by rw [getD_replicate_false] at hl; cases hl), fun t _ ht => getD_in (by simpa using ht) (getD_replicate_false _ _)⟩
  have H := head_lex (md := .any) (ops := l.toArray) (n := n) (fun listed inv i hi hun => none_later hs hc hn inv n i (by omega) hi hun) hsel (l.take n) 0 _ a (fun j hj => by
    have hj' : j < n := by rw [htl] at hj; exact hj
    simp [hj']) (by simpa using htl) inv0 (by rw [htl]; exact hlex) h.out
  refine wp_region_any hm ?_
  have := wpAny_of_head (Q' := Q) (g := l.toArray.size - (n + 1) + 1) (fun listed a' hL => by
    obtain ⟨h1, h2⟩ := hL
    simp only [midFrom, Bool.and_eq_true, decide_eq_true_eq] at h1
    refine ⟨fun h0 => (by rw [h1.1] at h0; cases h0), fun i hi => ?_⟩
    rw [h1.1] at hi
    obtain rfl : i = n := by simpa using hi
    refine wpOp_step (o := o) (by simpa using ho) fun K' hK' => ?_
    refine h2 K' (Lib.hid fun a2 w2 hst => hK' _ _ ?_)
    refine wpAny_of_still (Q := fun a3 => Q .normal a3 w2) (fun _ h => h) _ _ _ ?_
    have hdl : (l.drop (i + 1)).length = l.toArray.size - (i + 1) := by simp
    have := wpAnyS_lex (P := P) (w := w2) (md := .any) (Q := fun a3 => Q .normal a3 w2) hsel (l.drop (i + 1)) (i + 1) (listed.setIfInBounds i true) a2 (fun j => by simp [List.getElem?_drop]) (by rw [hdl]; exact h1.2) hst.out
    rwa [hdl] at this) _ _ _ H
  rw [htl, show n + (l.toArray.size - (n + 1) + 1) = l.toArray.size by have : l.toArray.size = l.length := by simp
                                                                       omega] at this
  exact this
end
end Go.Proofs.Ytcffhfcjfjfokaa
/- Messages in memory; the document's find, the law's sameData and sameDatas. -/
namespace Go.Proofs.Ytcffhfcjfjfokaa
open Go.RowKit
/-- A message: the sender, the number, the stable position, the bytes. -/
structure Dt where
  s : Int
  q : Int
  b : Int
  body : List Int
structure Dr where
  d : Dt
  B : Option Addr
  c : Nat
def eByte (n : Int) : List Value := [.int .u8 n]
def eDr (r : Dr) : List Value := [.int .i64 r.d.s, .int .i64 r.d.q, .int .i64 r.d.b, .slice r.B r.d.body.length r.c]
theorem len_eByte (x : Int) : (eByte x).length = 1 := rfl
theorem one_eByte (x : Int) : ∀ u ∈ eByte x, u.oneCell' = true := by intro u hu; simp [eByte] at hu; subst hu; rfl
theorem len_eDr (x : Dr) : (eDr x).length = 4 := rfl
theorem one_eDr (x : Dr) : ∀ u ∈ eDr x, u.oneCell' = true := by intro u hu; simp [eDr] at hu; rcases hu with rfl | rfl | rfl | rfl <;> rfl
/-- A message's bytes lie there. -/
structure BodyAt (w : World) (N : Nat) (B : Option Addr) (c : Nat) (body : List Int) : Prop where
  row : RowAt w N 1 eByte B body
  len : body.length ≤ c
  cap : c ≤ 9223372036854775807
theorem BodyAt.below {w w' : World} {N N' : Nat} {B : Option Addr} {c : Nat} {body : List Int} (h : BodyAt w N B c body) (hb : Below N' w w') (hN : N ≤ N') : BodyAt w' N B c body := ⟨h.row.below hb hN, h.len, h.cap⟩
theorem BodyAt.more {w : World} {N N' : Nat} {B : Option Addr} {c : Nat} {body : List Int} (h : BodyAt w N B c body) (hN : N ≤ N') : BodyAt w N' B c body := ⟨h.row.more hN, h.len, h.cap⟩
/-- A list of messages. -/
structure Drs (w : World) (N : Nat) (A : Option Addr) (rs : List Dr) : Prop where
  row : RowAt w N 4 eDr A rs
  each : ∀ r ∈ rs, BodyAt w N r.B r.c r.d.body
def Dts (w : World) (N : Nat) (A : Option Addr) (ds : List Dt) : Prop := ∃ rs : List Dr, rs.map Dr.d = ds ∧ Drs w N A rs
theorem Dts.below {w w' : World} {N N' : Nat} {A : Option Addr} {ds : List Dt} (h : Dts w N A ds) (hb : Below N' w w') (hN : N ≤ N') : Dts w' N A ds := by
  obtain ⟨rs, e, h1, h2⟩ := h
  exact ⟨rs, e, h1.below hb hN, fun r hr => (h2 r hr).below hb hN⟩
theorem Dts.more {w : World} {N N' : Nat} {A : Option Addr} {ds : List Dt} (h : Dts w N A ds) (hN : N ≤ N') : Dts w N' A ds := by
  obtain ⟨rs, e, h1, h2⟩ := h
  exact ⟨rs, e, h1.more hN, fun r hr => (h2 r hr).more hN⟩
theorem Dts.at_ {w : World} {N : Nat} {A : Option Addr} {ds : List Dt} (h : Dts w N A ds) {k : Nat} (hk : k < ds.length) :
    ∃ g o d B c, A = some ⟨g, o, none⟩ ∧ g < N ∧ Hid (ds[k]? = some d) ∧ w.cell? ⟨g, o + k * 4, none⟩ = some (.int .i64 d.s) ∧ w.cell? ⟨g, o + k * 4 + 1, none⟩ = some (.int .i64 d.q) ∧ w.cell? ⟨g, o + k * 4 + 2, none⟩ = some (.int .i64 d.b) ∧
      w.cell? ⟨g, o + k * 4 + 3, none⟩ = some (.slice B d.body.length c) ∧ BodyAt w N B c d.body := by
  obtain ⟨rs, rfl, h1, h2⟩ := h
  rw [List.length_map] at hk
  obtain ⟨g, o, e, hg, hc⟩ := h1 (by omega)
  have hr := List.getElem?_eq_getElem hk
  refine ⟨g, o, rs[k].d, rs[k].B, rs[k].c, e, hg, ?_, hc k _ hr 0 _ rfl, hc k _ hr 1 _ rfl, hc k _ hr 2 _ rfl, hc k _ hr 3 _ rfl, h2 _ (List.getElem_mem hk)⟩
  show (rs.map Dr.d)[k]? = _
  rw [List.getElem?_map, hr]; rfl
/-- Bytes as a string. -/
theorem run_body {w : World} {N : Nat} {B : Option Addr} {c : Nat} {body : List Int} (h : RowAt w N 1 eByte B body) : (convert 52 9 (.slice B body.length c)).run Try.prog w = .ok (.string (strOfNums body)) w := by
  by_cases h0 : 0 < body.length
  · obtain ⟨b, off, rfl, hb, hc⟩ := h h0
    exact run_convert_bytes_arg (P := Try.prog) w 52 5 Try.underlying52 Try.underlying5 b off body.length c body rfl (fun i hi => by
      have := hc i body[i] (List.getElem?_eq_getElem hi) 0 _ rfl
      simpa [List.getD, List.getElem?_eq_getElem hi] using this) 9 Try.underlying9
  · obtain rfl : body = [] := List.eq_nil_of_length_eq_zero (by omega)
    cases B with
    | none => exact run_convert_bytes_nil (P := Try.prog) w 52 5 Try.underlying52 Try.underlying5 0 c 9 Try.underlying9
    | some a =>
      rw [run_convert_bytes_string w 52 9 5 _ _ c Try.underlying52 Try.underlying5 Try.underlying9]
      exact run_bytesToString (P := Try.prog) w a 0 c [] (by simp [loadCells, loadCellsFrom])
set_option maxHeartbeats 2000000 in
theorem sameData_yes (d : Dt) (B B' : Option Addr) (c c' N : Nat) (w : World) (hN : N ≤ w.heap.size) (h : RowAt w N 1 eByte B d.body) (h' : RowAt w N 1 eByte B' d.body) :
    Calls Try.prog 58 #[.agg #[.int .i64 d.s, .int .i64 d.q, .int .i64 d.b, .slice B d.body.length c], .agg #[.int .i64 d.s, .int .i64 d.q, .int .i64 d.b, .slice B' d.body.length c']] w fun x w' => x = .returned (.bool true) ∧ Below w.heap.size w w' := by
  have hbx := below_box2 w #[.int .i64 d.s, .int .i64 d.q, .int .i64 d.b, .slice B d.body.length c] 113 #[.int .i64 d.s, .int .i64 d.q, .int .i64 d.b, .slice B' d.body.length c'] 113
  have e1 := run_body (c := c) (h.below hbx hN)
  have e2 := run_body (c := c') (h'.below hbx hN)
  replace hbx := Lib.hid hbx
  go_enter Try.func58, Try.ntmps58
  go_wp2
  go_ret
  exact ⟨rfl, hbx.out⟩
set_option maxRecDepth 100000 in
set_option maxHeartbeats 4000000 in
theorem sameDatas_yes (A B : Option Addr) (cA cB N : Nat) (ds : List Dt) (w : World) (hN : N ≤ w.heap.size) (hA : Dts w N A ds) (hB : Dts w N B ds) (hl : ds.length ≤ 9223372036854775807) :
    Calls Try.prog 22 #[.slice A ds.length cA, .slice B ds.length cB] w fun x w' => x = .returned (.bool true) ∧ Below w.heap.size w w' := by
  go_enter Try.func22, Try.ntmps22
  go_wp2
  go_loopw [5] (fun k wr => ∃ q : Nat, k = .int .i64 q ∧ q ≤ ds.length ∧ Below w.heap.size w wr) (fun k _ => ds.length - (intOf k).toNat)
  case atStart => exact ⟨0, rfl, by omega, Below.refl _ _⟩
  case round =>
    obtain ⟨q, rfl, hq, hb⟩ := hrel
    have hsz := hb.size
    by_cases hlt : q < ds.length
    · obtain ⟨g, o, d, X, c, hAe, hg, hd, c0, c1, c2, c3, hX⟩ := (hA.below hb hN).at_ hlt
      obtain ⟨g', o', d', X', c', hBe, hg', hd', k0, k1, k2, k3, hX'⟩ := (hB.below hb hN).at_ hlt
      obtain rfl : d = d' := by have := hd'.out; rw [hd.out] at this; injection this
      subst hAe hBe
      have h58 := Lib.hid (sameData_yes d X X' c c' N wr.drew (by show N ≤ wr.heap.size; omega) hX.row hX'.row)
      clear hX hX' hA hB
      go_wp2
      refine wp_region_mid 8 (by kernel_rfl) rfl (by kernel_rfl) ?_
      simp only [List.take_succ_cons, List.take_zero]
      repeat (refine WS.step (fun K hK => ?_); go_simp; refine hK.out _ ?_; clear hK K)
      refine WS.nil ?_
      intro K hK
      go_simp
      go_at_call 58
      refine h58.out.mono ?_
      rintro e w2 ⟨rfl, hbw2⟩
      go_wp2_with fail
      refine hK.out _ _ ?_
      clear hK K
      have hb2 := (Below.drew hb).trans (hbw2.mono (by show _ ≤ wr.heap.size; omega))
      simp only [List.drop_succ_cons, List.drop_zero]
      repeat (refine WS.step (fun K hK => ?_); go_simp; refine hK.out _ ?_; clear hK K)
      refine WS.nil ?_
      go_wp2
      go_roundw
      case rel => go_light; exact ⟨q + 1, by go_num, by omega, hb2⟩
      case measure => go_light; simp [intOf]; omega
    · go_wp2
      go_ret
      exact ⟨rfl, hb⟩
/-- The first message of that sender and number; -1: there is none. -/
def FindIs (ds : List Dt) (s q r : Int) : Prop := (r = -1 ∧ ∀ d ∈ ds, ¬ (d.s = s ∧ d.q = q)) ∨ (∃ (i : Nat) (d : Dt), ds[i]? = some d ∧ d.s = s ∧ d.q = q ∧ r = i ∧ upto (fun d => ¬ (d.s = s ∧ d.q = q)) ds i)
set_option maxRecDepth 100000 in
set_option maxHeartbeats 4000000 in
theorem find_any (A : Option Addr) (cA N : Nat) (ds : List Dt) (s q : Int) (w : World) (hN : N ≤ w.heap.size) (hA : Dts w N A ds) (hl : ds.length ≤ 9223372036854775807) :
    Calls Try.prog 56 #[.slice A ds.length cA, .agg #[.int .i64 s, .int .i64 q]] w fun x w' => (∃ r, x = .returned (.int .i64 r) ∧ FindIs ds s q r) ∧ Below w.heap.size w w' := by
  go_enter Try.func56, Try.ntmps56
  go_wp2
  go_loopw [5] (fun k wr => ∃ i : Nat, k = .int .i64 i ∧ i ≤ ds.length ∧ upto (fun d => ¬ (d.s = s ∧ d.q = q)) ds i ∧ Below (w.heap.size + 1) (box1 w #[.int .i64 s, .int .i64 q] 66) wr) (fun k _ => ds.length - (intOf k).toNat)
  case atStart => exact ⟨0, rfl, by omega, upto_zero _ _, Below.refl _ _⟩
  case round =>
    obtain ⟨i, rfl, hi, hup, hb⟩ := hrel
    replace hup := Lib.hid hup
    obtain ⟨hb0, hc, -, hsz⟩ := box1_facts hb
    have e0 := hc 0
    have e1 := hc 1
    simp at e0 e1
    clear hc
    by_cases hlt : i < ds.length
    · obtain ⟨g, o, d, X, c, hAe, hg, hd, c0, c1, c2, c3, hX⟩ := (hA.below hb0 hN).at_ hlt
      subst hAe
      clear hA hX
      by_cases h1 : d.s = s
      · by_cases h2 : d.q = q
        · have hF := Lib.hid (show FindIs ds s q i from .inr ⟨i, d, hd.out, h1, h2, rfl, hup.out⟩)
          have t1 : (d.s == s) = true := by simpa using h1
          have t2 : (d.q == q) = true := by simpa using h2
          clear h1 h2
          go_wp2
          go_quiet (fail)
          go_wp2
          go_ret
          exact ⟨⟨i, rfl, hF.out⟩, below_drewN hb0 _⟩
        · have hne := Lib.hid (show ¬ (d.s = s ∧ d.q = q) from fun h => h2 h.2)
          have t1 : (d.s == s) = true := by simpa using h1
          have t2 : (d.q == q) = false := by simpa using h2
          clear h1 h2
          go_wp2
          go_quiet (fail)
          go_wp2
          go_roundw
          case rel => go_light; exact ⟨i + 1, by go_num, by omega, upto_succ hup.out (fun z hz => by rw [hd.out] at hz; cases hz; exact hne.out), below_drewN hb _⟩
          case measure => go_light; simp [intOf]; omega
      · have hne := Lib.hid (show ¬ (d.s = s ∧ d.q = q) from fun h => h1 h.1)
        have t1 : (d.s == s) = false := by simpa using h1
        clear h1
        go_wp2
        go_quiet (fail)
        go_wp2
        go_roundw
        case rel => go_light; exact ⟨i + 1, by go_num, by omega, upto_succ hup.out (fun z hz => by rw [hd.out] at hz; cases hz; exact hne.out), below_drewN hb _⟩
        case measure => go_light; simp [intOf]; omega
    · have hF := Lib.hid (show FindIs ds s q (-1) from .inl ⟨rfl, upto_all hup.out (by omega)⟩)
      go_wp2
      go_ret
      exact ⟨⟨-1, rfl, hF.out⟩, hb0⟩
end Go.Proofs.Ytcffhfcjfjfokaa
/- The law's one: a content of its own. -/
namespace Go.Proofs.Ytcffhfcjfjfokaa
open Go.RowKit
/-- What a cell holds. -/
def celOf (W : World) (a : Addr) : Value := (W.cell? a).getD undef
theorem celOf_some {W : World} {a : Addr} (h : (W.cell? a).isSome = true) : W.cell? a = some (celOf W a) := by
  unfold celOf
  obtain ⟨u, hu⟩ := Option.isSome_iff_exists.1 h
  rw [hu]; rfl
/-- The world stands as the call found it, with its two boxes behind. -/
structure OneT (w : World) (F : Array Value) (W : World) : Prop where
  bel : Below (w.heap.size + 1) (box1 w F 39) W
  there : ∀ j, j < 7 → (W.cell? ⟨w.heap.size + 1, j, none⟩).isSome = true ∧ W.frozen? ⟨w.heap.size + 1, j, none⟩ = false
  size : w.heap.size + 2 ≤ W.heap.size
theorem OneT.drew {w W : World} {F : Array Value} (h : OneT w F W) : OneT w F W.drew := ⟨Below.drew h.bel, h.there, h.size⟩
theorem OneT.below {w W W' : World} {F : Array Value} (h : OneT w F W) (hb : Below W.heap.size W W') : OneT w F W' := by
  have hs := h.size
  refine ⟨h.bel.trans (hb.mono (by omega)), fun j hj => ?_, Nat.le_trans hs hb.size⟩
  rw [hb.cell (p := ⟨w.heap.size + 1, j, none⟩) (by show w.heap.size + 1 < _; omega), hb.frozen (p := ⟨w.heap.size + 1, j, none⟩) (by show w.heap.size + 1 < _; omega)]
  exact h.there j hj
theorem OneT.alloc {w W : World} {F : Array Value} (h : OneT w F W) (o : Obj) : OneT w F (W.alloc o) := h.below ((Below.refl _ _).alloc (Nat.le_refl _) _)
theorem OneT.undrew {w W : World} {F : Array Value} (h : OneT w F W.drew) : OneT w F W := ⟨⟨h.bel.os, h.bel.tape, h.bel.output, h.bel.size, h.bel.block⟩, h.there, h.size⟩
theorem OneT.allocD {w W : World} {F : Array Value} (h : OneT w F W.drew) (o : Obj) : OneT w F (W.alloc o).drew := (h.undrew.alloc o).drew
theorem OneT.set {w W : World} {F : Array Value} (h : OneT w F W) (k : Nat) (v : Value) : OneT w F (W.setCell ⟨w.heap.size + 1, k, none⟩ v) := by
  refine ⟨h.bel.setCell (by show w.heap.size + 1 ≤ w.heap.size + 1; omega) _, fun j hj => ?_, by rw [World.size_setCell]; exact h.size⟩
  rw [World.frozen?_setCell]
  refine ⟨?_, (h.there j hj).2⟩
  obtain ⟨u, hu⟩ := Option.isSome_iff_exists.1 (h.there j hj).1
  obtain ⟨v', hv'⟩ := RowKit.cell?_setCell_some (p := ⟨w.heap.size + 1, k, none⟩) (x := v) hu
  rw [hv']; rfl
theorem OneT.set_true {w W : World} {F : Array Value} (k : Nat) (v : Value) (h : OneT w F W) : OneT w F (W.setCell ⟨w.heap.size + 1, k, none⟩ v) = True := eq_true (h.set k v)
theorem OneT.set7 {w W : World} {F : Array Value} (h : OneT w F W) (v0 v1 v2 v3 v4 v5 v6 : Value) : OneT w F ((((((((W.setCell ⟨w.heap.size + 1, 0, none⟩ v0).setCell ⟨w.heap.size + 1, 1, none⟩ v1).setCell ⟨w.heap.size + 1, 2, none⟩ v2).setCell ⟨w.heap.size + 1, 3, none⟩ v3).setCell ⟨w.heap.size + 1, 4, none⟩ v4).setCell ⟨w.heap.size + 1, 5, none⟩ v5).setCell ⟨w.heap.size + 1, 6, none⟩ v6)) :=
  ((((((h.set 0 v0).set 1 v1).set 2 v2).set 3 v3).set 4 v4).set 5 v5).set 6 v6
theorem OneT.read {w W : World} {F : Array Value} (h : OneT w F W) (v0 v1 v2 v3 v4 v5 v6 : Value) :
    ((((((((W.setCell ⟨w.heap.size + 1, 0, none⟩ v0).setCell ⟨w.heap.size + 1, 1, none⟩ v1).setCell ⟨w.heap.size + 1, 2, none⟩ v2).setCell ⟨w.heap.size + 1, 3, none⟩ v3).setCell ⟨w.heap.size + 1, 4, none⟩ v4).setCell ⟨w.heap.size + 1, 5, none⟩ v5).setCell ⟨w.heap.size + 1, 6, none⟩ v6)).cell? ⟨w.heap.size + 1, 0, none⟩ = some v0 ∧ ((((((((W.setCell ⟨w.heap.size + 1, 0, none⟩ v0).setCell ⟨w.heap.size + 1, 1, none⟩ v1).setCell ⟨w.heap.size + 1, 2, none⟩ v2).setCell ⟨w.heap.size + 1, 3, none⟩ v3).setCell ⟨w.heap.size + 1, 4, none⟩ v4).setCell ⟨w.heap.size + 1, 5, none⟩ v5).setCell ⟨w.heap.size + 1, 6, none⟩ v6)).cell? ⟨w.heap.size + 1, 1, none⟩ = some v1 ∧ ((((((((W.setCell ⟨w.heap.size + 1, 0, none⟩ v0).setCell ⟨w.heap.size + 1, 1, none⟩ v1).setCell ⟨w.heap.size + 1, 2, none⟩ v2).setCell ⟨w.heap.size + 1, 3, none⟩ v3).setCell ⟨w.heap.size + 1, 4, none⟩ v4).setCell ⟨w.heap.size + 1, 5, none⟩ v5).setCell ⟨w.heap.size + 1, 6, none⟩ v6)).cell? ⟨w.heap.size + 1, 2, none⟩ = some v2 ∧ ((((((((W.setCell ⟨w.heap.size + 1, 0, none⟩ v0).setCell ⟨w.heap.size + 1, 1, none⟩ v1).setCell ⟨w.heap.size + 1, 2, none⟩ v2).setCell ⟨w.heap.size + 1, 3, none⟩ v3).setCell ⟨w.heap.size + 1, 4, none⟩ v4).setCell ⟨w.heap.size + 1, 5, none⟩ v5).setCell ⟨w.heap.size + 1, 6, none⟩ v6)).cell? ⟨w.heap.size + 1, 3, none⟩ = some v3 ∧ ((((((((W.setCell ⟨w.heap.size + 1, 0, none⟩ v0).setCell ⟨w.heap.size + 1, 1, none⟩ v1).setCell ⟨w.heap.size + 1, 2, none⟩ v2).setCell ⟨w.heap.size + 1, 3, none⟩ v3).setCell ⟨w.heap.size + 1, 4, none⟩ v4).setCell ⟨w.heap.size + 1, 5, none⟩ v5).setCell ⟨w.heap.size + 1, 6, none⟩ v6)).cell? ⟨w.heap.size + 1, 4, none⟩ = some v4 ∧ ((((((((W.setCell ⟨w.heap.size + 1, 0, none⟩ v0).setCell ⟨w.heap.size + 1, 1, none⟩ v1).setCell ⟨w.heap.size + 1, 2, none⟩ v2).setCell ⟨w.heap.size + 1, 3, none⟩ v3).setCell ⟨w.heap.size + 1, 4, none⟩ v4).setCell ⟨w.heap.size + 1, 5, none⟩ v5).setCell ⟨w.heap.size + 1, 6, none⟩ v6)).cell? ⟨w.heap.size + 1, 5, none⟩ = some v5 ∧ ((((((((W.setCell ⟨w.heap.size + 1, 0, none⟩ v0).setCell ⟨w.heap.size + 1, 1, none⟩ v1).setCell ⟨w.heap.size + 1, 2, none⟩ v2).setCell ⟨w.heap.size + 1, 3, none⟩ v3).setCell ⟨w.heap.size + 1, 4, none⟩ v4).setCell ⟨w.heap.size + 1, 5, none⟩ v5).setCell ⟨w.heap.size + 1, 6, none⟩ v6)).cell? ⟨w.heap.size + 1, 6, none⟩ = some v6 := by
  have d0 := celOf_some (h.there 0 (by omega)).1
  have d1 := celOf_some (h.there 1 (by omega)).1
  have d2 := celOf_some (h.there 2 (by omega)).1
  have d3 := celOf_some (h.there 3 (by omega)).1
  have d4 := celOf_some (h.there 4 (by omega)).1
  have d5 := celOf_some (h.there 5 (by omega)).1
  have d6 := celOf_some (h.there 6 (by omega)).1
  refine ⟨?_, ?_, ?_, ?_, ?_, ?_, ?_⟩ <;> simp [go_sem, d0, d1, d2, d3, d4, d5, d6]
/-- What one answers: the same content, in lists of its own. -/
def OnePost (f : Fl) (w : World) (x : Ending) (w' : World) : Prop := (∃ X cX Y cY, x = .returned (.agg (flc f.e f.l f.i f.c f.base X f.slots.length cX Y f.have_.length cY)) ∧ FlRows w' w'.heap.size f X cX Y cY ∧ FRow w' w.heap.size 2 eSlot X f.slots ∧ FRow w' w.heap.size 1 eInt Y f.have_) ∧ Below w.heap.size w w'
abbrev onez : Array Value := #[.int .i64 0, .int .i64 0, .int .i64 0, .int .i64 0, .int .i64 0, .slice none 0 0, .slice none 0 0]
set_option maxRecDepth 100000 in
set_option maxHeartbeats 4000000 in
theorem one_any (f : Fl) (A B : Option Addr) (cA cB N : Nat) (w : World) (hN : N ≤ w.heap.size) (hr : FlRows w N f A cA B cB) (hbS : f.slots.length * 16 ≤ 140737488351232) (hbH : f.have_.length * 8 ≤ 140737488351232) :
    Calls Try.prog 38 #[.agg (flc f.e f.l f.i f.c f.base A f.slots.length cA B f.have_.length cB)] w (OnePost f w) := by
  have h0 : OneT w (flc f.e f.l f.i f.c f.base A f.slots.length cA B f.have_.length cB) ((box1 w (flc f.e f.l f.i f.c f.base A f.slots.length cA B f.have_.length cB) 39).alloc (.cells onez 39)) := ⟨(Below.refl _ _).alloc (by simp) _, fun j hj => by
    refine ⟨?_, World.frozen?_alloc_at _ _ _ _ (by simp)⟩
    rw [World.cell?_alloc_at _ _ _ _ (by simp)]
    match j, hj with
    | 0, _ | 1, _ | 2, _ | 3, _ | 4, _ | 5, _ | 6, _ => rfl, by simp⟩
  have hall : ∀ W : World, OneT w (flc f.e f.l f.i f.c f.base A f.slots.length cA B f.have_.length cB) W → (OneT w (flc f.e f.l f.i f.c f.base A f.slots.length cA B f.have_.length cB) W ∧ W.cell? ⟨w.heap.size, 0, none⟩ = some (.int .i64 f.e) ∧ W.cell? ⟨w.heap.size, 1, none⟩ = some (.int .i64 f.l) ∧ W.cell? ⟨w.heap.size, 2, none⟩ = some (.int .i64 f.i) ∧ W.cell? ⟨w.heap.size, 3, none⟩ = some (.int .i64 f.c) ∧ W.cell? ⟨w.heap.size, 4, none⟩ = some (.int .i64 f.base) ∧ W.cell? ⟨w.heap.size, 5, none⟩ = some (.slice A f.slots.length cA) ∧ W.cell? ⟨w.heap.size, 6, none⟩ = some (.slice B f.have_.length cB) ∧ W.cell? ⟨w.heap.size + 1, 0, none⟩ = some (celOf W ⟨w.heap.size + 1, 0, none⟩) ∧ W.cell? ⟨w.heap.size + 1, 1, none⟩ = some (celOf W ⟨w.heap.size + 1, 1, none⟩) ∧ W.cell? ⟨w.heap.size + 1, 2, none⟩ = some (celOf W ⟨w.heap.size + 1, 2, none⟩) ∧ W.cell? ⟨w.heap.size + 1, 3, none⟩ = some (celOf W ⟨w.heap.size + 1, 3, none⟩) ∧ W.cell? ⟨w.heap.size + 1, 4, none⟩ = some (celOf W ⟨w.heap.size + 1, 4, none⟩) ∧ W.cell? ⟨w.heap.size + 1, 5, none⟩ = some (celOf W ⟨w.heap.size + 1, 5, none⟩) ∧ W.cell? ⟨w.heap.size + 1, 6, none⟩ = some (celOf W ⟨w.heap.size + 1, 6, none⟩) ∧ W.frozen? ⟨w.heap.size + 1, 0, none⟩ = false ∧ W.frozen? ⟨w.heap.size + 1, 1, none⟩ = false ∧ W.frozen? ⟨w.heap.size + 1, 2, none⟩ = false ∧ W.frozen? ⟨w.heap.size + 1, 3, none⟩ = false ∧ W.frozen? ⟨w.heap.size + 1, 4, none⟩ = false ∧ W.frozen? ⟨w.heap.size + 1, 5, none⟩ = false ∧ W.frozen? ⟨w.heap.size + 1, 6, none⟩ = false) := fun W h => by
    obtain ⟨-, hc, -, -⟩ := box1_facts h.bel
    exact ⟨h, hc 0, hc 1, hc 2, hc 3, hc 4, hc 5, hc 6, celOf_some (h.there 0 (by omega)).1, celOf_some (h.there 1 (by omega)).1, celOf_some (h.there 2 (by omega)).1, celOf_some (h.there 3 (by omega)).1, celOf_some (h.there 4 (by omega)).1, celOf_some (h.there 5 (by omega)).1, celOf_some (h.there 6 (by omega)).1,
      (h.there 0 (by omega)).2, (h.there 1 (by omega)).2, (h.there 2 (by omega)).2, (h.there 3 (by omega)).2, (h.there 4 (by omega)).2, (h.there 5 (by omega)).2, (h.there 6 (by omega)).2⟩
  have hS : ∀ W : World, OneT w (flc f.e f.l f.i f.c f.base A f.slots.length cA B f.have_.length cB) W → RowAt W N 2 eSlot A f.slots := fun W h => hr.slots.below (box1_facts h.bel).1 hN
  have hH : ∀ W : World, OneT w (flc f.e f.l f.i f.c f.base A f.slots.length cA B f.have_.length cB) W → RowAt W N 1 eInt B f.have_ := fun W h => hr.have_.below (box1_facts h.bel).1 hN
  obtain ⟨-, -, hlS, hcS, hlH, hcH⟩ := hr
  replace hall := Lib.hid hall
  replace hS := Lib.hid hS
  replace hH := Lib.hid hH
  have h0d := h0.drew
  go_enter Try.func38, Try.ntmps38
  go_wp2_with fail
  go_region_held3 (fun W => OneT w (flc f.e f.l f.i f.c f.base A f.slots.length cA B f.have_.length cB) W ∧ W.cell? ⟨w.heap.size, 0, none⟩ = some (.int .i64 f.e) ∧ W.cell? ⟨w.heap.size, 1, none⟩ = some (.int .i64 f.l) ∧ W.cell? ⟨w.heap.size, 2, none⟩ = some (.int .i64 f.i) ∧ W.cell? ⟨w.heap.size, 3, none⟩ = some (.int .i64 f.c) ∧ W.cell? ⟨w.heap.size, 4, none⟩ = some (.int .i64 f.base) ∧ W.cell? ⟨w.heap.size, 5, none⟩ = some (.slice A f.slots.length cA) ∧ W.cell? ⟨w.heap.size, 6, none⟩ = some (.slice B f.have_.length cB) ∧ W.cell? ⟨w.heap.size + 1, 0, none⟩ = some (celOf W ⟨w.heap.size + 1, 0, none⟩) ∧ W.cell? ⟨w.heap.size + 1, 1, none⟩ = some (celOf W ⟨w.heap.size + 1, 1, none⟩) ∧ W.cell? ⟨w.heap.size + 1, 2, none⟩ = some (celOf W ⟨w.heap.size + 1, 2, none⟩) ∧ W.cell? ⟨w.heap.size + 1, 3, none⟩ = some (celOf W ⟨w.heap.size + 1, 3, none⟩) ∧ W.cell? ⟨w.heap.size + 1, 4, none⟩ = some (celOf W ⟨w.heap.size + 1, 4, none⟩) ∧ W.cell? ⟨w.heap.size + 1, 5, none⟩ = some (celOf W ⟨w.heap.size + 1, 5, none⟩) ∧ W.cell? ⟨w.heap.size + 1, 6, none⟩ = some (celOf W ⟨w.heap.size + 1, 6, none⟩) ∧ W.frozen? ⟨w.heap.size + 1, 0, none⟩ = false ∧ W.frozen? ⟨w.heap.size + 1, 1, none⟩ = false ∧ W.frozen? ⟨w.heap.size + 1, 2, none⟩ = false ∧ W.frozen? ⟨w.heap.size + 1, 3, none⟩ = false ∧ W.frozen? ⟨w.heap.size + 1, 4, none⟩ = false ∧ W.frozen? ⟨w.heap.size + 1, 5, none⟩ = false ∧ W.frozen? ⟨w.heap.size + 1, 6, none⟩ = false)
    ((refine hall.out _ ?_; first | (have hO := (‹OneT w _ _ ∧ _›).1; simp (config := { maxDischargeDepth := 20 }) only [OneT.set_true, hO]; done) | with_reducible exact h0d | (with_reducible refine OneT.alloc ?_ _; exact (‹OneT w _ _ ∧ _›).1) | (with_reducible refine OneT.allocD ?_ _; exact (‹OneT w _ _ ∧ _›).1) | (with_reducible refine OneT.below ?_ hb1; exact (‹OneT w _ _ ∧ _›).1) | (with_reducible refine OneT.below ?_ hb2; exact (‹OneT w _ _ ∧ _›).1) | (with_reducible refine OneT.set7 ?_ _ _ _ _ _ _ _; exact (‹OneT w _ _ ∧ _›).1)))
    (first
      | (refine step_append_fresh rfl (.tmp 7) (.tmp 9) 36 rfl 66 2 16 _ Try.underlying36 info66 rfl (by decide) eSlot len_eSlot one_eSlot _ A cA N f.slots.length f.slots rfl rfl rfl (hS.out _ (‹OneT w _ _ ∧ _›).1) (by omega) (by omega) ?_; intro A1 c1 w1 hr1 hl1 hm1 hb1; replace hr1 := Lib.hid hr1)
      | (refine step_append_fresh rfl (.tmp 11) (.tmp 13) 37 rfl 3 1 8 _ Try.underlying37 info3 rfl (by decide) eInt len_eInt one_eInt _ B cB N f.have_.length f.have_ rfl rfl rfl (hH.out _ (‹OneT w _ _ ∧ _›).1) (by omega) (by omega) ?_; intro A2 c2 w2 hr2 hl2 hm2 hb2; replace hr2 := Lib.hid hr2))
  all_goals clear hall hS hH
  all_goals (first
    | (have hAll : OneT w (flc f.e f.l f.i f.c f.base A f.slots.length cA B f.have_.length cB) w2 ∧ FRow w2 (w.heap.size + 2) 2 eSlot A1 f.slots ∧ FRow w2 (w.heap.size + 2) 1 eInt A2 f.have_ := ⟨(((h0.alloc _).drew.below hb1).alloc _).below hb2, FRow.lower ((hr1.out.below ((Below.refl _ _).alloc (Nat.le_refl _) _)).below hb2) (by have h1 := hb1.size; have h2 := hb2.size; simp at h1 h2 ⊢; try omega), FRow.lower (hr2.out) (by have h1 := hb1.size; have h2 := hb2.size; simp at h1 h2 ⊢; try omega)⟩; obtain ⟨hO, hR1, hR2⟩ := hAll)
    | (have hAll : OneT w (flc f.e f.l f.i f.c f.base A f.slots.length cA B f.have_.length cB) w2 ∧ FRow w2 (w.heap.size + 2) 2 eSlot A1 f.slots ∧ FRow w2 (w.heap.size + 2) 1 eInt A2 f.have_ := ⟨((((h0.alloc _).alloc _).drew).below hb1).below hb2, FRow.lower (hr1.out.below hb2) (by have h1 := hb1.size; have h2 := hb2.size; simp at h1 h2 ⊢; try omega), FRow.lower (hr2.out) (by have h1 := hb1.size; have h2 := hb2.size; simp at h1 h2 ⊢; try omega)⟩; obtain ⟨hO, hR1, hR2⟩ := hAll)
    | (have hAll : OneT w (flc f.e f.l f.i f.c f.base A f.slots.length cA B f.have_.length cB) w1 ∧ FRow w1 (w.heap.size + 2) 2 eSlot A1 f.slots ∧ FRow w1 (w.heap.size + 2) 1 eInt A2 f.have_ := ⟨((((h0.alloc _).alloc _).drew).below hb2).below hb1, FRow.lower (hr1.out) (by have h1 := hb1.size; have h2 := hb2.size; simp at h1 h2 ⊢; try omega), FRow.lower (hr2.out.below hb1) (by have h1 := hb1.size; have h2 := hb2.size; simp at h1 h2 ⊢; try omega)⟩; obtain ⟨hO, hR1, hR2⟩ := hAll)
    | (have hAll : OneT w (flc f.e f.l f.i f.c f.base A f.slots.length cA B f.have_.length cB) w1 ∧ FRow w1 (w.heap.size + 2) 2 eSlot A1 f.slots ∧ FRow w1 (w.heap.size + 2) 1 eInt A2 f.have_ := ⟨(((h0.alloc _).drew.below hb2).alloc _).below hb1, FRow.lower (hr1.out) (by have h1 := hb1.size; have h2 := hb2.size; simp at h1 h2 ⊢; try omega), FRow.lower ((hr2.out.below ((Below.refl _ _).alloc (Nat.le_refl _) _)).below hb1) (by have h1 := hb1.size; have h2 := hb2.size; simp at h1 h2 ⊢; try omega)⟩; obtain ⟨hO, hR1, hR2⟩ := hAll))
  all_goals
    obtain ⟨r0, r1, r2, r3, r4, r5, r6⟩ := hO.read (.int .i64 f.e) (.int .i64 f.l) (.int .i64 f.i) (.int .i64 f.c) (.int .i64 f.base) (.slice A1 f.slots.length c1) (.slice A2 f.have_.length c2)
    have hO7 := hO.set7 (.int .i64 f.e) (.int .i64 f.l) (.int .i64 f.i) (.int .i64 f.c) (.int .i64 f.base) (.slice A1 f.slots.length c1) (.slice A2 f.have_.length c2)
    have hF1 := (((((((hR1.setCell (p := ⟨w.heap.size + 1, 0, none⟩) (Nat.lt_succ_self _) (.int .i64 f.e)).setCell (p := ⟨w.heap.size + 1, 1, none⟩) (Nat.lt_succ_self _) (.int .i64 f.l)).setCell (p := ⟨w.heap.size + 1, 2, none⟩) (Nat.lt_succ_self _) (.int .i64 f.i)).setCell (p := ⟨w.heap.size + 1, 3, none⟩) (Nat.lt_succ_self _) (.int .i64 f.c)).setCell (p := ⟨w.heap.size + 1, 4, none⟩) (Nat.lt_succ_self _) (.int .i64 f.base)).setCell (p := ⟨w.heap.size + 1, 5, none⟩) (Nat.lt_succ_self _) (.slice A1 f.slots.length c1)).setCell (p := ⟨w.heap.size + 1, 6, none⟩) (Nat.lt_succ_self _) (.slice A2 f.have_.length c2))
    have hF2 := (((((((hR2.setCell (p := ⟨w.heap.size + 1, 0, none⟩) (Nat.lt_succ_self _) (.int .i64 f.e)).setCell (p := ⟨w.heap.size + 1, 1, none⟩) (Nat.lt_succ_self _) (.int .i64 f.l)).setCell (p := ⟨w.heap.size + 1, 2, none⟩) (Nat.lt_succ_self _) (.int .i64 f.i)).setCell (p := ⟨w.heap.size + 1, 3, none⟩) (Nat.lt_succ_self _) (.int .i64 f.c)).setCell (p := ⟨w.heap.size + 1, 4, none⟩) (Nat.lt_succ_self _) (.int .i64 f.base)).setCell (p := ⟨w.heap.size + 1, 5, none⟩) (Nat.lt_succ_self _) (.slice A1 f.slots.length c1)).setCell (p := ⟨w.heap.size + 1, 6, none⟩) (Nat.lt_succ_self _) (.slice A2 f.have_.length c2))
    have hb9 := (box1_facts hO7.bel).1
    have hz9 := hO7.size
    clear hb1 hb2 hr1 hr2 hR1 hR2 hO h0 h0d
    go_wp2
    refine bodyPost_ret (v := .agg #[.int .i64 f.e, .int .i64 f.l, .int .i64 f.i, .int .i64 f.c, .int .i64 f.base, .slice A1 f.slots.length c1, .slice A2 f.have_.length c2]) (by simp [results, Try.results38, go_sem, r0, r1, r2, r3, r4, r5, r6]) rfl ?_
    exact ⟨⟨A1, c1, A2, c2, rfl, ⟨hF1.row, hF2.row, hl1, hm1, hl2, hm2⟩, hF1.lower (by omega), hF2.lower (by omega)⟩, hb9⟩
end Go.Proofs.Ytcffhfcjfjfokaa
/- What the law's twins answers: every content twice over, in lists of its own. -/
namespace Go.Proofs.Ytcffhfcjfjfokaa
open Go.RowKit
theorem info39 : (Try.prog.info? 39).map (fun i => (i.zero, i.size, i.bytes)) = some (some (.agg #[.int .i64 0, .int .i64 0, .int .i64 0, .int .i64 0, .int .i64 0, .slice none 0 0, .slice none 0 0]), 7, 88) := by kernel_rfl
theorem info57 : (Try.prog.info? 57).map (fun i => (i.zero, i.size, i.bytes)) = some (some (.agg #[.int .i64 0, .int .i64 0, .int .i64 0, .int .i64 0, .int .i64 0, .slice none 0 0, .slice none 0 0, .slice none 0 0, .slice none 0 0]), 9, 136) := by kernel_rfl
theorem len_flTw (x : Tw) : (flTw x).length = 7 := rfl
theorem len_eTw (x : Tw) : (eTw x).length = 9 := rfl
theorem one_flTw (x : Tw) : ∀ u ∈ flTw x, u.oneCell' = true := by intro u hu; simp [flTw] at hu; rcases hu with rfl | rfl | rfl | rfl | rfl | rfl | rfl <;> rfl
theorem one_eTw (x : Tw) : ∀ u ∈ eTw x, u.oneCell' = true := by intro u hu; simp [eTw] at hu; rcases hu with rfl | rfl | rfl | rfl | rfl | rfl | rfl | rfl | rfl <;> rfl
theorem TwOwn.keep {w w' : World} {base B : Nat} {t : Tw} (h : TwOwn w base t) (hb : Below B w w') (h2 : t.g2 < B) (h4 : t.g4 < B) : TwOwn w' base t :=
  ⟨h.s.keep hb (by intro k hk; simp [blk] at hk; omega), h.h.keep hb (by intro k hk; simp [blk] at hk; omega)⟩
theorem TwOwn.lt {w : World} {base : Nat} {t : Tw} (h : TwOwn w base t) : t.g2 < w.heap.size ∧ t.g4 < w.heap.size :=
  ⟨(h.s.lo t.g2 rfl).2, (h.h.lo t.g4 rfl).2⟩
theorem TwOwn.alloc {w : World} {base : Nat} {t : Tw} (h : TwOwn w base t) (o : Obj) : TwOwn (w.alloc o) base t := ⟨h.s.alloc o, h.h.alloc o⟩
theorem TwOwn.kept {w w' : World} {base : Nat} {t : Tw} {row : Option Nat} (h : TwOwn w base t) (hg : w.grownBy w' row) (h2 : some t.g2 ≠ row) (h4 : some t.g4 ≠ row) : TwOwn w' base t :=
  ⟨h.s.kept hg (.inr h2), h.h.kept hg (.inr h4)⟩
theorem TwOwn.lower {w : World} {base base' : Nat} {t : Tw} (h : TwOwn w base t) (hb : base' ≤ base) : TwOwn w base' t := ⟨h.s.lower hb, h.h.lower hb⟩
theorem TwOwn.beside {w w' : World} {base base' e sz : Nat} {α : Type} {enc : α → List Value} {T : Option Addr} {c : Nat} {l : List α} {t : Tw} (h : TwOwn w base t) (ho : Owns w base' e sz enc T c l) (hg : w.grownBy w' (blk T)) (h1 : 66 ≠ e) (h2 : 3 ≠ e) : TwOwn w' base t :=
  ⟨h.s.kept hg (h.s.ne ho h1), h.h.kept hg (h.h.ne ho h2)⟩
theorem row_new_at {α : Type} (w : World) (e : TypeId) (sz : Nat) (enc : α → List Value) (x : α) (cs : Array Value) (hcs : cs.toList = enc x) {g : Nat} (hg : g = w.heap.size) : RowAt (w.alloc (.cells cs e)) (g + 1) sz enc (some ⟨g, 0, none⟩) [x] := by
  subst hg; exact row_new w e sz enc x cs hcs
/-- The contents' lists are small enough. -/
def Small (fs : List Fl) : Prop := fs.length ≤ 1048576 ∧ ∀ f ∈ fs, f.slots.length ≤ 1048576 ∧ f.have_.length ≤ 1048576
structure TwRel (w wr : World) (fs : List Fl) (q : Nat) (ts : List Tw) (T : Option Addr) (cT : Nat) (I : Option Addr) (cI : Nat) : Prop where
  len : ts.length = q
  fst : ts.map Tw.f = fs.take q
  own : Owns wr w.heap.size 57 9 eTw T cT ts
  inn : Owns wr w.heap.size 39 7 flTw I cI ts
  each : ∀ t ∈ ts, TwOwn wr w.heap.size t
  bel : Below w.heap.size w wr
def TwinsPost (fs : List Fl) (w : World) (e : Ending) (w' : World) : Prop := ∃ (ts : List Tw) (T : Option Addr) (cT : Nat) (I : Option Addr) (cI : Nat), e = .returned (.tuple #[.slice T fs.length cT, .slice I fs.length cI]) ∧ ts.map Tw.f = fs ∧ TwRel w w' fs fs.length ts T cT I cI
set_option maxRecDepth 100000 in
set_option maxHeartbeats 4000000 in
theorem twins_any (A : Option Addr) (cA N : Nat) (fs : List Fl) (w : World) (hN : N ≤ w.heap.size) (hA : Fls w N A fs) (hsm : Small fs) :
    Calls Try.prog 13 #[.slice A fs.length cA] w (TwinsPost fs w) := by
  obtain ⟨hl, hsm⟩ := hsm
  go_enter Try.func13, Try.ntmps13
  go_wp2
  go_loopw [4, 5, 6] (fun t n k wr => ∃ (q : Nat) (ts : List Tw) (T : Option Addr) (cT : Nat) (I : Option Addr) (cI : Nat), k = .int .i64 q ∧ q ≤ fs.length ∧ t = .slice T q cT ∧ n = .slice I q cI ∧ TwRel w wr fs q ts T cT I cI) (fun _ _ k _ => fs.length - (intOf k).toNat)
  case atStart => exact ⟨0, [], none, 0, some ⟨w.heap.size, 0, none⟩, 0, rfl, by omega, rfl, rfl, ⟨rfl, by simp, owns_nil _ _ _ _ _, owns_empty _ _ _ _ _ (Nat.le_refl _), by simp, (Below.refl _ _).alloc (Nat.le_refl _) _⟩⟩
  case round =>
    obtain ⟨q, ts, T, cT, I, cI, rfl, hq, rfl, rfl, hR⟩ := hrel
    have hb := hR.bel
    have hsz := hb.size
    by_cases hlt : q < fs.length
    · obtain ⟨g, o, f, X, cX, Y, cY, rfl, hg, hf, ⟨c0, c1, c2, c3, c4, c5, c6⟩, hr⟩ := (hA.below hb hN).at_ hlt
      obtain ⟨s1, s2⟩ := hsm f (List.mem_of_getElem? hf.out)
      have hgw : g < wr.heap.size := by omega
      clear hsm hA
      have hTb := hR.own.lo
      have hIb := hR.inn.lo
      go_wp2_with (first | (go_at_call 23; refine (twin_any f X Y cX cY N _ (by omega) hr (by omega) (by omega)).mono ?_; rintro e w' ⟨t, rfl, rfl, htw, hbw⟩; have hbs := hbw.size; have ho1 := ((hR.own.keep hbw (fun k hk => (hTb k hk).2)).alloc (.cells (eTw t).toArray 57)).alloc (.cells (eTw t).toArray 57); have hi1 := ((hR.inn.keep hbw (fun k hk => (hIb k hk).2)).alloc (.cells (eTw t).toArray 57)).alloc (.cells (eTw t).toArray 57); have he1 : ∀ x ∈ ts, TwOwn ((w'.alloc (.cells (eTw t).toArray 57)).alloc (.cells (eTw t).toArray 57)) w.heap.size x := fun x hx => (((hR.each x hx).keep hbw (hR.each x hx).lt.1 (hR.each x hx).lt.2).alloc _).alloc _; have ht1 : TwOwn ((w'.alloc (.cells (eTw t).toArray 57)).alloc (.cells (eTw t).toArray 57)) w.heap.size t := ((htw.lower hsz).alloc _).alloc _; have hb1 : Below w.heap.size w ((w'.alloc (.cells (eTw t).toArray 57)).alloc (.cells (eTw t).toArray 57)) := ((hb.trans (hbw.mono hsz)).alloc (by omega) _).alloc (by simp only [World.size_alloc]; omega) _; unfold eTw) | (at_builtin; refine wpList_append_rows _ rfl (.tmp 20) (.tmp 22) 23 rfl w.heap.size 57 9 136 _ Try.underlying23 info57 rfl (by decide) eTw len_eTw one_eTw T cT ts (some ⟨w'.heap.size + 1, 0, none⟩) 1 (w'.heap.size + 2) q 1 [t] rfl rfl ?_ rfl ?_ ?_ ?_ ?_ ?_ ?_))
      · exact hR.len
      · exact ho1
      · refine row_new_at _ _ _ eTw t _ rfl ?_
        rw [World.size_alloc]
      · omega
      · omega
      · simp only [World.size_alloc]; omega
      · intro T2 cT2 w2 ho2 hg2 hk2
        have hgs := hg2.size
        simp only [World.size_alloc] at hgs
        have hcell : ∀ i, w2.cell? ⟨w'.heap.size, i, none⟩ = (eTw t).toArray[i]? := fun i => by
          rw [World.cell?_of_block (a := ⟨w'.heap.size, i, none⟩) (hg2.block w'.heap.size (by simp only [World.size_alloc]; omega) (fun e => by have := (hTb _ e.symm).2; omega))]
          rw [World.cell?_alloc_past _ _ _ (by simp only [World.size_alloc]; omega)]
          exact World.cell?_alloc_at _ _ _ _ rfl
        unfold eTw at hcell
        have hi2 := hi1.kept hg2 (hi1.ne ho1 (by decide))
        have he2 : ∀ x ∈ ts, TwOwn w2 w.heap.size x := fun x hx => (he1 x hx).beside ho1 hg2 (by decide) (by decide)
        have ht2 := ht1.beside ho1 hg2 (by decide) (by decide)
        have hb2 := hb1.grown hg2 (by simp only [World.size_alloc]; omega) (fun k hk => (hTb k hk).1)
        have hw2 : w'.heap.size < w2.heap.size := by omega
        have hR0 := Lib.hid hR.fst
        have hRl := Lib.hid hR.len
        clear ho1 hi1 he1 ht1 hb1 hg2 hk2 hR htw hbw hb
        go_wp2_with (at_builtin; refine wpList_append_rows _ rfl (.tmp 24) (.tmp 27) 22 rfl w.heap.size 39 7 88 _ Try.underlying22 info39 rfl (by decide) flTw len_flTw one_flTw I cI ts (some ⟨w2.heap.size, 0, none⟩) 1 (w2.heap.size + 1) q 1 [t] rfl rfl ?_ rfl ?_ ?_ ?_ ?_ ?_ ?_)
        · exact hRl.out
        · exact hi2.alloc _
        · exact row_new _ _ _ flTw t _ rfl
        · omega
        · omega
        · simp only [World.size_alloc]; omega
        · intro I2 cI2 w3 hi3 hg3 hk3
          have ho3 := (ho2.alloc (.cells (flTw t).toArray 39)).kept hg3 ((ho2.alloc (.cells (flTw t).toArray 39)).ne (hi2.alloc (.cells (flTw t).toArray 39)) (by decide))
          have he3 : ∀ x ∈ ts ++ [t], TwOwn w3 w.heap.size x := fun x hx => by
            rcases List.mem_append.1 hx with h | h
            · exact ((he2 x h).alloc _).beside (hi2.alloc (.cells (flTw t).toArray 39)) hg3 (by decide) (by decide)
            · simp at h; subst h; exact (ht2.alloc _).beside (hi2.alloc (.cells (flTw x).toArray 39)) hg3 (by decide) (by decide)
          have hb3 := (hb2.alloc (by omega) (.cells (flTw t).toArray 39)).grown hg3 (by simp only [World.size_alloc]; omega) (fun k hk => (hIb k hk).1)
          clear ho2 hi2 he2 ht2 hb2 hcell hg3 hk3
          go_wp2
          go_roundw
          case rel =>
            go_light
            exact ⟨q + 1, ts ++ [t], T2, cT2, I2, cI2, by go_num, by omega, rfl, rfl, ⟨by simp [hRl.out], by rw [List.map_append, hR0.out, List.take_add_one, hf.out]; rfl, ho3, hi3, he3, hb3⟩⟩
          case measure => go_light; simp [intOf]; omega
    · obtain rfl : q = fs.length := by omega
      go_wp2
      go_ret2
      go_light
      exact ⟨ts, T, cT, I, cI, rfl, by rw [hR.fst, List.take_length], hR⟩
end Go.Proofs.Ytcffhfcjfjfokaa
/- Contents as they lie in memory. -/
namespace Go.Proofs.Ytcffhfcjfjfokaa
open Go.RowKit
/-- A content as it lies in memory: with its lists' places. -/
structure Rw where
  f : Fl
  X : Option Addr
  cX : Nat
  Y : Option Addr
  cY : Nat
def eRw (r : Rw) : List Value := [.int .i64 r.f.e, .int .i64 r.f.l, .int .i64 r.f.i, .int .i64 r.f.c, .int .i64 r.f.base, .slice r.X r.f.slots.length r.cX, .slice r.Y r.f.have_.length r.cY]
theorem len_eRw (x : Rw) : (eRw x).length = 7 := rfl
theorem one_eRw (x : Rw) : ∀ u ∈ eRw x, u.oneCell' = true := by intro u hu; simp [eRw] at hu; rcases hu with rfl | rfl | rfl | rfl | rfl | rfl | rfl <;> rfl
structure Rws (w : World) (N : Nat) (A : Option Addr) (rs : List Rw) : Prop where
  row : RowAt w N 7 eRw A rs
  each : ∀ r ∈ rs, FlRows w N r.f r.X r.cX r.Y r.cY
theorem fls_rows {w : World} {N : Nat} {A : Option Addr} {fs : List Fl} (h : Fls w N A fs) : ∃ rs : List Rw, rs.map Rw.f = fs ∧ Rws w N A rs := by
  by_cases h0 : 0 < fs.length
  · obtain ⟨b, off, hA, hb, hc⟩ := h h0
    have key : ∀ n, n ≤ fs.length → ∃ rs : List Rw, rs.map Rw.f = fs.take n ∧ (∀ k r, rs[k]? = some r → FlAt w N b (off + k * 7) r.f r.X r.cX r.Y r.cY ∧ FlRows w N r.f r.X r.cX r.Y r.cY) := by
      intro n
      induction n with
      | zero => intro _; exact ⟨[], by simp, by intro k r hr; simp at hr⟩
      | succ n ih =>
        intro hn
        obtain ⟨rs, h1, h2⟩ := ih (by omega)
        have hlen : rs.length = n := by have := congrArg List.length h1; simp at this; omega
        obtain ⟨X, cX, Y, cY, h3, h4⟩ := hc n fs[n] (List.getElem?_eq_getElem (by omega))
        refine ⟨rs ++ [⟨fs[n], X, cX, Y, cY⟩], ?_, fun k r hr => ?_⟩
        · rw [List.map_append, h1, List.take_add_one, List.getElem?_eq_getElem (by omega)]; rfl
        · by_cases hk : k < rs.length
          · rw [List.getElem?_append_left hk] at hr; exact h2 k r hr
          · rw [List.getElem?_append_right (by omega)] at hr
            obtain rfl : k = n := by
              have := (List.getElem?_eq_some_iff.1 hr).1; simp at this; omega
            rw [hlen] at hr; simp at hr; subst hr
            exact ⟨h3, h4⟩
    obtain ⟨rs, h1, h2⟩ := key fs.length (Nat.le_refl _)
    rw [List.take_length] at h1
    refine ⟨rs, h1, ⟨fun _ => ⟨b, off, hA, hb, fun k r hr j u hu => ?_⟩, fun r hr => ?_⟩⟩
    · obtain ⟨⟨c0, c1, c2, c3, c4, c5, c6⟩, _⟩ := h2 k r hr
      match j, hu with
      | 0, hu => simp [eRw] at hu; subst hu; exact c0
      | 1, hu => simp [eRw] at hu; subst hu; exact c1
      | 2, hu => simp [eRw] at hu; subst hu; exact c2
      | 3, hu => simp [eRw] at hu; subst hu; exact c3
      | 4, hu => simp [eRw] at hu; subst hu; exact c4
      | 5, hu => simp [eRw] at hu; subst hu; exact c5
      | 6, hu => simp [eRw] at hu; subst hu; exact c6
      | n + 7, hu => simp [eRw] at hu
    · obtain ⟨k, hk⟩ := List.mem_iff_getElem?.1 hr
      exact (h2 k r hk).2
  · have : fs = [] := List.eq_nil_of_length_eq_zero (by omega)
    subst this
    exact ⟨[], rfl, ⟨fun h => absurd h (by simp), by simp⟩⟩
theorem rows_fls {w : World} {N : Nat} {A : Option Addr} {rs : List Rw} (h : Rws w N A rs) : Fls w N A (rs.map Rw.f) := fun h0 => by
  obtain ⟨b, off, hA, hb, hc⟩ := h.row (by simpa using h0)
  refine ⟨b, off, hA, hb, fun k f hf => ?_⟩
  rw [List.getElem?_map] at hf
  cases hr : rs[k]? with
  | none => rw [hr] at hf; cases hf
  | some r =>
    rw [hr] at hf; cases hf
    refine ⟨r.X, r.cX, r.Y, r.cY, ⟨?_, ?_, ?_, ?_, ?_, ?_, ?_⟩, h.each r (List.mem_of_getElem? hr)⟩
    · exact hc k r hr 0 _ rfl
    · exact hc k r hr 1 _ rfl
    · exact hc k r hr 2 _ rfl
    · exact hc k r hr 3 _ rfl
    · exact hc k r hr 4 _ rfl
    · exact hc k r hr 5 _ rfl
    · exact hc k r hr 6 _ rfl
end Go.Proofs.Ytcffhfcjfjfokaa
