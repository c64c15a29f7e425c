/- AddKit Add, joined. -/
import Derived.Test.YtcffhfcjfjfokaaSu14
import Derived.Test.YtcffhfcjfjfokaaSu20
set_option linter.unusedVariables false
set_option linter.unusedSimpArgs false
namespace Go.Proofs.Ytcffhfcjfjfokaa
open Go.RowKit
theorem FarB.grow {W W' : World} {F : List Nat} {A A' : Option Addr} {r : Dr} (h : FarB W (F ++ (blk A).toList) r) (hg : W.grownBy W' (blk A)) (hk : blk A' = blk A ∨ blk A' = some W.heap.size) : FarB W' (F ++ (blk A').toList) r := by
  refine ⟨fun h0 => ?_, h.len, h.cap⟩
  obtain ⟨g, off, e, h1, h2, h3⟩ := h.row h0
  have hA : blk A ≠ some g := fun e2 => h2 (by rw [e2]; simp)
  refine ⟨g, off, e, Nat.lt_of_lt_of_le h1 hg.size, fun hm => ?_, fun k x hx j u hu => (World.cell?_of_block (a := ⟨g, _, none⟩) (hg.block g h1 (fun e2 => hA e2.symm))).trans (h3 k x hx j u hu)⟩
  rcases List.mem_append.1 hm with e2 | e2
  · exact h2 (List.mem_append.2 (.inl e2))
  · rw [Option.mem_toList] at e2
    rcases hk with hk | hk
    · rw [hk] at e2; exact hA e2
    · rw [hk] at e2
      have : W.heap.size = g := by simpa using e2
      omega
theorem farOld {w W : World} {F : List Nat} {A : Option Addr} {r : Dr} (hr : FarB w F r) (hb : Below w.heap.size w W) (hA : ∀ k, blk A = some k → w.heap.size ≤ k) : FarB W (F ++ (blk A).toList) r :=
  (hr.more (fun y hy => by
    rcases List.mem_append.1 hy with e | e
    · exact .inl e
    · rw [Option.mem_toList] at e; exact .inr (hA y e))).below hb
structure OwnA (w : World) (base : Nat) (F : List Nat) (A : Option Addr) (c : Nat) (rs : List Dr) : Prop where
  own : Owns w base 113 4 eDr A c rs
  far : ∀ r ∈ rs, FarB w (F ++ (blk A).toList) r
theorem ownA_nil (w : World) (base : Nat) (F : List Nat) : OwnA w base F none 0 [] := ⟨owns_nil _ _ _ _ _, fun r hr => (by cases hr)⟩
theorem OwnA.below {w w' : World} {base c : Nat} {F : List Nat} {A : Option Addr} {rs : List Dr} (h : OwnA w base F A c rs) (hb : Below w.heap.size w w') : OwnA w' base F A c rs :=
  ⟨h.own.keep hb (fun k hk => (h.own.lo k hk).2), fun r hr => (h.far r hr).below hb⟩
theorem OwnA.push {x y : World} {base c c' : Nat} {F : List Nat} {A A' : Option Addr} {rs l : List Dr} (h : OwnA x base F A c rs) (hr : ∀ r ∈ l, FarB x (F ++ (blk A).toList) r) (ho : Owns y base 113 4 eDr A' c' (rs ++ l)) (hg : x.grownBy y (blk A)) (hk : blk A' = blk A ∨ blk A' = some x.heap.size) : OwnA y base F A' c' (rs ++ l) :=
  ⟨ho, fun r hr' => (List.mem_append.1 hr').elim (fun e => (h.far r e).grow hg hk) fun e => (hr r e).grow hg hk⟩
theorem StV.other {w w' : World} {F : List Nat} {b g oK oV : Nat} {s : Sto} {ks : List KpX} {Mp Mp' : Option Addr} {cM cM' : Nat} {ms ms' : List Dr} (h : StV w F b g oK oV s ks Mp cM ms) (hw : w' = w.setCell ⟨b, 6, none⟩ (.slice Mp' ms'.length cM')) (hv : oV + 3 < 6) (hK : oK < 6)
    (hm : RowF w F 4 eDr Mp' ms') (hf : ∀ r ∈ ms', FarB w F r) (hc : ms'.length ≤ cM' ∧ cM' ≤ 9223372036854775807) (hi : SInv { s with msgs := ms'.map Dr.d }) : StV w' F b g oK oV { s with msgs := ms'.map Dr.d } ks Mp' cM' ms' := by
  have hg : w.grownBy w' (some b) := by rw [hw]; exact grown_cell _ _ _ _
  have hk' : ∀ k, k < w.heap.size → k ∉ F → w'.heap[k]? = w.heap[k]? := fun k h1 h2 => hg.block k h1 (by intro e; injection e with e; subst e; exact h2 h.bF)
  have hc' : ∀ o, o ≠ 6 → w'.cell? ⟨b, o, none⟩ = w.cell? ⟨b, o, none⟩ := fun o ho => by rw [hw]; exact World.cell?_setCell_other _ _ _ _ (by intro e; injection e with _ e; exact ho e.symm)
  have h6 : w'.cell? ⟨b, 6, none⟩ = some (.slice Mp' ms'.length cM') := by
    rw [hw]; exact World.cell?_setCell_same' _ _ _ (by rw [h.cm]; rfl)
  have hgg := hg.block g (h.hi g h.gF) (by intro e; injection e with e; exact h.bg e.symm)
  exact ⟨(hc' _ (by omega)).trans h.ck, (hc' _ (by omega)).trans h.ce, (hc' _ (by omega)).trans h.cl, (hc' _ (by omega)).trans h.ci, (hc' _ (by omega)).trans h.cc, h6, by rw [hw]; exact there_set h.there _ _, fun q x hx => range_same (h.krow q x hx) hgg, there_same h.kthere hgg, h.kk, fun x hx => (h.kS x hx).keep hg.size hk', rfl, hm.keep hg.size hk', fun r hr => (hf r hr).keep hg.size hk', hc, h.bF, h.gF, h.bg, fun x hx => Nat.lt_of_lt_of_le (h.hi x hx) hg.size, hi⟩
def AdPost (w : World) (F : List Nat) (b g oK oV : Nat) (ks : List KpX) (r : Int × Sto) (x : Ending) (w' : World) : Prop :=
  x = .returned (.int .i64 r.1) ∧ (∃ Mp cM ms, StV w' F b g oK oV r.2 ks Mp cM ms) ∧ w.grownBy w' (some b) ∧ ∀ o, o ≠ 6 → w'.cell? ⟨b, o, none⟩ = w.cell? ⟨b, o, none⟩
theorem AdPost.bad {w w' : World} {F : List Nat} {b g oK oV : Nat} {s : Sto} {ks : List KpX} {Mp : Option Addr} {cM : Nat} {ms : List Dr} {r : Int × Sto} {n : Int} (h : StV w F b g oK oV s ks Mp cM ms) (hr : r = (n, s)) (hb : Below w.heap.size w w') : AdPost w F b g oK oV ks r (.returned (.int .i64 n)) w' := by
  subst hr
  exact ⟨rfl, ⟨Mp, cM, ms, h.below hb⟩, World.grownBy.but (grown_below hb) (some b), fun o _ => hb.cell (p := ⟨b, o, none⟩) (h.hi b h.bF)⟩
end Go.Proofs.Ytcffhfcjfjfokaa
namespace Go.Proofs.Ytcffhfcjfjfokaa
open Go.RowKit
theorem four {w : World} {b o : Nat} {v1 v2 v3 v4 : Value} (h1 : w.cell? ⟨b, o, none⟩ = some v1) (h2 : w.cell? ⟨b, o + 1, none⟩ = some v2) (h3 : w.cell? ⟨b, o + 2, none⟩ = some v3) (h4 : w.cell? ⟨b, o + 3, none⟩ = some v4) : w.rangeAt b o [v1, v2, v3, v4] := fun j u hu => by
  match j, hu with
  | 0, hu => simp at hu; subst hu; exact h1
  | 1, hu => simp at hu; subst hu; exact h2
  | 2, hu => simp at hu; subst hu; exact h3
  | 3, hu => simp at hu; subst hu; exact h4
  | j + 4, hu => simp at hu
structure LS where
  k : Nat
  j : Nat
  A : Option Addr
  c : Nat
  P : Option Addr
  al : List Dr
def PtrAt (Mp P : Option Addr) (n j : Nat) : Prop := j < n → ∃ bM oM, Mp = some ⟨bM, oM, none⟩ ∧ P = some ⟨bM, oM + j * 4, none⟩
theorem PtrAt.next {Mp P : Option Addr} {n j c : Nat} (h : PtrAt Mp P n j) (hc : n ≤ c) (hj : j < n) : PtrAt Mp (if c - j = 1 then P else P.map (·.add (1 * 4))) n (j + 1) := fun h1 => by
  obtain ⟨bM, oM, e1, e2⟩ := h hj
  refine ⟨bM, oM, e1, ?_⟩
  rw [if_neg (by omega), e2, Option.map_some, Addr.add_lit]
  congr 2; omega
theorem row_drop {w : World} {N n j : Nat} {Mp P : Option Addr} {ms : List Dr} (h : RowAt w N 4 eDr Mp ms) (hp : PtrAt Mp P n j) (hn : ms.length = n) : RowAt w N 4 eDr P (ms.drop j) := fun h0 => by
  rw [List.length_drop] at h0
  obtain ⟨b, o, e, hb, hc⟩ := h (by omega)
  obtain ⟨bM, oM, e1, e2⟩ := hp (by omega)
  rw [e1] at e; injection e with e; injection e with e3 e4; subst e3; subst e4
  refine ⟨bM, oM + j * 4, e2, hb, fun k x hx i u hu => ?_⟩
  rw [List.getElem?_drop] at hx
  have := hc (j + k) x hx i u hu
  rw [show oM + j * 4 + k * 4 + i = oM + (j + k) * 4 + i by omega]; exact this
structure AddO (s : Sto) (F : List Nat) (rs ms : List Dr) (Mp : Option Addr) (wA : World) (x : LS) (W : World) : Prop where
  k : x.k ≤ rs.length
  i : AddI s (rs.map Dr.d) x.k x.j (x.al.map Dr.d)
  own : OwnA W wA.heap.size F x.A x.c x.al
  b : Below wA.heap.size wA W
  p : PtrAt Mp x.P ms.length x.j
structure AddN (s : Sto) (F : List Nat) (rs ms : List Dr) (Mp : Option Addr) (wA : World) (mb k : Nat) (r : Dr) (x : LS) (W : World) : Prop where
  i : AddI s (rs.map Dr.d) k x.j (x.al.map Dr.d)
  own : OwnA W wA.heap.size (F ++ [mb]) x.A x.c x.al
  b : Below wA.heap.size wA W
  p : PtrAt Mp x.P ms.length x.j
  m : W.rangeAt mb 0 (eDr r)
  t : W.there mb 0 4
  z : mb < W.heap.size
  a : ∀ q, blk x.A = some q → q ≠ mb
theorem OwnA.more {w : World} {base c : Nat} {F F' : List Nat} {A : Option Addr} {rs : List Dr} (h : OwnA w base F A c rs) (hF : ∀ x ∈ F', x ∈ F ∨ w.heap.size ≤ x) : OwnA w base F' A c rs :=
  ⟨h.own, fun r hr => (h.far r hr).more fun y hy => by
    rcases List.mem_append.1 hy with e | e
    · exact (hF y e).imp (fun e => List.mem_append.2 (.inl e)) id
    · exact .inl (List.mem_append.2 (.inr e))⟩
theorem OwnA.set {w w' : World} {base c mb : Nat} {F : List Nat} {A : Option Addr} {rs : List Dr} (h : OwnA w base F A c rs) (hm : mb ∈ F) (hA : ∀ q, blk A = some q → q ≠ mb) (hg : w.grownBy w' (some mb)) : OwnA w' base F A c rs :=
  ⟨h.own.kept hg (by
    cases e : blk A with
    | none => exact .inl rfl
    | some q => exact .inr (by intro e2; injection e2 with e2; exact hA q e e2)), fun r hr => (h.far r hr).keep hg.size fun k hk hn => hg.block k hk (by intro e; injection e with e; subst e; exact hn (List.mem_append.2 (.inl hm)))⟩
theorem whole_e {e l i c : Int} (h : wholeB e l i c = true) : 1 ≤ e := by unfold wholeB at h; simp at h; omega
set_option maxRecDepth 100000 in
theorem add_any {w : World} {F : List Nat} {b g : Nat} {s : Sto} {ks : List KpX} {Mp : Option Addr} {cM : Nat} {ms : List Dr} (h : StV w F b g 0 1 s ks Mp cM ms) (bg : Bool) (hbg : w.cell? ⟨b, 5, none⟩ = some (.bool bg)) (hbe : bg = false → s.ve = 0) (e l i c : Int) (rs : List Dr) (A : Option Addr) (cA N : Nat) (hN : N ≤ w.heap.size) (hr : Drs w N A rs) :
    Calls Try.prog 87 #[.pointer (some ⟨b, 0, none⟩), .agg (fwc e l i c A rs.length cA)] w (AdPost w F b g 0 1 ks (s.addS e l i c (rs.map Dr.d))) := by
  have hbz := h.hi b h.bF
  refine calls_vc tab_ok Try.func87 rfl ?_
  conv => whnf
  refine .mk fun wA hwA => ?_
  have hbA : Below w.heap.size w wA := by rw [hwA.out]; exact below_box1 _ _ _
  have zA : wA.heap.size = w.heap.size + 1 := by rw [hwA.out]; simp
  have oA : wA.rangeAt w.heap.size 0 (fwc e l i c A rs.length cA).toList := by rw [hwA.out]; exact range_new w (fwc e l i c A rs.length cA) 157
  have hx : ∀ W, Below wA.heap.size wA W → Drs W N A rs ∧ StV W F b g 0 1 s ks Mp cM ms ∧ W.rangeAt w.heap.size 0 (fwc e l i c A rs.length cA).toList ∧ Below w.heap.size w W ∧ W.cell? ⟨b, 5, none⟩ = some (.bool bg) := fun W hW =>
    ⟨⟨(hr.row.below hbA hN).below hW (by omega), fun r h1 => ((hr.each r h1).below hbA hN).below hW (by omega)⟩, (h.below hbA).below hW, range_same oA (hW.block w.heap.size (by omega)), hbA.trans (hW.mono (by omega)), (hW.cell (p := ⟨b, 5, none⟩) (by show b < _; omega)).trans ((hbA.cell (p := ⟨b, 5, none⟩) hbz).trans hbg)⟩
  have bad : ∀ W, Below wA.heap.size wA W → ∀ n, s.addS e l i c (rs.map Dr.d) = (n, s) → AdPost w F b g 0 1 ks (s.addS e l i c (rs.map Dr.d)) (.returned (.int .i64 n)) W := fun W hW n e => AdPost.bad h e (hx W hW).2.2.2.1
  have b0 : Below wA.heap.size wA wA := Below.refl _ _
  have Lf : Ld Try.prog 157 w.heap.size 0 (fun W => Below wA.heap.size wA W) (.agg (fwc e l i c A rs.length cA)) := ⟨fun W hW => load_agg (by kernel_rfl) (by kernel_rfl) (hx W hW).2.2.1⟩
  have Lp : Ld Try.prog 35 w.heap.size 0 (fun W => Below wA.heap.size wA W) (.agg #[.int .i64 e, .int .i64 l, .int .i64 i, .int .i64 c]) := ⟨fun W hW => load35 (range_sub (n := 4) (hx W hW).2.2.1 0 rfl)⟩
  have Lm : Ld Try.prog 40 w.heap.size 4 (fun W => Below wA.heap.size wA W) (.slice A rs.length cA) := ⟨fun W hW => load40 ((hx W hW).2.2.1 4 _ rfl)⟩
  have Lb : Ld Try.prog 4 b 5 (fun W => Below wA.heap.size wA W) (.bool bg) := ⟨fun W hW => load_cell (by kernel_rfl) (hx W hW).2.2.2.2⟩
  have Lv : Ld Try.prog 35 b 1 (fun W => Below wA.heap.size wA W) (.agg #[.int .i64 s.ve, .int .i64 s.vl, .int .i64 s.vi, .int .i64 s.vc]) := ⟨fun W hW => load35 (four (hx W hW).2.1.ce (hx W hW).2.1.cl (hx W hW).2.1.ci (hx W hW).2.1.cc)⟩
  have Lo : Ld Try.prog 40 b 6 (fun W => Below wA.heap.size wA W) (.slice Mp ms.length cM) := ⟨fun W hW => load40 (hx W hW).2.1.cm⟩
  repeat ((conv => whnf); first | (refine VLoad.mk _ (Lf.at b0) ?_) | (refine VCmp.tt (by omega) ?_) | (refine VCmp.ff (by omega) ?_) | (refine VIn.mk (IntWalk.i64_in _ (by omega)) ?_) | (refine VIdx.mk _ rfl (by omega) ?_) | (refine VIdx.mk 0 rfl (by omega) ?_))
  try (conv => whnf)
  refine VCall.mk _ (fits_any (h.below hbA) e l i c rs A cA N (by omega) (hx _ b0).1) ?_
  rintro _ x1 ⟨rfl, b1⟩
  refine ⟨_, rfl, ?_⟩
  cases hf : fitsB s.n e l i c (rs.map Dr.d) with
  | false =>
    repeat ((conv => whnf); first | (refine VCmp.tt (by omega) ?_) | (refine VCmp.ff (by omega) ?_) | (refine VIn.mk (IntWalk.i64_in _ (by omega)) ?_) | (refine VIdx.mk _ rfl (by omega) ?_) | (refine VIdx.mk 0 rfl (by omega) ?_))
    try (conv => whnf)
    exact .mk (bad _ b1 1 (by unfold Sto.addS; rw [if_pos hf]))
  | true =>
  obtain ⟨hwh, hl, hdt, hrise⟩ := fits_parts hf
  rw [List.length_map] at hl
  have b2 : Below wA.heap.size wA x1.drew := b1.drew
  repeat ((conv => whnf); first | (refine VCmp.tt (by omega) ?_) | (refine VCmp.ff (by omega) ?_) | (refine VIn.mk (IntWalk.i64_in _ (by omega)) ?_) | (refine VIdx.mk _ rfl (by omega) ?_) | (refine VIdx.mk 0 rfl (by omega) ?_))
  try (conv => whnf)
  refine VDraw.mk 1000 [] [0, 1, 2, 3, 4, 5, 6, 7, 8, 9, 10, 11, 12, 13] (Eq x1.drew) (by kernel_rfl) (by kernel_rfl) (rfl) ?_
  cases bg with
  | false =>
    repeat ((conv => whnf); first | (refine VLoad.mk _ (Lb.at b2) ?_) | (refine VCmp.tt (by omega) ?_) | (refine VCmp.ff (by omega) ?_) | (refine VIn.mk (IntWalk.i64_in _ (by omega)) ?_) | (refine VIdx.mk _ rfl (by omega) ?_) | (refine VIdx.mk 0 rfl (by omega) ?_))
    try (conv => whnf)
    have := whole_e hwh
    have := hbe rfl
    exact .mk (bad _ b2 80 (by unfold Sto.addS; rw [if_neg (by rw [hf]; simp), if_pos (by omega)]))
  | true =>
  repeat ((conv => whnf); first | (refine VLoad.mk _ (Lb.at b2) ?_) | (refine VLoad.mk _ (Lp.at b2) ?_) | (refine VLoad.mk _ (Lv.at b2) ?_) | (refine VCmp.tt (by omega) ?_) | (refine VCmp.ff (by omega) ?_) | (refine VIn.mk (IntWalk.i64_in _ (by omega)) ?_) | (refine VIdx.mk _ rfl (by omega) ?_) | (refine VIdx.mk 0 rfl (by omega) ?_))
  try (conv => whnf)
  refine VBin.mk _ (Bn.of fun W => run_neq_vid W e l i c s.ve s.vl s.vi s.vc) ?_
  cases hv : vidEq e l i c s.ve s.vl s.vi s.vc with
  | false =>
    repeat ((conv => whnf); first | (refine VCmp.tt (by omega) ?_) | (refine VCmp.ff (by omega) ?_) | (refine VIn.mk (IntWalk.i64_in _ (by omega)) ?_) | (refine VIdx.mk _ rfl (by omega) ?_) | (refine VIdx.mk 0 rfl (by omega) ?_))
    try (conv => whnf)
    exact .mk (bad _ b2 80 (by unfold Sto.addS; rw [if_neg (by rw [hf]; simp), if_pos (by unfold vidEq at hv; simpa using hv)]))
  | true =>
  have hv' : e = s.ve ∧ l = s.vl ∧ i = s.vi ∧ c = s.vc := by unfold vidEq at hv; simpa [and_assoc] using hv
  have hadd := add_eq hf hv'
  have hlm := h.lenM
  have hmc := h.mc
  repeat ((conv => whnf); first | (refine VLoad.mk _ (Lo.at b2) ?_) | (refine VLoad.mk _ (Lm.at b2) ?_) | (refine VCmp.tt (by omega) ?_) | (refine VCmp.ff (by omega) ?_) | (refine VIn.mk (IntWalk.i64_in _ (by omega)) ?_) | (refine VIdx.mk _ rfl (by omega) ?_) | (refine VIdx.mk 0 rfl (by omega) ?_))
  try (conv => whnf)
  have hn0 : ∀ k, blk (none : Option Addr) = some k → w.heap.size ≤ k := fun k hk => by cases hk
  refine VLoop.mk LS (fun x => [(0, .pointer (some ⟨b, 0, none⟩)), (3, .pointer (some ⟨w.heap.size, 0, none⟩)), (5, .slice x.A x.al.length x.c), (6, .slice x.P (ms.length - x.j) (cM - x.j)), (32, .slice A rs.length cA), (33, .int .i64 rs.length), (34, .int .i64 x.k)]) (AddO s F rs ms Mp wA) (fun x => rs.length - x.k) ⟨0, 0, none, 0, Mp, []⟩ ⟨rfl, rfl, rfl, rfl, rfl, rfl, rfl, trivial⟩ ⟨Nat.zero_le _, AddI.start _ _, ownA_nil _ _ _, b2, fun h0 => by
    obtain ⟨bM, oM, e1, _⟩ := h.mrow h0
    exact ⟨bM, oM, e1, by rw [e1]; simp⟩⟩ ?_
  rintro ⟨k, j, Aa, ca, P, al⟩ wr ⟨hk, hi, hown, br, hP⟩
  dsimp only at hk hi hown hP ⊢
  have hjm : j ≤ ms.length := by have := hi.hj; rwa [← h.mm, List.length_map] at this
  have hal : al.length ≤ j + k := by have := hi.len; rwa [List.length_map] at this
  by_cases hkl : k < rs.length
  case neg =>
    repeat ((conv => whnf); first | (refine VCmp.tt (by omega) ?_) | (refine VCmp.ff (by omega) ?_) | (refine VIn.mk (IntWalk.i64_in _ (by omega)) ?_) | (refine VIdx.mk _ rfl (by omega) ?_) | (refine VIdx.mk 0 rfl (by omega) ?_))
    try (conv => whnf)
    have hke : k = rs.length := by omega
    subst hke
    have hrd := row_drop ((hx _ br).2.1.mrow.row) hP rfl
    refine VApp.rows wA.heap.size 4 48 _ Try.underlying40 info113 rfl (by decide) eDr len_eDr one_eDr al (ms.drop j) rfl (by rw [List.length_drop]) hown.own hrd (by omega) (by omega) br.size fun A' c' w' ho hg hkk => ?_
    have hown' : OwnA w' wA.heap.size F A' c' (al ++ ms.drop j) := hown.push (fun r hr => farOld (h.mS r (List.mem_of_mem_drop hr)) (hx _ br).2.2.2.1 (fun q hq => by have := (hown.own.lo q hq).1; omega)) ho hg hkk
    have b' : Below wA.heap.size wA w' := br.grown hg br.size (fun q hq => (hown.own.lo q hq).1)
    have hdone : addT s.msgs s.msgs (rs.map Dr.d) = some ((al ++ ms.drop j).map Dr.d) := by
      have := (show AddI s (rs.map Dr.d) (rs.map Dr.d).length j (al.map Dr.d) by rw [List.length_map]; exact hi).done
      rw [this, List.map_append, List.map_drop, h.mm]
    have hlen : (al ++ ms.drop j).length = al.length + (ms.length - j) := by rw [List.length_append, List.length_drop]
    have hfin : s.addS e l i c (rs.map Dr.d) = if 128 < al.length + (ms.length - j) then (42, s) else (0, { s with msgs := (al ++ ms.drop j).map Dr.d }) := by
      rw [hadd, hdone]
      simp only [List.length_map, hlen]
    by_cases h128 : 128 < al.length + (ms.length - j)
    · repeat ((conv => whnf); first | (refine VCmp.tt (by omega) ?_) | (refine VCmp.ff (by omega) ?_) | (refine VIn.mk (IntWalk.i64_in _ (by omega)) ?_) | (refine VIdx.mk _ rfl (by omega) ?_) | (refine VIdx.mk 0 rfl (by omega) ?_))
      try (conv => whnf)
      exact .mk (bad _ b' 42 (by rw [hfin, if_pos h128]))
    rw [if_neg h128] at hfin
    have hgood := add_good h.inv hf hdone (by rw [List.length_map]; omega)
    obtain ⟨-, hS, -, hbw, -⟩ := hx _ b'
    repeat ((conv => whnf); first | (refine VCmp.tt (by omega) ?_) | (refine VCmp.ff (by omega) ?_) | (refine VIn.mk (IntWalk.i64_in _ (by omega)) ?_) | (refine VIdx.mk _ rfl (by omega) ?_) | (refine VIdx.mk 0 rfl (by omega) ?_))
    try (conv => whnf)
    refine VStore.cell (by kernel_rfl) (by rw [show addO 0 6 = 6 from rfl, hS.cm]; rfl) (by rw [show addO 0 6 = 6 from rfl]; exact there_frozen hS.there (by omega)) rfl rfl fun w7 hw7 => ?_
    have h7 := hS.other (w' := w7) (Mp' := A') (cM' := c') (ms' := al ++ ms.drop j) (by rw [hw7.out, hlen]; rfl) (by omega) (by omega) (RowF.ofOwns hown'.own len_eDr (fun q hq => by have := h.hi q hq; omega)) (fun r hr => (hown'.far r hr).more (fun y hy => .inl (List.mem_append.2 (.inl hy)))) hown'.own.len hgood
    have g7 : w'.grownBy w7 (some b) := by rw [hw7.out]; exact grown_cell _ _ _ _
    repeat ((conv => whnf); first | (refine VCmp.tt (by omega) ?_) | (refine VCmp.ff (by omega) ?_) | (refine VIn.mk (IntWalk.i64_in _ (by omega)) ?_) | (refine VIdx.mk _ rfl (by omega) ?_) | (refine VIdx.mk 0 rfl (by omega) ?_))
    try (conv => whnf)
    exact .mk ⟨by rw [hfin]; rfl, ⟨_, _, _, by rw [hfin]; exact h7⟩, (World.grownBy.but (grown_below hbw) (some b)).trans g7, fun o ho => by
      rw [hw7.out, World.cell?_setCell_other _ _ _ _ (by intro e; injection e with _ e; exact ho e.symm)]
      exact hbw.cell (p := ⟨b, o, none⟩) hbz⟩
  obtain ⟨bA, oR, rfl, hbA2, hrow⟩ := (hx _ br).1.row (by omega)
  have hrk : rs[k]? = some rs[k] := List.getElem?_eq_getElem hkl
  have hrb := (hx _ br).1.each rs[k] (List.getElem_mem _)
  generalize rs[k] = r at hrk hrb
  have hdk : (rs.map Dr.d)[k]? = some r.d := by rw [List.getElem?_map, hrk]; rfl
  have Lr : Ld Try.prog 113 bA (oR + k * 4) (Eq wr) (.agg (drA r)) := .of (load113 (fun j u hu => hrow k r hrk j u hu))
  repeat ((conv => whnf); first | (refine VLoad.mk _ Lr ?_) | (refine VCmp.tt (by omega) ?_) | (refine VCmp.ff (by omega) ?_) | (refine VIn.mk (IntWalk.i64_in _ (by omega)) ?_) | (refine VIdx.mk _ rfl (by omega) ?_) | (refine VIdx.mk 0 rfl (by omega) ?_))
  try (conv => whnf)
  refine .mk _ run_zero113 ?_
  conv => whnf
  refine .mk fun x3 hx3 => ?_
  repeat ((conv => whnf); first | (refine VCmp.tt (by omega) ?_) | (refine VCmp.ff (by omega) ?_) | (refine VIn.mk (IntWalk.i64_in _ (by omega)) ?_) | (refine VIdx.mk _ rfl (by omega) ?_) | (refine VIdx.mk 0 rfl (by omega) ?_))
  try (conv => whnf)
  refine VStore.new hx3 (by kernel_rfl) rfl (one_drA r) fun x4 hx4 => ?_
  have b4 : Below wA.heap.size wA x4 := by rw [hx4.out]; exact br.alloc br.size _
  have c4 : Below wr.heap.size wr x4 := by rw [hx4.out]; exact (Below.refl _ _).alloc (Nat.le_refl _) _
  have z4 : x4.heap.size = wr.heap.size + 1 := by rw [hx4.out]; simp
  have r4 : x4.rangeAt wr.heap.size 0 (eDr r) := by rw [hx4.out]; exact range_new wr (drA r) 113
  have t4 : x4.there wr.heap.size 0 4 := by rw [hx4.out]; exact there_new wr (drA r) 113
  have hown4 : OwnA x4 wA.heap.size (F ++ [wr.heap.size]) Aa ca al := (hown.more (F' := F ++ [wr.heap.size]) (fun y hy => by
    rcases List.mem_append.1 hy with e1 | e1
    · exact .inl e1
    · rw [List.mem_singleton.1 e1]; exact .inr (Nat.le_refl _))).below c4
  have hA4 : ∀ q, blk Aa = some q → q ≠ wr.heap.size := fun q hq => by have := (hown.own.lo q hq).2; omega
  have hbrz := br.size
  have hmbA : wA.heap.size ≤ wr.heap.size := br.size
  have hmem : r ∈ rs := List.mem_of_getElem? hrk
  have hdtr := hdt r.d (List.mem_map.2 ⟨r, hmem, rfl⟩)
  have hbl : r.d.body.length ≤ 256 := by unfold dtB at hdtr; simp at hdtr; omega
  have hnext : ∀ d', (rs.map Dr.d)[k + 1]? = some d' → aheadB r.d d' = true := fun d' hd' => hrise k r.d d' hdk hd'
  clear hx3 hx4 Lr
  generalize hmbe : wr.heap.size = mb at *
  repeat ((conv => whnf); first | (refine VCmp.tt (by omega) ?_) | (refine VCmp.ff (by omega) ?_) | (refine VIn.mk (IntWalk.i64_in _ (by omega)) ?_) | (refine VIdx.mk _ rfl (by omega) ?_) | (refine VIdx.mk 0 rfl (by omega) ?_))
  try (conv => whnf)
  refine VLoop.mk LS (fun x => [(0, .pointer (some ⟨b, 0, none⟩)), (3, .pointer (some ⟨w.heap.size, 0, none⟩)), (5, .slice x.A x.al.length x.c), (6, .slice x.P (ms.length - x.j) (cM - x.j)), (8, .pointer (some ⟨mb, 0, none⟩)), (32, .slice (some ⟨bA, oR, none⟩) rs.length cA), (33, .int .i64 rs.length), (34, .int .i64 k)]) (AddN s F rs ms Mp wA mb k r) (fun x => ms.length - x.j) ⟨k, j, Aa, ca, P, al⟩ ⟨rfl, rfl, rfl, rfl, rfl, rfl, rfl, rfl, trivial⟩ ⟨hi, hown4, b4, hP, r4, t4, by omega, hA4⟩ ?_
  clear hi hown hown4 hP hA4 hjm hal b4 c4 r4 t4 z4 br hbrz
  rintro ⟨k', j, Aa, ca, P, al⟩ wi ⟨hi, hown, bi, hP, mi, ti, zi, hA⟩
  dsimp only at hi hown hP hA ⊢
  have hjm : j ≤ ms.length := by have := hi.hj; rwa [← h.mm, List.length_map] at this
  have hal : al.length ≤ j + k := by have := hi.len; rwa [List.length_map] at this
  have zi2 := bi.size
  have hS : ∀ W, Below wi.heap.size wi W → Below wA.heap.size wA W := fun W hW => bi.trans (hW.mono zi2)
  have Lm8 : Ld Try.prog 113 mb 0 (fun W => Below wi.heap.size wi W) (.agg (drA r)) := ⟨fun W hW => load113 (range_same mi (hW.block mb zi))⟩
  have bid : Below wi.heap.size wi wi.drew := (Below.refl _ _).drew
  conv => whnf
  refine VDraw.mk 1000 [([0, 1, 2, 3, 4, 5, 6, 7], 8)] [9] (fun W => Below wi.heap.size wi W) (by kernel_rfl) (by kernel_rfl) (bid) ?_
  by_cases hj : j < ms.length
  case neg =>
    repeat ((conv => whnf); first | (refine VS.mk bid ?_) | (refine VCmp.tt (by omega) ?_) | (refine VCmp.ff (by omega) ?_) | (refine VIn.mk (IntWalk.i64_in _ (by omega)) ?_) | (refine VIdx.mk _ rfl (by omega) ?_) | (refine VIdx.mk 0 rfl (by omega) ?_))
    try (conv => whnf)
    have hje : j = ms.length := by omega
    refine VDraw.mk 1000 [([0, 1, 2, 3, 4, 5, 6, 7], 8)] [9, 10] (fun W => Below wi.heap.size wi W) (by kernel_rfl) (by kernel_rfl) (bid.drew) ?_
    repeat ((conv => whnf); first | (refine VS.mk bid.drew ?_) | (refine VCmp.tt (by omega) ?_) | (refine VCmp.ff (by omega) ?_) | (refine VIn.mk (IntWalk.i64_in _ (by omega)) ?_) | (refine VIdx.mk _ rfl (by omega) ?_) | (refine VIdx.mk 0 rfl (by omega) ?_))
    try (conv => whnf)
    have hput : ∀ x, s.msgs[j]? = some x → aheadB r.d x = true := fun x hx0 => by
      have := (List.getElem?_eq_some_iff.1 hx0).1
      rw [← h.mm, List.length_map] at this; omega
    have ct : Below wi.heap.size wi wi.drew.drew := bid.drew
    generalize wi.drew.drew = wt at *
    have bt : Below wA.heap.size wA wt := hS _ ct
    have mt : wt.rangeAt mb 0 (eDr r) := range_same mi (ct.block mb zi)
    have tt : wt.there mb 0 4 := there_same ti (ct.block mb zi)
    have ownt := hown.below ct
    have ht52 := Ld.of (load52 (mt 3 _ rfl))
    have hrbody : RowAt wt N 1 eByte r.B r.d.body := ((hx _ bt).1.each r hmem).row
    repeat ((conv => whnf); first | (refine VLoad.mk _ ht52 ?_) | (refine VCmp.tt (by omega) ?_) | (refine VCmp.ff (by omega) ?_) | (refine VIn.mk (IntWalk.i64_in _ (by omega)) ?_) | (refine VIdx.mk _ rfl (by omega) ?_) | (refine VIdx.mk 0 rfl (by omega) ?_))
    try (conv => whnf)
    refine VApp.fresh 1 1 _ Try.underlying52 info5 rfl (by decide) eByte len_eByte one_eByte r.d.body rfl hrbody (by omega) (by omega) fun A1 c1 w1 hf1 hc1 hc2 hb1 => ?_
    have ct1 : Below wi.heap.size wi w1 := ct.trans (hb1.mono ct.size)
    have m1 : w1.rangeAt mb 0 (eDr r) := range_same mi (ct1.block mb zi)
    have t1 : w1.there mb 0 4 := there_same ti (ct1.block mb zi)
    have own1 := ownt.below hb1
    repeat ((conv => whnf); first | (refine VCmp.tt (by omega) ?_) | (refine VCmp.ff (by omega) ?_) | (refine VIn.mk (IntWalk.i64_in _ (by omega)) ?_) | (refine VIdx.mk _ rfl (by omega) ?_) | (refine VIdx.mk 0 rfl (by omega) ?_))
    try (conv => whnf)
    refine VStore.cell (by kernel_rfl) (by rw [show addO 0 3 = 0 + 3 from rfl, m1 3 _ rfl]; rfl) (by rw [show addO 0 3 = 3 from rfl]; exact there_frozen t1 (by omega)) rfl rfl fun w2 hw2 => ?_
    have g2 : w1.grownBy w2 (some mb) := by rw [hw2.out]; exact grown_cell _ _ _ _
    have m2 : w2.rangeAt mb 0 (eDr ⟨r.d, A1, c1⟩) := by
      have := rng_put (o := 3) (vs := [.slice A1 r.d.body.length c1]) m1 t1 rfl (by simp)
      rw [hw2.out]; exact this
    have own2 : OwnA w2 wA.heap.size (F ++ [mb]) Aa ca al := own1.set (List.mem_append.2 (.inr (List.mem_singleton.2 rfl))) hA g2
    have b2' : Below wA.heap.size wA w2 := (hS _ ct1).grown g2 (hS _ ct1).size (by intro q hq; injection hq with hq; omega)
    have hnb : FarB w2 ((F ++ [mb]) ++ (blk Aa).toList) ⟨r.d, A1, c1⟩ := FarB.keep (w := w1) ⟨fun h0 => by
      obtain ⟨q, o, e1, q1, q2, q3⟩ := hf1 h0
      refine ⟨q, o, e1, q2, fun hm => ?_, q3⟩
      have := ct.size
      rcases List.mem_append.1 hm with e | e
      · rcases List.mem_append.1 e with e | e
        · have := h.hi q e; omega
        · have := List.mem_singleton.1 e; omega
      · rw [Option.mem_toList] at e
        have := (ownt.own.lo q e).2; omega, hc1, hc2⟩ g2.size fun q q1 q2 => g2.block q q1 (by intro e; injection e with e; subst e; exact q2 (List.mem_append.2 (.inl (List.mem_append.2 (.inr (List.mem_singleton.2 rfl))))))
    have Lm2 : Ld Try.prog 113 mb 0 (Eq w2) (.agg (drA ⟨r.d, A1, c1⟩)) := .of (load113 m2)
    repeat ((conv => whnf); first | (refine VLoad.mk _ Lm2 ?_) | (refine VCmp.tt (by omega) ?_) | (refine VCmp.ff (by omega) ?_) | (refine VIn.mk (IntWalk.i64_in _ (by omega)) ?_) | (refine VIdx.mk _ rfl (by omega) ?_) | (refine VIdx.mk 0 rfl (by omega) ?_))
    try (conv => whnf)
    refine VBs.mk _ _ (bs40 w2 ⟨r.d, A1, c1⟩) ?_
    have c3 : Below w2.heap.size w2 (w2.alloc (.cells (drA ⟨r.d, A1, c1⟩) 113)) := (Below.refl _ _).alloc (Nat.le_refl _) _
    have own3 := own2.below c3
    have z3 : (w2.alloc (.cells (drA ⟨r.d, A1, c1⟩) 113)).heap.size = w2.heap.size + 1 := by simp
    have hr3 := row_new w2 113 4 eDr ⟨r.d, A1, c1⟩ (drA ⟨r.d, A1, c1⟩) rfl
    have zz2 := b2'.size
    repeat ((conv => whnf); first | (refine VCmp.tt (by omega) ?_) | (refine VCmp.ff (by omega) ?_) | (refine VIn.mk (IntWalk.i64_in _ (by omega)) ?_) | (refine VIdx.mk _ rfl (by omega) ?_) | (refine VIdx.mk 0 rfl (by omega) ?_))
    try (conv => whnf)
    refine VApp.rows wA.heap.size 4 48 _ Try.underlying40 info113 rfl (by decide) eDr len_eDr one_eDr al [⟨r.d, A1, c1⟩] rfl rfl own3.own hr3 (by omega) (by omega) (by omega) fun A' c' w4 ho hg hkk => ?_
    have own4 : OwnA w4 wA.heap.size (F ++ [mb]) A' c' (al ++ [⟨r.d, A1, c1⟩]) := own3.push (fun y hy => by rw [List.mem_singleton.1 hy]; exact hnb.below c3) ho hg hkk
    have b4 : Below wA.heap.size wA w4 := (b2'.trans (c3.mono zz2)).grown hg (by omega) (fun q hq => (own3.own.lo q hq).1)
    repeat ((conv => whnf); first | (refine VCmp.tt (by omega) ?_) | (refine VCmp.ff (by omega) ?_) | (refine VIn.mk (IntWalk.i64_in _ (by omega)) ?_) | (refine VIdx.mk _ rfl (by omega) ?_) | (refine VIdx.mk 0 rfl (by omega) ?_))
    try (conv => whnf)
    refine .mk ⟨k + 1, j, A', c', P, al ++ [⟨r.d, A1, c1⟩]⟩ ⟨rfl, rfl, by show some (Value.slice A' (al.length + 1) c') = _; rw [List.length_append]; rfl, rfl, rfl, rfl, rfl, trivial⟩ ⟨by show k + 1 ≤ _; omega, ?_, own4.more (fun y hy => .inl (List.mem_append.2 (.inl hy))), b4, hP⟩ (by show rs.length - (k + 1) < rs.length - k; omega)
    have := hi.put h.inv.sort hdk hnext hput
    simpa using this
  obtain ⟨bM, oM, hMe, hPe⟩ := hP hj
  have hpj : ms[j]? = some ms[j] := List.getElem?_eq_getElem hj
  have hpm : ms[j] ∈ ms := List.getElem_mem _
  generalize ms[j] = p at hpj hpm
  have hsj : s.msgs[j]? = some p.d := by rw [← h.mm, List.getElem?_map, hpj]; rfl
  have hcell : ∀ W, Below wi.heap.size wi W → ∀ q u, (eDr p)[q]? = some u → W.cell? ⟨bM, oM + j * 4 + 0 * 4 + q, none⟩ = some u := fun W hW q u hu => by
    obtain ⟨b', o', e', _, hrow'⟩ := (hx W (hS W hW)).2.1.mrow.row (by omega)
    rw [hMe] at e'; injection e' with e'; injection e' with e1 e2; subst e1; subst e2
    rw [show oM + j * 4 + 0 * 4 + q = oM + j * 4 + q by omega]
    exact hrow' j p hpj q u hu
  have Lo8 : Ld Try.prog 113 bM (oM + j * 4 + 0 * 4) (fun W => Below wi.heap.size wi W) (.agg (drA p)) := ⟨fun W hW => load113 (fun q u hu => hcell W hW q u hu)⟩
  subst hPe
  repeat ((conv => whnf); first | (refine VLoad.mk _ Lo8 ?_) | (refine VLoad.mk _ Lm8 ?_) | (refine VCmp.tt (by omega) ?_) | (refine VCmp.ff (by omega) ?_) | (refine VIn.mk (IntWalk.i64_in _ (by omega)) ?_) | (refine VIdx.mk _ rfl (by omega) ?_) | (refine VIdx.mk 0 rfl (by omega) ?_))
  try (conv => whnf)
  refine VCall.mk _ (less_any p r wi.drew) ?_
  rintro _ x5 ⟨rfl, hb5⟩
  refine ⟨_, rfl, ?_⟩
  have c5 : Below wi.heap.size wi x5 := bid.trans hb5
  cases ha : aheadB p.d r.d with
  | true =>
    repeat ((conv => whnf); first | (refine VS.mk c5 ?_) | (refine VLoad.mk _ (Lo8.at c5) ?_) | (refine VCmp.tt (by omega) ?_) | (refine VCmp.ff (by omega) ?_) | (refine VIn.mk (IntWalk.i64_in _ (by omega)) ?_) | (refine VIdx.mk _ rfl (by omega) ?_) | (refine VIdx.mk 0 rfl (by omega) ?_))
    try (conv => whnf)
    refine VBs.mk _ _ (bs40 x5 p) ?_
    have c6 : Below x5.heap.size x5 (x5.alloc (.cells (drA p) 113)) := (Below.refl _ _).alloc (Nat.le_refl _) _
    have own5 := (hown.below c5).below c6
    have z6 : (x5.alloc (.cells (drA p) 113)).heap.size = x5.heap.size + 1 := by simp
    have hr6 := row_new x5 113 4 eDr p (drA p) rfl
    have b5 := hS _ c5
    have zz5 := c5.size
    have b6 : Below wA.heap.size wA (x5.alloc (.cells (drA p) 113)) := b5.trans (c6.mono (by omega))
    repeat ((conv => whnf); first | (refine VCmp.tt (by omega) ?_) | (refine VCmp.ff (by omega) ?_) | (refine VIn.mk (IntWalk.i64_in _ (by omega)) ?_) | (refine VIdx.mk _ rfl (by omega) ?_) | (refine VIdx.mk 0 rfl (by omega) ?_))
    try (conv => whnf)
    refine VApp.rows wA.heap.size 4 48 _ Try.underlying40 info113 rfl (by decide) eDr len_eDr one_eDr al [p] rfl rfl own5.own hr6 (by omega) (by omega) (by omega) fun A' c' w7 ho hg hkk => ?_
    have own7 : OwnA w7 wA.heap.size (F ++ [mb]) A' c' (al ++ [p]) := own5.push (fun y hy => by
      rw [List.mem_singleton.1 hy]
      exact farOld ((h.mS p hpm).more (F' := F ++ [mb]) (fun y hy => by
        rcases List.mem_append.1 hy with e1 | e1
        · exact .inl e1
        · rw [List.mem_singleton.1 e1]; exact .inr (by omega))) (hx _ b6).2.2.2.1 (fun q hq => by have := (own5.own.lo q hq).1; omega)) ho hg hkk
    have b7 : Below wA.heap.size wA w7 := b6.grown hg (by omega) (fun q hq => (own5.own.lo q hq).1)
    have hmx : (x5.alloc (.cells (drA p) 113)).heap[mb]? = wi.heap[mb]? := (c6.block mb (by omega)).trans (c5.block mb zi)
    have hm7 : w7.heap[mb]? = wi.heap[mb]? := (hg.block mb (by omega) (fun e => hA mb e.symm rfl)).trans hmx
    repeat ((conv => whnf); first | (refine VSl.mk 1 (ms.length - j) rfl rfl (by omega) (by omega) ?_) | (refine VCmp.tt (by omega) ?_) | (refine VCmp.ff (by omega) ?_) | (refine VIn.mk (IntWalk.i64_in _ (by omega)) ?_) | (refine VIdx.mk _ rfl (by omega) ?_) | (refine VIdx.mk 0 rfl (by omega) ?_))
    try (conv => whnf)
    refine .mk ⟨k, j + 1, A', c', if cM - j = 1 then some ⟨bM, oM + j * 4, none⟩ else (some ⟨bM, oM + j * 4, none⟩ : Option Addr).map (·.add (1 * 4)), al ++ [p]⟩ ⟨rfl, rfl, by show some (Value.slice A' (al.length + 1) c') = _; rw [List.length_append]; rfl, rfl, rfl, rfl, rfl, rfl, trivial⟩ ⟨?_, own7, b7, hP.next hmc.1 hj, range_same mi hm7, there_same ti hm7, by have := hg.size; omega, fun q hq => ?_⟩ (by show ms.length - (j + 1) < ms.length - j; omega)
    · have := hi.move hdk hsj ha
      simpa using this
    · rcases hkk with e1 | e1
      · rw [e1] at hq; exact hA q hq
      · rw [e1] at hq; injection hq with hq; omega
  | false =>
  repeat ((conv => whnf); first | (refine VS.mk c5 ?_) | (refine VCmp.tt (by omega) ?_) | (refine VCmp.ff (by omega) ?_) | (refine VIn.mk (IntWalk.i64_in _ (by omega)) ?_) | (refine VIdx.mk _ rfl (by omega) ?_) | (refine VIdx.mk 0 rfl (by omega) ?_))
  try (conv => whnf)
  have c5d : Below wi.heap.size wi x5.drew := c5.drew
  refine VDraw.mk 1000 [([0, 1, 2, 3, 4, 5, 6, 7], 8)] [9, 10] (fun W => Below wi.heap.size wi W) (by kernel_rfl) (by kernel_rfl) (c5d) ?_
  repeat ((conv => whnf); first | (refine VLoad.mk _ Lo8 ?_) | (refine VLoad.mk _ Lm8 ?_) | (refine VCmp.tt (by omega) ?_) | (refine VCmp.ff (by omega) ?_) | (refine VIn.mk (IntWalk.i64_in _ (by omega)) ?_) | (refine VIdx.mk _ rfl (by omega) ?_) | (refine VIdx.mk 0 rfl (by omega) ?_))
  try (conv => whnf)
  refine VCall.mk _ (less_any r p x5.drew) ?_
  rintro _ x7 ⟨rfl, hb7⟩
  refine ⟨_, rfl, ?_⟩
  have c7 : Below wi.heap.size wi x7 := c5d.trans (hb7.mono c5d.size)
  cases ha2 : aheadB r.d p.d with
  | true =>
    repeat ((conv => whnf); first | (refine VS.mk c7 ?_) | (refine VCmp.tt (by omega) ?_) | (refine VCmp.ff (by omega) ?_) | (refine VIn.mk (IntWalk.i64_in _ (by omega)) ?_) | (refine VIdx.mk _ rfl (by omega) ?_) | (refine VIdx.mk 0 rfl (by omega) ?_))
    try (conv => whnf)
    have hput : ∀ x, s.msgs[j]? = some x → aheadB r.d x = true := fun x hx0 => by
      rw [hsj] at hx0; injection hx0 with hx0; subst hx0; exact ha2
    have ct : Below wi.heap.size wi x7 := c7
    generalize x7 = wt at *
    have bt : Below wA.heap.size wA wt := hS _ ct
    have mt : wt.rangeAt mb 0 (eDr r) := range_same mi (ct.block mb zi)
    have tt : wt.there mb 0 4 := there_same ti (ct.block mb zi)
    have ownt := hown.below ct
    have ht52 := Ld.of (load52 (mt 3 _ rfl))
    have hrbody : RowAt wt N 1 eByte r.B r.d.body := ((hx _ bt).1.each r hmem).row
    repeat ((conv => whnf); first | (refine VLoad.mk _ ht52 ?_) | (refine VCmp.tt (by omega) ?_) | (refine VCmp.ff (by omega) ?_) | (refine VIn.mk (IntWalk.i64_in _ (by omega)) ?_) | (refine VIdx.mk _ rfl (by omega) ?_) | (refine VIdx.mk 0 rfl (by omega) ?_))
    try (conv => whnf)
    refine VApp.fresh 1 1 _ Try.underlying52 info5 rfl (by decide) eByte len_eByte one_eByte r.d.body rfl hrbody (by omega) (by omega) fun A1 c1 w1 hf1 hc1 hc2 hb1 => ?_
    have ct1 : Below wi.heap.size wi w1 := ct.trans (hb1.mono ct.size)
    have m1 : w1.rangeAt mb 0 (eDr r) := range_same mi (ct1.block mb zi)
    have t1 : w1.there mb 0 4 := there_same ti (ct1.block mb zi)
    have own1 := ownt.below hb1
    repeat ((conv => whnf); first | (refine VCmp.tt (by omega) ?_) | (refine VCmp.ff (by omega) ?_) | (refine VIn.mk (IntWalk.i64_in _ (by omega)) ?_) | (refine VIdx.mk _ rfl (by omega) ?_) | (refine VIdx.mk 0 rfl (by omega) ?_))
    try (conv => whnf)
    refine VStore.cell (by kernel_rfl) (by rw [show addO 0 3 = 0 + 3 from rfl, m1 3 _ rfl]; rfl) (by rw [show addO 0 3 = 3 from rfl]; exact there_frozen t1 (by omega)) rfl rfl fun w2 hw2 => ?_
    have g2 : w1.grownBy w2 (some mb) := by rw [hw2.out]; exact grown_cell _ _ _ _
    have m2 : w2.rangeAt mb 0 (eDr ⟨r.d, A1, c1⟩) := by
      have := rng_put (o := 3) (vs := [.slice A1 r.d.body.length c1]) m1 t1 rfl (by simp)
      rw [hw2.out]; exact this
    have own2 : OwnA w2 wA.heap.size (F ++ [mb]) Aa ca al := own1.set (List.mem_append.2 (.inr (List.mem_singleton.2 rfl))) hA g2
    have b2' : Below wA.heap.size wA w2 := (hS _ ct1).grown g2 (hS _ ct1).size (by intro q hq; injection hq with hq; omega)
    have hnb : FarB w2 ((F ++ [mb]) ++ (blk Aa).toList) ⟨r.d, A1, c1⟩ := FarB.keep (w := w1) ⟨fun h0 => by
      obtain ⟨q, o, e1, q1, q2, q3⟩ := hf1 h0
      refine ⟨q, o, e1, q2, fun hm => ?_, q3⟩
      have := ct.size
      rcases List.mem_append.1 hm with e | e
      · rcases List.mem_append.1 e with e | e
        · have := h.hi q e; omega
        · have := List.mem_singleton.1 e; omega
      · rw [Option.mem_toList] at e
        have := (ownt.own.lo q e).2; omega, hc1, hc2⟩ g2.size fun q q1 q2 => g2.block q q1 (by intro e; injection e with e; subst e; exact q2 (List.mem_append.2 (.inl (List.mem_append.2 (.inr (List.mem_singleton.2 rfl))))))
    have Lm2 : Ld Try.prog 113 mb 0 (Eq w2) (.agg (drA ⟨r.d, A1, c1⟩)) := .of (load113 m2)
    repeat ((conv => whnf); first | (refine VLoad.mk _ Lm2 ?_) | (refine VCmp.tt (by omega) ?_) | (refine VCmp.ff (by omega) ?_) | (refine VIn.mk (IntWalk.i64_in _ (by omega)) ?_) | (refine VIdx.mk _ rfl (by omega) ?_) | (refine VIdx.mk 0 rfl (by omega) ?_))
    try (conv => whnf)
    refine VBs.mk _ _ (bs40 w2 ⟨r.d, A1, c1⟩) ?_
    have c3 : Below w2.heap.size w2 (w2.alloc (.cells (drA ⟨r.d, A1, c1⟩) 113)) := (Below.refl _ _).alloc (Nat.le_refl _) _
    have own3 := own2.below c3
    have z3 : (w2.alloc (.cells (drA ⟨r.d, A1, c1⟩) 113)).heap.size = w2.heap.size + 1 := by simp
    have hr3 := row_new w2 113 4 eDr ⟨r.d, A1, c1⟩ (drA ⟨r.d, A1, c1⟩) rfl
    have zz2 := b2'.size
    repeat ((conv => whnf); first | (refine VCmp.tt (by omega) ?_) | (refine VCmp.ff (by omega) ?_) | (refine VIn.mk (IntWalk.i64_in _ (by omega)) ?_) | (refine VIdx.mk _ rfl (by omega) ?_) | (refine VIdx.mk 0 rfl (by omega) ?_))
    try (conv => whnf)
    refine VApp.rows wA.heap.size 4 48 _ Try.underlying40 info113 rfl (by decide) eDr len_eDr one_eDr al [⟨r.d, A1, c1⟩] rfl rfl own3.own hr3 (by omega) (by omega) (by omega) fun A' c' w4 ho hg hkk => ?_
    have own4 : OwnA w4 wA.heap.size (F ++ [mb]) A' c' (al ++ [⟨r.d, A1, c1⟩]) := own3.push (fun y hy => by rw [List.mem_singleton.1 hy]; exact hnb.below c3) ho hg hkk
    have b4 : Below wA.heap.size wA w4 := (b2'.trans (c3.mono zz2)).grown hg (by omega) (fun q hq => (own3.own.lo q hq).1)
    repeat ((conv => whnf); first | (refine VCmp.tt (by omega) ?_) | (refine VCmp.ff (by omega) ?_) | (refine VIn.mk (IntWalk.i64_in _ (by omega)) ?_) | (refine VIdx.mk _ rfl (by omega) ?_) | (refine VIdx.mk 0 rfl (by omega) ?_))
    try (conv => whnf)
    refine .mk ⟨k + 1, j, A', c', some ⟨bM, oM + j * 4, none⟩, al ++ [⟨r.d, A1, c1⟩]⟩ ⟨rfl, rfl, by show some (Value.slice A' (al.length + 1) c') = _; rw [List.length_append]; rfl, rfl, rfl, rfl, rfl, trivial⟩ ⟨by show k + 1 ≤ _; omega, ?_, own4.more (fun y hy => .inl (List.mem_append.2 (.inl hy))), b4, hP⟩ (by show rs.length - (k + 1) < rs.length - k; omega)
    have := hi.put h.inv.sort hdk hnext hput
    simpa using this
  | false =>
  repeat ((conv => whnf); first | (refine VS.mk c7 ?_) | (refine VCmp.tt (by omega) ?_) | (refine VCmp.ff (by omega) ?_) | (refine VIn.mk (IntWalk.i64_in _ (by omega)) ?_) | (refine VIdx.mk _ rfl (by omega) ?_) | (refine VIdx.mk 0 rfl (by omega) ?_))
  try (conv => whnf)
  have b7 := hS _ c7
  have c8 : Below wi.heap.size wi x7.drew := c7.drew
  have b8 := hS _ c8
  have p2 := Ld.of (load3 (hcell _ c8 2 _ rfl))
  have p3 := Ld.of (load52 (hcell _ c8 3 _ rfl))
  have m8 : x7.drew.rangeAt mb 0 (eDr r) := range_same mi (c8.block mb zi)
  have m82 := Ld.of (load3 (m8 2 _ rfl))
  have m83 := Ld.of (load52 (m8 3 _ rfl))
  have hpb := run_body (c := p.c) ((hx _ b8).2.1.mS p hpm).row.row
  have hrb8 := run_body (c := r.c) ((hx _ b8).1.each r hmem).row
  refine VDraw.mk 1000 [] [0, 1, 2, 3, 4, 5, 6, 7, 8, 9, 10, 11, 12, 13, 14, 15, 16, 17] (Eq x7.drew) (by kernel_rfl) (by kernel_rfl) (rfl) ?_
  by_cases hsb : p.d.b = r.d.b
  case neg =>
    repeat ((conv => whnf); first | (refine VLoad.mk _ p2 ?_) | (refine VLoad.mk _ p3 ?_) | (refine VLoad.mk _ m82 ?_) | (refine VLoad.mk _ m83 ?_) | (refine VConv.mk _ (Cv.of hpb) ?_) | (refine VConv.mk _ (Cv.of hrb8) ?_) | (refine VCmp.tt (by omega) ?_) | (refine VCmp.ff (by omega) ?_) | (refine VIn.mk (IntWalk.i64_in _ (by omega)) ?_) | (refine VIdx.mk _ rfl (by omega) ?_) | (refine VIdx.mk 0 rfl (by omega) ?_))
    try (conv => whnf)
    exact .mk (bad _ b8 82 (by rw [hadd, hi.fork hdk hsj ha ha2 (fun e => hsb e.1)]))
  by_cases hss : (strOfNums p.d.body).toList = (strOfNums r.d.body).toList
  case neg =>
    repeat ((conv => whnf); first | (refine VLoad.mk _ p2 ?_) | (refine VLoad.mk _ p3 ?_) | (refine VLoad.mk _ m82 ?_) | (refine VLoad.mk _ m83 ?_) | (refine VConv.mk _ (Cv.of hpb) ?_) | (refine VConv.mk _ (Cv.of hrb8) ?_) | (refine VCmp.ff hss ?_) | (refine VCmp.tt (by omega) ?_) | (refine VCmp.ff (by omega) ?_) | (refine VIn.mk (IntWalk.i64_in _ (by omega)) ?_) | (refine VIdx.mk _ rfl (by omega) ?_) | (refine VIdx.mk 0 rfl (by omega) ?_))
    try (conv => whnf)
    exact .mk (bad _ b8 82 (by rw [hadd, hi.fork hdk hsj ha ha2 (fun e => hss e.2)]))
  repeat ((conv => whnf); first | (refine VLoad.mk _ p2 ?_) | (refine VLoad.mk _ p3 ?_) | (refine VLoad.mk _ m82 ?_) | (refine VLoad.mk _ m83 ?_) | (refine VConv.mk _ (Cv.of hpb) ?_) | (refine VConv.mk _ (Cv.of hrb8) ?_) | (refine VCmp.tt hss ?_) | (refine VCmp.tt (by omega) ?_) | (refine VCmp.ff (by omega) ?_) | (refine VIn.mk (IntWalk.i64_in _ (by omega)) ?_) | (refine VIdx.mk _ rfl (by omega) ?_) | (refine VIdx.mk 0 rfl (by omega) ?_))
  try (conv => whnf)
  refine .mk ⟨k + 1, j, Aa, ca, some ⟨bM, oM + j * 4, none⟩, al⟩ ⟨rfl, rfl, rfl, rfl, rfl, rfl, rfl, trivial⟩ ⟨by show k + 1 ≤ _; omega, hi.same hdk hnext hsj ha ha2 ⟨hsb, hss⟩, (hown.below c8).more (fun y hy => .inl (List.mem_append.2 (.inl hy))), b8, hP⟩ (by show rs.length - (k + 1) < rs.length - k; omega)
end Go.Proofs.Ytcffhfcjfjfokaa
