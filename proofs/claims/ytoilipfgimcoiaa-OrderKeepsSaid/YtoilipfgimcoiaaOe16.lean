/- CrQ, joined. -/
import Derived.Test.YtoilipfgimcoiaaOe15
set_option linter.unusedVariables false
set_option linter.unusedSimpArgs false
namespace Go.Proofs.Ytoilipfgimcoiaa
open Go Go.RowKit
theorem LstAt.at {α β : Type} {w : World} {K : Nat → Nat} {q base n sz : Nat} {enc : α → List Value} {val : α → β} {bd : α → Option Addr × List Int} {R : Rw (Rw α)} {f : Nat → List β} (h : LstAt w K q base n sz enc val bd R f) {i g off : Nat} {x : Rw α} (hi : i < n) (eA : R.A = some ⟨g, off, none⟩) (hx : R.l[i]? = some x) : AtI w K q base sz enc val bd R (f i) i g off x := by
  obtain ⟨g', o2, x', h'⟩ := h.get hi
  have h1 := h'.eA
  rw [eA] at h1
  injection h1 with h1
  injection h1 with h1 h2 _
  subst h1 h2
  have h3 := h'.hx
  rw [hx] at h3
  injection h3 with h3
  subst h3
  exact h'
theorem VSl.cutTo {A : Option Addr} {n c es h : Nat} {K : Value → Prop} (hh : h ≤ c) (hk : K (.slice A h c)) : VSl A n c es 0 h K :=
  .mk 0 h rfl rfl (Nat.zero_le _) hh (by
    have e : (if c = 0 then A else A.map (·.add (0 * es))) = A := by
      split
      · rfl
      · cases A with
        | none => rfl
        | some a => simp [Addr.add]
    rw [e, Nat.sub_zero]; exact hk)
def Crw.send (v : Crw) (i : Nat) (body : List Int) : Crw := if (v.o i).free = 0 then v else
  { v with o := upN v.o i ((v.o i).keep ⟨pidN i, (v.o i).taken (pidN i) + 1, (v.o i).pre, body⟩), sent := upN v.sent i (v.sent i ++ [body]), made := upN v.made i (v.made i ++ [dIt (pidN i) ((v.o i).taken (pidN i) + 1) (v.o i).pre body]) }
theorem CI.free {v : Crw} {G : List Sl} {T : Nat} (h : CI v G T) {i : Nat} (hi : i < v.n) : (v.o i).free = if v.stop i = true then 0 else (v.win : Int) - (((v.o i).taken (pidN i) : Int) - ((v.o i).gone (pidN i) : Int)) := by
  unfold Os.free
  rw [h.frz i hi, (h.mi i hi).win, (h.mi i hi).self]
theorem CI.send' {v : Crw} {G : List Sl} {T : Nat} (h : CI v G T) {i : Nat} (hi : i < v.n) (body : List Int) (hb : body.length ≤ 9) : CI (v.send i body) G (T + 1) := by
  unfold Crw.send
  by_cases e : (v.o i).free = 0
  · rw [if_pos e]; exact h.mono (by omega)
  · rw [if_neg e]
    refine h.send hi body hb ?_
    have h1 := h.free hi
    have h2 := h.fr i i hi hi
    split at h1
    · exact absurd h1 e
    · omega
theorem info27 : (Try.prog.info? 27).map (fun i => (i.zero, i.size, i.bytes)) = some (some (.slice none 0 0), 1, 24) := by kernel_rfl
theorem bs41 (W : World) (A : Option Addr) (n c : Nat) : (Instr.buildSlice 41 1 #[(0, .slice A n c)]).run Try.prog W = .ok (.slice (some ⟨W.heap.size, 0, none⟩) 1 1) (W.alloc (.cells #[.slice A n c] 27)) := by kernel_rfl
theorem build80d (W : World) (a b c : Int) (A : Option Addr) (n m : Nat) : (Instr.build 80 #[(0, .int .i64 1), (1, .agg #[.int .i64 a, .int .i64 b, .int .i64 c, .slice A n m])]).run Try.prog W = .ok (.agg #[.int .i64 1, .int .i64 a, .int .i64 b, .int .i64 c, .slice A n m, .int .i64 0, .int .i64 0, .int .i64 0, .int .i64 0]) W := by kernel_rfl
theorem bs74x (W : World) (y : Itm) (A : Option Addr) (c n : Nat) : (Instr.buildSlice 74 1 #[(0, .agg (itA y A c n))]).run Try.prog W = .ok (.slice (some ⟨W.heap.size, 0, none⟩) 1 1) (W.alloc (.cells (itA y A c n) 80)) := by kernel_rfl
structure SnO (w : World) (K : Nat → Nat) (b : Nat) (v : Crw) (X : CwX) (i : Nat) (L : List Nat) (B : Option Addr) (b9 : List Int) (o' : Os) (x : World) (Kx : Nat → Nat) : Prop where
  C : CrwAt x Kx b { v with o := upN v.o i o' } X
  q : Ro (fun z => 0 < z ∧ z < 400) K Kx w x
  s : Sm L w x
  rb : RowK x Kx 1 eByte B b9
section
variable {w x y : World} {K Kx Ky : Nat → Nat} {b i : Nat} {v : Crw} {X : CwX} {L : List Nat} {B : Option Addr} {b9 : List Int} {o' o2 : Os}
theorem SnO.below (S : SnO w K b v X i L B b9 o' x Kx) (hL : ∀ g ∈ L, g < w.heap.size ∧ 0 < K g ∧ K g < 100) (h : Below x.heap.size x y) : SnO w K b v X i L B b9 o' y Kx :=
  ⟨S.C.below h, S.q.trans (Ro.below h), S.s.trans (.below h fun g hg => Nat.lt_of_lt_of_le (hL g hg).1 S.q.size), S.rb.ro (Ro.below (R := fun _ => False) h) id⟩
theorem SnO.box (S : SnO w K b v X i L B b9 o' x Kx) (hL : ∀ g ∈ L, g < w.heap.size ∧ 0 < K g ∧ K g < 100) {bt : Nat} (hbt : bt = x.heap.size) {cs : Array Value} {ty : TypeId} (h : y = x.alloc (.cells cs ty)) : SnO w K b v X i L B b9 o' y (upN Kx bt 300) := by
  have hb : Below x.heap.size x y := by rw [h]; exact (Below.refl _ _).alloc (Nat.le_refl _) _
  have hz : y.heap.size = x.heap.size + 1 := by rw [h]; exact World.size_alloc _ _
  have r : Ro (fun _ => False) Kx (upN Kx bt 300) x y := (Ro.below hb).role fun z hz => upN_ne _ _ (by omega)
  exact ⟨S.C.ro r (fun z hz => by rw [upN_ne _ _ (by omega)]; exact S.C.kz z (by omega)) fun _ h => h.elim, S.q.trans (r.more fun _ h => h.elim), S.s.trans (.below hb fun g hg => Nat.lt_of_lt_of_le (hL g hg).1 S.q.size), S.rb.ro r id⟩
theorem SnO.ord (S : SnO w K b v X i L B b9 o' x Kx) (hL : ∀ g ∈ L, g < w.heap.size ∧ 0 < K g ∧ K g < 100) {bj : Nat} {Y : OsX} (hi : i < v.n) (hbj : X.O.l[i]? = some bj) (A : OrdAt y Ky (100 + 4 * i) bj o2 Y) (r : Ro (inR (100 + 4 * i)) Kx Ky x y) : SnO w K b v X i L B b9 o2 y Ky := by
  have C := S.C.setO hi hbj A r
  refine ⟨?_, S.q.trans (r.more fun z h => by have n4 : v.n ≤ 4 := S.C.n; unfold inR at h; omega), S.s.trans (.ro r fun g hg => ?_), S.rb.ro r (by unfold inR; omega)⟩
  · have e : upN (upN v.o i o') i o2 = upN v.o i o2 := upN_upN _ _ _ _
    show CrwAt y Ky b { v with o := _ } X
    rw [← e]; exact C
  · obtain ⟨h1, h2, h3⟩ := hL g hg
    refine ⟨Nat.lt_of_lt_of_le h1 S.q.size, ?_⟩
    rw [S.q.kk g h1]; unfold inR; omega
theorem SnO.store (S : SnO w K b v X i L B b9 o' x Kx) (hL : ∀ g ∈ L, g < w.heap.size ∧ 0 < K g ∧ K g < 100) {bt : Nat} (hb : Kx bt = 300) {cs : List Value} (h : y = x.setCells bt 0 cs) : SnO w K b v X i L B b9 o' y Kx ∧ Ro (· = 300) Kx Kx x y := by
  have g : x.grownBy y (some bt) := by rw [h]; exact grown_sets _ _ _ _
  have r : Ro (· = 300) Kx Kx x y := Ro.grown g fun z hz => by injection hz with hz; rw [← hz]; exact hb
  refine ⟨⟨S.C.ro r (fun z hz => S.C.kz z (Nat.le_trans r.size hz)) fun z h => by omega, S.q.trans (r.more fun z h => by omega), S.s.trans (.ro r fun g hg => ?_), S.rb.ro r (by omega)⟩, r⟩
  obtain ⟨h1, h2, h3⟩ := hL g hg
  refine ⟨Nat.lt_of_lt_of_le h1 S.q.size, ?_⟩
  rw [S.q.kk g h1]; omega
theorem SnO.get (S : SnO w K b v X i L B b9 o' x Kx) (hi : i < v.n) {bj : Nat} (hbj : X.O.l[i]? = some bj) : ∃ Y, OrdAt x Kx (100 + 4 * i) bj o' Y := by
  obtain ⟨Y, h⟩ := S.C.os i bj hbj
  rw [show ({ v with o := upN v.o i o' } : Crw).o i = o' from upN_same _ _ _] at h
  exact ⟨Y, h⟩
end
section
variable {w : World} {K : Nat → Nat} {b : Nat} {v : Crw} {X : CwX} {G : List Sl} {T : Nat}
set_option maxRecDepth 100000 in
set_option maxHeartbeats 8000000 in
theorem csend_any (C : CrwAt w K b v X) (I : CI v G T) (hT : T ≤ 100000) {i : Nat} (hi : i < v.n) (body : List Int) {B : Option Addr} {cB nB : Nat} (hnB : body.length = nB) (hcB : nB ≤ cB) (hB : RowK w K 1 eByte B body) :
    Calls Try.prog 32 #[.pointer (some ⟨b, 0, none⟩), .int .i64 i, .slice B nB cB] w fun e w' => e = .returned (.bool true) ∧ ∃ K' X', CrwAt w' K' b (v.send i (body.take 9)) X' ∧ Ro (fun z => 0 < z ∧ z < 400) K K' w w' := by
  refine calls_vc tab_ok Try.func32 rfl ?_
  have hn4 := C.n
  have hbz := C.hb
  have hkb := C.kb
  obtain ⟨gS, oS, xS, aS⟩ := C.sent.get hi
  obtain ⟨gM, oM, xM, aM⟩ := C.made.get hi
  obtain ⟨gO, oO, bj, Y, eO, gO1, kO, hbj, cO, AO⟩ := C.ord hi
  obtain ⟨gP, oP, eP, gP1, kP, cP, fP⟩ := C.stp hi
  obtain ⟨L, hL⟩ : ∃ L, L = [b, gS, gM, gO, gP] := ⟨_, rfl⟩
  have M0 := C.l_sent (l := L) (by simp [hL])
  have M1 := C.l_made (l := L) (by simp [hL])
  have M2 := C.l_O (l := L) (by simp [hL])
  have M3 := C.l_stop (l := L) (by simp [hL])
  rw [aS.eA] at M0
  rw [aM.eA] at M1
  rw [eO] at M2
  rw [eP] at M3
  have N0 : Ld Try.prog 41 gS (oS + i) (Sm L w) (.slice xS.A (v.sent i).length xS.c) := ⟨fun W hW => load41s (cell_sm aS.hc (by simp [hL]) hW)⟩
  have N1 : Ld Try.prog 74 gM (oM + i) (Sm L w) (.slice xM.A (v.made i).length xM.c) := ⟨fun W hW => load74s (cell_sm aM.hc (by simp [hL]) hW)⟩
  have N2 : Ld Try.prog 42 gO (oO + i) (Sm L w) (.pointer (some ⟨bj, 0, none⟩)) := ⟨fun W hW => load42 (cell_sm cO (by simp [hL]) hW)⟩
  have N3 : Ld Try.prog 4 gP (oP + i) (Sm L w) (.bool (v.stop i)) := ⟨fun W hW => load4 (cell_sm cP (by simp [hL]) hW)⟩
  have s0 := Sm.refl L w
  have hLk : ∀ g ∈ L, g < w.heap.size ∧ 0 < K g ∧ K g < 100 := fun g hg => by
    rw [hL] at hg
    simp only [List.mem_cons, List.not_mem_nil, or_false] at hg
    have q1 := aS.hg
    have q2 := aM.hg
    have q3 := aS.hk
    have q4 := aM.hk
    rcases hg with rfl | rfl | rfl | rfl | rfl <;> omega
  have hlt : ∀ g ∈ L, g < w.heap.size := fun g hg => (hLk g hg).1
  obtain ⟨b9, hb9⟩ : ∃ b9, b9 = body.take 9 := ⟨_, rfl⟩
  have h9 : b9.length ≤ 9 := by rw [hb9, List.length_take]; omega
  have hB9 : RowK w K 1 eByte B b9 := fun hl => by
    obtain ⟨g, off, e, g1, g2, g3⟩ := hB (by rw [hb9, List.length_take] at hl; omega)
    exact ⟨g, off, e, g1, g2, fun k x hx => g3 k x (by rw [hb9] at hx; rw [List.getElem?_take] at hx; split at hx; exact hx; cases hx)⟩
  rw [← hb9]
  conv => whnf
  by_cases hlen : 9 < nB
  case neg =>
    have e9 : b9.length = nB := by rw [hb9, List.length_take]; omega
    repeat ((conv => whnf); first | (refine VLoad.mk _ (M2.at s0) ?_) | (refine VLoad.mk _ (N2.at s0) ?_) | (refine VCmp.tt (by omega) ?_) | (refine VCmp.ff (by omega) ?_) | (refine VIn.mk (IntWalk.i64_in _ (by omega)) ?_) | (refine VIdx.mk _ rfl (by omega) ?_) | (refine VIdx.mk 0 rfl (by omega) ?_))
    try (conv => whnf)
    clear hlen hB hnB hcB
    skip
    have WO := I.wf hT hi
    have hfree := I.free hi
    have hfr := I.fr i i hi hi
    have hse := I.se i hi
    have hown := I.own i hi
    refine VCall.mk _ (free_any AO WO.self (by have := WO.tk (v.o i).self; omega) (by have := WO.gn (v.o i).self; omega) WO.win) ?_
    rintro _ w1 ⟨rfl, b1⟩
    refine ⟨_, rfl, ?_⟩
    have s1 : Sm L w w1 := .below b1 hlt
    have sd1 : Sm L w w1.drew := s1
    have S1 : SnO w K b v X i L B b9 (v.o i) w1 K := by
      refine ⟨?_, Ro.below b1, s1, hB9.ro (Ro.below (R := fun _ => False) b1) id⟩
      rw [upN_id]; exact C.below b1
    have Sd1 := S1.below hLk (Below.refl _ w1).drew
    have hsf : (v.o i).self = pidN i := (I.mi i hi).self
    have htk : (v.o i).taken (v.o i).self + 1 ≤ 1000000000 := by rw [hsf, hown]; omega
    have hnew := WO.new (s := (v.o i).self) rfl
    have hql := (I.rm hT hi).ql
    repeat ((conv => whnf); first | (refine VCmp.tt (by omega) ?_) | (refine VCmp.ff (by omega) ?_) | (refine VIn.mk (IntWalk.i64_in _ (by omega)) ?_) | (refine VIdx.mk _ rfl (by omega) ?_) | (refine VIdx.mk 0 rfl (by omega) ?_))
    try (conv => whnf)
    refine VDraw.pl 1000 (.two [0, 1, 2, 3, 4, 5, 6, 7] 8 (.two [] 9 (.one [10, 11, 12] 13 (.one [] 14 (.stop [15]))) 13 (.one [] 9 (.one [10, 11, 12] 14 (.stop [15])))) 13 (.one [] 8 (.one [] 9 (.one [10, 11, 12] 14 (.stop [15]))))) (Sm L w) (by kernel_rfl) (sd1) ?_
    repeat ((conv => whnf); first | (refine VLoad.mk _ M2 ?_) | (refine VLoad.mk _ N2 ?_) | (refine VCmp.tt (by omega) ?_) | (refine VCmp.ff (by omega) ?_) | (refine VIn.mk (IntWalk.i64_in _ (by omega)) ?_) | (refine VIdx.mk _ rfl (by omega) ?_) | (refine VIdx.mk 0 rfl (by omega) ?_))
    try (conv => whnf)
    refine ⟨?_, ?_⟩
    · skip
      repeat ((conv => whnf); first | (refine VCmp.tt (by omega) ?_) | (refine VCmp.ff (by omega) ?_) | (refine VIn.mk (IntWalk.i64_in _ (by omega)) ?_) | (refine VIdx.mk _ rfl (by omega) ?_) | (refine VIdx.mk 0 rfl (by omega) ?_))
      try (conv => whnf)
      refine VCall.mk _ (copied_any B cB _ b9 w1.drew e9 Sd1.rb.row (by omega)) ?_
      rintro _ w2 ⟨B2, c2, rfl, n2, b2⟩
      refine ⟨_, rfl, ?_⟩
      have S2 := Sd1.below hLk b2
      have R2 : RowK w2 K 1 eByte B2 b9 := n2.rowK Sd1.C.kz
      repeat ((conv => whnf); first | (refine VS.mk S2.s ?_) | (refine VCmp.tt (by omega) ?_) | (refine VCmp.ff (by omega) ?_) | (refine VIn.mk (IntWalk.i64_in _ (by omega)) ?_) | (refine VIdx.mk _ rfl (by omega) ?_) | (refine VIdx.mk 0 rfl (by omega) ?_))
      try (conv => whnf)
      refine ⟨?_, ?_⟩
      · skip
        repeat ((conv => whnf); first | (refine VCmp.tt (by omega) ?_) | (refine VCmp.ff (by omega) ?_) | (refine VIn.mk (IntWalk.i64_in _ (by omega)) ?_) | (refine VIdx.mk _ rfl (by omega) ?_) | (refine VIdx.mk 0 rfl (by omega) ?_))
        try (conv => whnf)
        obtain ⟨Y2, A2⟩ := S2.get hi hbj
        refine VCall.mk _ (send_any A2 WO b9 htk hnew hql e9 R2.row) ?_
        rintro _ w3 ⟨A', c', rfl, -, K3, Y3, A3, q3, R3⟩
        refine ⟨_, rfl, ?_⟩
        have S3 := S2.ord hLk hi hbj A3 q3
        repeat ((conv => whnf); first | (refine VS.mk S3.s ?_) | (refine VCmp.tt (by omega) ?_) | (refine VCmp.ff (by omega) ?_) | (refine VIn.mk (IntWalk.i64_in _ (by omega)) ?_) | (refine VIdx.mk _ rfl (by omega) ?_) | (refine VIdx.mk 0 rfl (by omega) ?_))
        try (conv => whnf)
        refine .mk _ run_zero71 ?_
        conv => whnf
        refine .mk fun u4 hu4 => ?_
        obtain ⟨bt, hbt⟩ : ∃ bt, bt = w3.heap.size := ⟨_, rfl⟩
        have tu4 : u4.there bt 0 4 := by rw [hu4.out, hbt]; exact there_new _ _ _
        have Su4 := S3.box hLk hbt hu4.out
        have eu4 : Ro (fun _ => False) K3 (upN K3 bt 300) w3 u4 := (Ro.below (by rw [hu4.out]; exact (Below.refl _ w3).alloc (Nat.le_refl _) _)).role fun z hz => upN_ne _ _ (by omega)
        have ku4 : upN K3 bt 300 bt = 300 := upN_same _ _ _
        have bu4 : bt < u4.heap.size := by rw [hu4.out, hbt]; show w3.heap.size < _; rw [World.size_alloc]; omega
        rw [← hbt]
        clear hu4
        have R4 := R3.ro eu4 id
        repeat ((conv => whnf); first | (refine VS.mk Su4.s ?_) | (refine VCmp.tt (by omega) ?_) | (refine VCmp.ff (by omega) ?_) | (refine VIn.mk (IntWalk.i64_in _ (by omega)) ?_) | (refine VIdx.mk _ rfl (by omega) ?_) | (refine VIdx.mk 0 rfl (by omega) ?_))
        try (conv => whnf)
        refine VStore.mid (c := dtA ((v.o i).send b9).1 A' c' ((v.o i).send b9).1.b.length) tu4 (by kernel_rfl) (one_dtA _ _ _ _) fun w5 hw5 => ?_
        obtain ⟨S5, q5⟩ := Su4.store hLk ku4 hw5.out
        have r5 : w5.rangeAt bt 0 (dtA ((v.o i).send b9).1 A' c' ((v.o i).send b9).1.b.length).toList := by rw [hw5.out]; exact rng_in tu4 (by simp)
        have R5 := R4.ro q5 (by omega)
        have b5 : bt < w5.heap.size := by have := q5.size; omega
        clear hw5 tu4
        repeat ((conv => whnf); first | (refine VS.mk S5.s ?_) | (refine VCmp.tt (by omega) ?_) | (refine VCmp.ff (by omega) ?_) | (refine VIn.mk (IntWalk.i64_in _ (by omega)) ?_) | (refine VIdx.mk _ rfl (by omega) ?_) | (refine VIdx.mk 0 rfl (by omega) ?_))
        try (conv => whnf)
        have M2' := M2.at S5.s
        have N2' := N2.at S5.s
        have n256 : ¬ 256 < b9.length := by omega
        have q05 := S5.q
        cases hst : v.stop i with
        | true =>
          rw [hst, if_pos rfl] at hfree
          have hsend : (v.o i).send b9 = (dt0, 70, v.o i) := by unfold Os.send; rw [if_neg n256, if_pos (by rw [I.frz i hi]; exact hst)]
          rw [hst] at N3
          repeat ((conv => whnf); first | (refine VLoad.mk _ (M3.at S5.s) ?_) | (refine VLoad.mk _ (N3.at S5.s) ?_) | (refine VCmp.tt (by omega) ?_) | (refine VCmp.ff (by omega) ?_) | (refine VIn.mk (IntWalk.i64_in _ (by omega)) ?_) | (refine VIdx.mk _ rfl (by omega) ?_) | (refine VIdx.mk 0 rfl (by omega) ?_))
          try (conv => whnf)
          refine VCall.mk _ (num_any _ w5) ?_
          rintro _ x6 ⟨rfl, e6⟩
          subst x6
          refine ⟨_, rfl, ?_⟩
          have h1 : ((v.o i).send b9).2.1 = 70 := by rw [hsend]
          rw [h1, hfree]
          repeat ((conv => whnf); first | (refine VCmp.tt (by omega) ?_) | (refine VCmp.ff (by omega) ?_) | (refine VIn.mk (IntWalk.i64_in _ (by omega)) ?_) | (refine VIdx.mk _ rfl (by omega) ?_) | (refine VIdx.mk 0 rfl (by omega) ?_))
          try (conv => whnf)
          have C5 := S5.C
          rw [hsend, upN_id] at C5
          refine .mk ⟨rfl, (upN K3 bt 300), X, ?_, q05⟩
          have e : v.send i b9 = v := by unfold Crw.send; rw [if_pos hfree]
          rw [e]; exact C5
        | false =>
          rw [hst] at N3 hfree
          rw [if_neg (by decide)] at hfree
          by_cases hf0 : (v.o i).free = 0
          · have hsend : (v.o i).send b9 = (dt0, 71, v.o i) := by unfold Os.send; rw [if_neg n256, if_neg (by rw [I.frz i hi, hst]; decide), if_pos hf0]
            repeat ((conv => whnf); first | (refine VLoad.mk _ (M3.at S5.s) ?_) | (refine VLoad.mk _ (N3.at S5.s) ?_) | (refine VCmp.tt (by omega) ?_) | (refine VCmp.ff (by omega) ?_) | (refine VIn.mk (IntWalk.i64_in _ (by omega)) ?_) | (refine VIdx.mk _ rfl (by omega) ?_) | (refine VIdx.mk 0 rfl (by omega) ?_))
            try (conv => whnf)
            refine VCall.mk _ (num_any _ w5) ?_
            rintro _ x6 ⟨rfl, e6⟩
            subst x6
            refine ⟨_, rfl, ?_⟩
            have h1 : ((v.o i).send b9).2.1 = 71 := by rw [hsend]
            rw [h1]
            repeat ((conv => whnf); first | (refine VCmp.tt (by omega) ?_) | (refine VCmp.ff (by omega) ?_) | (refine VIn.mk (IntWalk.i64_in _ (by omega)) ?_) | (refine VIdx.mk _ rfl (by omega) ?_) | (refine VIdx.mk 0 rfl (by omega) ?_))
            try (conv => whnf)
            have C5 := S5.C
            rw [hsend, upN_id] at C5
            refine .mk ⟨rfl, (upN K3 bt 300), X, ?_, q05⟩
            have e : v.send i b9 = v := by unfold Crw.send; rw [if_pos hf0]
            rw [e]; exact C5
          · have hsend : (v.o i).send b9 = (⟨pidN i, (v.o i).taken (pidN i) + 1, (v.o i).pre, b9⟩, 0, (v.o i).keep ⟨pidN i, (v.o i).taken (pidN i) + 1, (v.o i).pre, b9⟩) := by
              unfold Os.send; rw [if_neg n256, if_neg (by rw [I.frz i hi, hst]; decide), if_neg hf0, hsf]
            obtain ⟨d, hd⟩ : ∃ d : Dt, d = ⟨pidN i, (v.o i).taken (pidN i) + 1, (v.o i).pre, b9⟩ := ⟨_, rfl⟩
            have h1 : ((v.o i).send b9).2.1 = 0 := by rw [hsend]
            have h2 : ((v.o i).send b9).1 = d := by rw [hsend, hd]
            have h3 : ((v.o i).send b9).2.2 = (v.o i).keep d := by rw [hsend, hd]
            rw [h2] at r5 R5
            rw [h3] at S5
            rw [h1, h2]
            clear h1 h2 h3
            have db : d.b = b9 := by rw [hd]
            have ds : d.s = pidN i := by rw [hd]
            have dq : d.q = (v.sent i).length + 1 := by rw [hd, ← hown]
            have dst : d.st = (v.o i).pre := by rw [hd]
            have sd5 : Sm L w w5 ∧ Sm [bt] w5 w5 := ⟨S5.s, Sm.refl _ _⟩
            have U0 : Ld Try.prog 3 bt 0 (Sm [bt] w5) (.int .i64 d.s) := ⟨fun W hW => load3 (cell_sm (r5 0 _ rfl) (by simp) hW)⟩
            have T0 : Ld Try.prog 3 bt 0 (fun W => Sm L w W ∧ Sm [bt] w5 W) (.int .i64 d.s) := U0.mono fun _ h => h.2
            have U1 : Ld Try.prog 3 bt 1 (Sm [bt] w5) (.int .i64 d.q) := ⟨fun W hW => load3 (cell_sm (r5 1 _ rfl) (by simp) hW)⟩
            have T1 : Ld Try.prog 3 bt 1 (fun W => Sm L w W ∧ Sm [bt] w5 W) (.int .i64 d.q) := U1.mono fun _ h => h.2
            have U2 : Ld Try.prog 3 bt 2 (Sm [bt] w5) (.int .i64 d.st) := ⟨fun W hW => load3 (cell_sm (r5 2 _ rfl) (by simp) hW)⟩
            have T3 : Ld Try.prog 27 bt 3 (fun W => Sm L w W ∧ Sm [bt] w5 W) (.slice A' d.b.length c') := ⟨fun W hW => load27 (cell_sm (r5 3 _ rfl) (by simp) hW.2)⟩
            have epid : (3 * (i : Int) + 1) = ((pidN i : Nat) : Int) := by unfold pidN; omega
            repeat ((conv => whnf); first | (refine VLoad.mk _ (M3.at S5.s) ?_) | (refine VLoad.mk _ (N3.at S5.s) ?_) | (refine VCmp.tt (by omega) ?_) | (refine VCmp.ff (by omega) ?_) | (refine VIn.mk (IntWalk.i64_in _ (by omega)) ?_) | (refine VIdx.mk _ rfl (by omega) ?_) | (refine VIdx.mk 0 rfl (by omega) ?_))
            try (conv => whnf)
            refine VDraw.pl 1000 (.one [0] 1 (.one [2, 3, 4, 5, 6] 7 (.one [8, 9, 10, 11, 12, 13, 14, 15, 16, 17, 18, 19, 20, 21, 22, 23, 24, 25, 26, 27] 28 (.one [29, 30, 31, 32, 33, 34, 35, 36, 37, 38, 40, 41] 39 (.stop [42, 43]))))) (fun W => Sm L w W ∧ Sm [bt] w5 W) (by kernel_rfl) (sd5) ?_
            repeat ((conv => whnf); first | (refine VCmp.tt (by omega) ?_) | (refine VCmp.ff (by omega) ?_) | (refine VIn.mk (IntWalk.i64_in _ (by omega)) ?_) | (refine VIdx.mk _ rfl (by omega) ?_) | (refine VIdx.mk 0 rfl (by omega) ?_))
            try (conv => whnf)
            refine VCall.mk _ (num_any _ w5.drew) ?_
            rintro _ x6 ⟨rfl, e6⟩
            subst x6
            refine ⟨_, rfl, ?_⟩
            repeat ((conv => whnf); first | (refine VS.mk sd5 ?_) | (refine VLoad.mk _ T0 ?_) | (refine VCmp.tt (by omega) ?_) | (refine VCmp.ff (by omega) ?_) | (refine VIn.mk (IntWalk.i64_in _ (by omega)) ?_) | (refine VIdx.mk _ rfl (by omega) ?_) | (refine VIdx.mk 0 rfl (by omega) ?_))
            try (conv => whnf)
            refine VCall.mk _ (pid_any i w5.drew (by omega) (by omega)) ?_
            rintro _ x6 ⟨rfl, e6⟩
            subst x6
            refine ⟨_, rfl, ?_⟩
            rw [epid]
            repeat ((conv => whnf); first | (refine VS.mk sd5 ?_) | (refine VLoad.mk _ T1 ?_) | (refine VLoad.mk _ (M0.mono fun _ h => h.1) ?_) | (refine VLoad.mk _ (N0.mono fun _ h => h.1) ?_) | (refine VLoad.mk _ T3 ?_) | (refine VCmp.tt (by omega) ?_) | (refine VCmp.ff (by omega) ?_) | (refine VIn.mk (IntWalk.i64_in _ (by omega)) ?_) | (refine VIdx.mk _ rfl (by omega) ?_) | (refine VIdx.mk 0 rfl (by omega) ?_))
            try (conv => whnf)
            have Sd5 := S5.below hLk (Below.refl _ w5).drew
            have Rd5 := R5.ro (Ro.below (R := fun _ => False) (Below.refl _ w5).drew) id
            refine VCall.mk _ (sameBytes_any A' B c' cB d.b.length nB w5.drew.heap.size d.b b9 w5.drew rfl e9 (Nat.le_refl _) Rd5.row Sd5.rb.row (by rw [db]; omega)) ?_
            rintro _ w6 ⟨rfl, b6⟩
            refine ⟨_, rfl, ?_⟩
            have S6 := Sd5.below hLk b6
            have b56 : Below w5.heap.size w5 w6 := (Below.refl _ w5).drew.trans b6
            have sd6 : Sm L w w6 ∧ Sm [bt] w5 w6 := ⟨S6.s, .below b56 fun g hg => by rw [List.mem_singleton.1 hg]; exact b5⟩
            rw [decide_eq_true (show d.b = b9 from db)]
            have hfb : (v.o i).free ≤ 2000000000 ∧ -1000000000 ≤ (v.o i).free := by have := I.w4; have := WO.gn (pidN i); omega
            repeat ((conv => whnf); first | (refine VS.mk sd6 ?_) | (refine VLoad.mk _ (M2.mono fun _ h => h.1) ?_) | (refine VLoad.mk _ (N2.mono fun _ h => h.1) ?_) | (refine VCmp.tt (by omega) ?_) | (refine VCmp.ff (by omega) ?_) | (refine VIn.mk (IntWalk.i64_in _ (by omega)) ?_) | (refine VIdx.mk _ rfl (by omega) ?_) | (refine VIdx.mk 0 rfl (by omega) ?_))
            try (conv => whnf)
            obtain ⟨Y6, A6⟩ := S6.get hi hbj
            have kf : ((v.o i).keep d).free = (v.o i).free - 1 := by
              have e1 : ((v.o i).keep d).free = if (v.o i).frz = true then 0 else ((v.o i).win : Int) - (((upN (v.o i).taken d.s d.q (v.o i).self : Nat) : Int) - ((v.o i).gone (v.o i).self : Int)) := rfl
              have e2 : (v.o i).frz = false := by rw [I.frz i hi, hst]
              rw [e1, e2, hfree, if_neg (by decide), hsf, ds, upN_same, dq, (I.mi i hi).win, hown]
              omega
            have kt : ((v.o i).keep d).taken ((v.o i).keep d).self = d.q := by
              show upN (v.o i).taken d.s d.q (v.o i).self = _
              rw [hsf, ds, upN_same]
            refine VCall.mk _ (free_any A6 WO.self (by rw [kt, dq]; omega) (by have := WO.gn (v.o i).self; show (v.o i).gone (v.o i).self ≤ _; omega) WO.win) ?_
            rintro _ w7 ⟨rfl, b7⟩
            refine ⟨_, rfl, ?_⟩
            rw [kf]
            have S7 := S6.below hLk b7
            have sd7 : Sm L w w7 ∧ Sm [bt] w5 w7 := ⟨S7.s, sd6.2.trans (.below b7 fun g hg => by rw [List.mem_singleton.1 hg]; exact Nat.lt_of_lt_of_le b5 b56.size)⟩
            repeat ((conv => whnf); first | (refine VS.mk sd7 ?_) | (refine VCmp.tt (by omega) ?_) | (refine VCmp.ff (by omega) ?_) | (refine VIn.mk (IntWalk.i64_in _ (by omega)) ?_) | (refine VIdx.mk _ rfl (by omega) ?_) | (refine VIdx.mk 0 rfl (by omega) ?_))
            try (conv => whnf)
            refine VDraw.pl 17 (.one [0, 1, 2, 3, 4, 5, 6, 7, 8, 9, 10, 11, 12] 13 (.one [] 14 (.one [] 15 (.one [16] 17 (.stop []))))) (Sm L w) (by kernel_rfl) (S7.s) ?_
            repeat ((conv => whnf); first | (refine VLoad.mk _ M0 ?_) | (refine VLoad.mk _ N0 ?_) | (refine VCmp.tt (by omega) ?_) | (refine VCmp.ff (by omega) ?_) | (refine VIn.mk (IntWalk.i64_in _ (by omega)) ?_) | (refine VIdx.mk _ rfl (by omega) ?_) | (refine VIdx.mk 0 rfl (by omega) ?_))
            try (conv => whnf)
            have Sd7 := S7.below hLk (Below.refl _ w7).drew
            refine VCall.mk _ (copied_any B cB _ b9 w7.drew e9 Sd7.rb.row (by omega)) ?_
            rintro _ w8 ⟨B8, c8, rfl, n8, b8⟩
            refine ⟨_, rfl, ?_⟩
            have S8 := Sd7.below hLk b8
            have R8 : RowK w8 (upN K3 bt 300) 1 eByte B8 b9 := n8.rowK Sd7.C.kz
            repeat ((conv => whnf); first | (refine VS.mk S8.s ?_) | (refine VCmp.tt (by omega) ?_) | (refine VCmp.ff (by omega) ?_) | (refine VIn.mk (IntWalk.i64_in _ (by omega)) ?_) | (refine VIdx.mk _ rfl (by omega) ?_) | (refine VIdx.mk 0 rfl (by omega) ?_))
            try (conv => whnf)
            refine VBs.mk _ _ (bs41 w8 B8 nB c8) ?_
            have ba9 : Below w8.heap.size w8 (w8.alloc (.cells #[.slice B8 nB c8] 27)) := (Below.refl _ _).alloc (Nat.le_refl _) _
            have hnc9 : ∀ j u, (eBx ⟨B8, c8, b9⟩)[j]? = some u → (w8.alloc (.cells #[.slice B8 nB c8] 27)).cell? ⟨w8.heap.size, j, none⟩ = some u := fun j u hu => by
              have := range_new w8 #[.slice B8 nB c8] 27 j u (by rw [← hu]; unfold eBx; rw [e9])
              rwa [Nat.zero_add] at this
            have z9 : (w8.alloc (.cells #[.slice B8 nB c8] 27)).heap.size = w8.heap.size + 1 := World.size_alloc _ _
            generalize w8.alloc (.cells #[.slice B8 nB c8] 27) = w9 at ba9 hnc9 z9 ⊢
            have S9 := S8.below hLk ba9
            have R9 : RowK w9 (upN K3 bt 300) 1 eByte B8 b9 := R8.ro (Ro.below (R := fun _ => False) ba9) id
            repeat ((conv => whnf); first | (refine VS.mk S9.s ?_) | (refine VCmp.tt (by omega) ?_) | (refine VCmp.ff (by omega) ?_) | (refine VIn.mk (IntWalk.i64_in _ (by omega)) ?_) | (refine VIdx.mk _ rfl (by omega) ?_) | (refine VIdx.mk 0 rfl (by omega) ?_))
            try (conv => whnf)
            have a9 := S9.C.sent.at hi aS.eA aS.hx
            refine VApp.off 1 24 _ Try.underlying41 info27 rfl (by decide) eBx (fun _ => rfl) one_eBx xS.l ⟨B8, c8, b9⟩ aS.ln a9.ow hnc9 S9.C.kz (by omega) (by omega) fun A10 c10 K10 w10 o10 q10 kz10 => ?_
            have kL : ∀ g ∈ L, K g < 10 := fun g hg => by
              rw [hL] at hg
              simp only [List.mem_cons, List.not_mem_nil, or_false] at hg
              have q3 := aS.hk
              have q4 := aM.hk
              rcases hg with rfl | rfl | rfl | rfl | rfl <;> omega
            have hLs : ∀ g ∈ L, g < w9.heap.size ∧ (upN K3 bt 300) g < 10 := fun g hg => by
              have h1 := hlt g hg
              refine ⟨Nat.lt_of_lt_of_le h1 S9.q.size, ?_⟩
              rw [S9.q.kk g h1]; exact kL g hg
            have s10 : Sm L w w10 := S9.s.trans (.ro q10 fun g hg => ⟨(hLs g hg).1, by have := (hLs g hg).2; omega⟩)
            repeat ((conv => whnf); first | (refine VS.mk s10 ?_) | (refine VCmp.tt (by omega) ?_) | (refine VCmp.ff (by omega) ?_) | (refine VIn.mk (IntWalk.i64_in _ (by omega)) ?_) | (refine VIdx.mk _ rfl (by omega) ?_) | (refine VIdx.mk 0 rfl (by omega) ?_))
            try (conv => whnf)
            refine VStore.cell (by kernel_rfl) (by rw [show oS + mulO i 1 = oS + i from rfl, cell_sm aS.hc (by simp [hL]) s10]; rfl) ((World.frozen?_of_block (a := ⟨gS, _, none⟩) (s10 gS (by simp [hL]))).trans aS.hf) rfl rfl fun w11 hw11 => ?_
            obtain ⟨C11, q11⟩ := S9.C.push_sent hi a9 ⟨B8, c8, b9⟩ o10 (R9.ro q10 (by omega)) q10 kz10 (w2 := w11) (by rw [hw11.out]; rfl)
            clear hw11 s10 q10 o10 hnc9
            have S6s := sd7.2
            have kbt9 : (upN K3 bt 300) bt = 300 := ku4
            have hbt9 : bt < w9.heap.size := Nat.lt_of_lt_of_le b5 (Nat.le_trans b56.size (Nat.le_trans b7.size (Nat.le_trans b8.size ba9.size)))
            have sb11 : Sm [bt] w5 w11 := (S6s.trans (.below ((Below.refl _ w7).drew.trans (Below.trans b8 (ba9.mono b8.size))) fun g hg => by rw [List.mem_singleton.1 hg]; exact Nat.lt_of_lt_of_le b5 (Nat.le_trans b56.size b7.size))).trans (.ro q11 fun g hg => by rw [List.mem_singleton.1 hg]; exact ⟨hbt9, by rw [kbt9]; omega⟩)
            have hbM : b < w9.heap.size ∧ gM < w9.heap.size ∧ (upN K3 bt 300) b = 1 ∧ (upN K3 bt 300) gM = 4 := by
              have h1 := (hLk b (by simp [hL])).1
              have h2 := (hLk gM (by simp [hL])).1
              exact ⟨Nat.lt_of_lt_of_le h1 S9.q.size, Nat.lt_of_lt_of_le h2 S9.q.size, (S9.q.kk b h1).trans hkb, (S9.q.kk gM h2).trans aM.hk⟩
            have R11 : RowK w11 K10 1 eByte B b9 := S9.rb.ro q11 (by omega)
            have P1 := C11.l_made (l := [b, gM]) (by simp)
            have e11 : ({ X with sent := ⟨X.sent.A, X.sent.c, X.sent.l.set i ⟨A10, c10, xS.l ++ [⟨B8, c8, b9⟩]⟩⟩ } : CwX).made = X.made := rfl
            rw [e11, aM.eA] at P1
            have a11 := C11.made.at hi aM.eA aM.hx
            have P2 : Ld Try.prog 74 gM (oM + i) (Sm [b, gM] w11) (.slice xM.A (v.made i).length xM.c) := ⟨fun W hW => load74s (cell_sm a11.hc (by simp) hW)⟩
            have sd11 : Sm [b, gM] w11 w11 ∧ Sm [bt] w5 w11 := ⟨Sm.refl _ _, sb11⟩
            repeat ((conv => whnf); first | (refine VS.last rfl ?_) | (refine VCmp.tt (by omega) ?_) | (refine VCmp.ff (by omega) ?_) | (refine VIn.mk (IntWalk.i64_in _ (by omega)) ?_) | (refine VIdx.mk _ rfl (by omega) ?_) | (refine VIdx.mk 0 rfl (by omega) ?_))
            try (conv => whnf)
            refine VDraw.pl 25 (.one [0, 1, 2, 3, 4, 5, 6, 7, 8, 9, 10, 11, 12, 13, 14, 15, 16, 17, 18] 19 (.one [20, 21] 22 (.one [] 23 (.one [24] 25 (.stop []))))) (fun W => Sm [b, gM] w11 W ∧ Sm [bt] w5 W) (by kernel_rfl) (sd11) ?_
            repeat ((conv => whnf); first | (refine VLoad.mk _ (P1.mono fun _ h => h.1) ?_) | (refine VLoad.mk _ (P2.mono fun _ h => h.1) ?_) | (refine VLoad.mk _ (U0.mono fun _ h => h.2) ?_) | (refine VLoad.mk _ (U1.mono fun _ h => h.2) ?_) | (refine VLoad.mk _ (U2.mono fun _ h => h.2) ?_) | (refine VCmp.tt (by omega) ?_) | (refine VCmp.ff (by omega) ?_) | (refine VIn.mk (IntWalk.i64_in _ (by omega)) ?_) | (refine VIdx.mk _ rfl (by omega) ?_) | (refine VIdx.mk 0 rfl (by omega) ?_))
            try (conv => whnf)
            have hd11 : Below w11.heap.size w11 w11.drew := (Below.refl _ w11).drew
            have R11d := R11.ro (Ro.below (R := fun _ => False) hd11) id
            refine VCall.mk _ (copied_any B cB _ b9 w11.drew e9 R11d.row (by omega)) ?_
            rintro _ w12 ⟨B12, c12, rfl, n12, b12⟩
            refine ⟨_, rfl, ?_⟩
            have b12' : Below w11.heap.size w11 w12 := hd11.trans b12
            have C12 := C11.below b12'
            have R12 : RowK w12 K10 1 eByte B12 b9 := n12.rowK fun y hy => C11.kz y hy
            have b11s : ∀ g ∈ [b, gM], g < w11.heap.size := fun g hg => by
              simp only [List.mem_cons, List.not_mem_nil, or_false] at hg
              have := q11.size
              rcases hg with rfl | rfl <;> omega
            have bt11 : bt < w11.heap.size := Nat.lt_of_lt_of_le hbt9 q11.size
            have sd12 : Sm [b, gM] w11 w12 ∧ Sm [bt] w5 w12 := ⟨.below b12' b11s, sb11.trans (.below b12' fun g hg => by rw [List.mem_singleton.1 hg]; exact bt11)⟩
            repeat ((conv => whnf); first | (refine VS.mk sd12 ?_) | (refine VCmp.tt (by omega) ?_) | (refine VCmp.ff (by omega) ?_) | (refine VIn.mk (IntWalk.i64_in _ (by omega)) ?_) | (refine VIdx.mk _ rfl (by omega) ?_) | (refine VIdx.mk 0 rfl (by omega) ?_))
            try (conv => whnf)
            refine VBuild.mk _ (fun W' => build71 W' d.s d.q d.st B12 nB c12) ?_
            repeat ((conv => whnf); first | (refine VS.mk sd12 ?_) | (refine VCmp.tt (by omega) ?_) | (refine VCmp.ff (by omega) ?_) | (refine VIn.mk (IntWalk.i64_in _ (by omega)) ?_) | (refine VIdx.mk _ rfl (by omega) ?_) | (refine VIdx.mk 0 rfl (by omega) ?_))
            try (conv => whnf)
            refine VBuild.mk _ (fun W' => build80d W' d.s d.q d.st B12 nB c12) ?_
            repeat ((conv => whnf); first | (refine VS.mk sd12 ?_) | (refine VCmp.tt (by omega) ?_) | (refine VCmp.ff (by omega) ?_) | (refine VIn.mk (IntWalk.i64_in _ (by omega)) ?_) | (refine VIdx.mk _ rfl (by omega) ?_) | (refine VIdx.mk 0 rfl (by omega) ?_))
            try (conv => whnf)
            refine VBs.mk _ _ (bs74x w12 (dIt d.s d.q d.st b9) B12 c12 nB) ?_
            have ba13 : Below w12.heap.size w12 (w12.alloc (.cells (itA (dIt d.s d.q d.st b9) B12 c12 nB) 80)) := (Below.refl _ _).alloc (Nat.le_refl _) _
            have hnc13 : ∀ j u, (eIx ⟨dIt d.s d.q d.st b9, B12, c12⟩)[j]? = some u → (w12.alloc (.cells (itA (dIt d.s d.q d.st b9) B12 c12 nB) 80)).cell? ⟨w12.heap.size, j, none⟩ = some u := fun j u hu => by
              have := range_new w12 (itA (dIt d.s d.q d.st b9) B12 c12 nB) 80 j u (by rw [← hu]; unfold eIx; show _ = (itA _ _ _ b9.length).toList[j]?; rw [e9])
              rwa [Nat.zero_add] at this
            have z13 : (w12.alloc (.cells (itA (dIt d.s d.q d.st b9) B12 c12 nB) 80)).heap.size = w12.heap.size + 1 := World.size_alloc _ _
            generalize w12.alloc (.cells (itA (dIt d.s d.q d.st b9) B12 c12 nB) 80) = w13 at ba13 hnc13 z13 ⊢
            have C13 := C12.below ba13
            have R13 : RowK w13 K10 1 eByte B12 b9 := R12.ro (Ro.below (R := fun _ => False) ba13) id
            have b13' : Below w11.heap.size w11 w13 := b12'.trans (ba13.mono b12'.size)
            have sd13 : Sm [b, gM] w11 w13 ∧ Sm [bt] w5 w13 := ⟨.below b13' b11s, sb11.trans (.below b13' fun g hg => by rw [List.mem_singleton.1 hg]; exact bt11)⟩
            repeat ((conv => whnf); first | (refine VS.mk sd13 ?_) | (refine VCmp.tt (by omega) ?_) | (refine VCmp.ff (by omega) ?_) | (refine VIn.mk (IntWalk.i64_in _ (by omega)) ?_) | (refine VIdx.mk _ rfl (by omega) ?_) | (refine VIdx.mk 0 rfl (by omega) ?_))
            try (conv => whnf)
            have a13 := C13.made.at hi aM.eA aM.hx
            have hml : (v.made i).length ≤ 500000 := Nat.le_trans (I.madeLen hi) (by omega)
            refine VApp.off 9 88 _ Try.underlying74 info80 rfl (by decide) eIx (fun _ => rfl) one_eIx xM.l ⟨dIt d.s d.q d.st b9, B12, c12⟩ aM.ln a13.ow hnc13 C13.kz (by omega) (by omega) fun A14 c14 K14 w14 o14 q14 kz14 => ?_
            have kM11 : K10 gM = 4 ∧ K10 b = 1 ∧ K10 bt = 300 := by
              have h1 := q11.kk gM hbM.2.1
              have h2 := q11.kk b hbM.1
              have h3 := q11.kk bt hbt9
              exact ⟨h1.trans hbM.2.2.2, h2.trans hbM.2.2.1, h3.trans kbt9⟩
            have hs13 := b13'.size
            have s14 : Sm [b, gM] w11 w14 := sd13.1.trans (.ro q14 fun g hg => by
              refine ⟨Nat.lt_of_lt_of_le (b11s g hg) hs13, ?_⟩
              simp only [List.mem_cons, List.not_mem_nil, or_false] at hg
              rcases hg with rfl | rfl <;> omega)
            have sb14 : Sm [bt] w5 w14 := sd13.2.trans (.ro q14 fun g hg => by rw [List.mem_singleton.1 hg]; exact ⟨Nat.lt_of_lt_of_le bt11 hs13, by omega⟩)
            repeat ((conv => whnf); first | (refine VS.mk ⟨s14, sb14⟩ ?_) | (refine VCmp.tt (by omega) ?_) | (refine VCmp.ff (by omega) ?_) | (refine VIn.mk (IntWalk.i64_in _ (by omega)) ?_) | (refine VIdx.mk _ rfl (by omega) ?_) | (refine VIdx.mk 0 rfl (by omega) ?_))
            try (conv => whnf)
            refine VStore.cell (by kernel_rfl) (by rw [show oM + mulO i 1 = oM + i from rfl, cell_sm a11.hc (by simp) s14]; rfl) ((World.frozen?_of_block (a := ⟨gM, _, none⟩) (s14 gM (by simp))).trans a11.hf) rfl rfl fun w15 hw15 => ?_
            obtain ⟨C15, q15⟩ := C13.push_made hi a13 ⟨dIt d.s d.q d.st b9, B12, c12⟩ o14 (R13.ro q14 (by omega)) q14 kz14 (w2 := w15) (by rw [hw15.out]; rfl)
            clear hw15 s14 sb14 q14 o14 hnc13
            repeat ((conv => whnf); first | (refine VS.last rfl ?_) | (refine VCmp.tt (by omega) ?_) | (refine VCmp.ff (by omega) ?_) | (refine VIn.mk (IntWalk.i64_in _ (by omega)) ?_) | (refine VIdx.mk _ rfl (by omega) ?_) | (refine VIdx.mk 0 rfl (by omega) ?_))
            try (conv => whnf)
            have qa : Ro (fun z => 0 < z ∧ z < 400) K (upN K3 bt 300) w w9 := S9.q
            have qb : Ro (fun z => 0 < z ∧ z < 400) (upN K3 bt 300) K10 w9 w11 := q11.more fun z hz => by omega
            have qc : Ro (fun z => 0 < z ∧ z < 400) K10 K10 w11 w13 := Ro.below b13'
            have qd : Ro (fun z => 0 < z ∧ z < 400) K10 K14 w13 w15 := q15.more fun z hz => by omega
            have ev : v.send i b9 = { v with o := upN v.o i ((v.o i).keep d), sent := upN v.sent i (v.sent i ++ [b9]), made := upN v.made i (v.made i ++ [dIt d.s d.q d.st b9]) } := by
              unfold Crw.send; rw [if_neg hf0, hd]
            rw [ev]
            exact .mk ⟨rfl, K14, _, C15, ((qa.trans qb).trans qc).trans qd⟩
      · skip
        repeat ((conv => whnf); first | (refine VCmp.tt (by omega) ?_) | (refine VCmp.ff (by omega) ?_) | (refine VIn.mk (IntWalk.i64_in _ (by omega)) ?_) | (refine VIdx.mk _ rfl (by omega) ?_) | (refine VIdx.mk 0 rfl (by omega) ?_))
        try (conv => whnf)
        refine .mk _ run_zero71 ?_
        conv => whnf
        refine .mk fun u3 hu3 => ?_
        obtain ⟨bt, hbt⟩ : ∃ bt, bt = w2.heap.size := ⟨_, rfl⟩
        have tu3 : u3.there bt 0 4 := by rw [hu3.out, hbt]; exact there_new _ _ _
        have Su3 := S2.box hLk hbt hu3.out
        have eu3 : Ro (fun _ => False) K (upN K bt 300) w2 u3 := (Ro.below (by rw [hu3.out]; exact (Below.refl _ w2).alloc (Nat.le_refl _) _)).role fun z hz => upN_ne _ _ (by omega)
        have ku3 : upN K bt 300 bt = 300 := upN_same _ _ _
        have bu3 : bt < u3.heap.size := by rw [hu3.out, hbt]; show w2.heap.size < _; rw [World.size_alloc]; omega
        rw [← hbt]
        clear hu3
        have R3 := R2.ro eu3 id
        repeat ((conv => whnf); first | (refine VS.mk Su3.s ?_) | (refine VCmp.tt (by omega) ?_) | (refine VCmp.ff (by omega) ?_) | (refine VIn.mk (IntWalk.i64_in _ (by omega)) ?_) | (refine VIdx.mk _ rfl (by omega) ?_) | (refine VIdx.mk 0 rfl (by omega) ?_))
        try (conv => whnf)
        obtain ⟨Y2, A2⟩ := Su3.get hi hbj
        refine VCall.mk _ (send_any A2 WO b9 htk hnew hql e9 R3.row) ?_
        rintro _ w4 ⟨A', c', rfl, -, K3, Y3, A3, q3, R4⟩
        refine ⟨_, rfl, ?_⟩
        have S4 := Su3.ord hLk hi hbj A3 q3
        have k4 : K3 bt = 300 := (q3.kk bt bu3).trans ku3
        have t4 : w4.there bt 0 4 := there_ro tu3 bu3 q3 (by rw [ku3]; unfold inR; omega)
        have b4 : bt < w4.heap.size := Nat.lt_of_lt_of_le bu3 q3.size
        repeat ((conv => whnf); first | (refine VS.mk S4.s ?_) | (refine VCmp.tt (by omega) ?_) | (refine VCmp.ff (by omega) ?_) | (refine VIn.mk (IntWalk.i64_in _ (by omega)) ?_) | (refine VIdx.mk _ rfl (by omega) ?_) | (refine VIdx.mk 0 rfl (by omega) ?_))
        try (conv => whnf)
        refine VStore.mid (c := dtA ((v.o i).send b9).1 A' c' ((v.o i).send b9).1.b.length) t4 (by kernel_rfl) (one_dtA _ _ _ _) fun w5 hw5 => ?_
        obtain ⟨S5, q5⟩ := S4.store hLk k4 hw5.out
        have r5 : w5.rangeAt bt 0 (dtA ((v.o i).send b9).1 A' c' ((v.o i).send b9).1.b.length).toList := by rw [hw5.out]; exact rng_in t4 (by simp)
        have R5 := R4.ro q5 (by omega)
        have b5 : bt < w5.heap.size := by have := q5.size; omega
        clear hw5 t4 tu3
        repeat ((conv => whnf); first | (refine VS.mk S5.s ?_) | (refine VCmp.tt (by omega) ?_) | (refine VCmp.ff (by omega) ?_) | (refine VIn.mk (IntWalk.i64_in _ (by omega)) ?_) | (refine VIdx.mk _ rfl (by omega) ?_) | (refine VIdx.mk 0 rfl (by omega) ?_))
        try (conv => whnf)
        have M2' := M2.at S5.s
        have N2' := N2.at S5.s
        have n256 : ¬ 256 < b9.length := by omega
        have q05 := S5.q
        cases hst : v.stop i with
        | true =>
          rw [hst, if_pos rfl] at hfree
          have hsend : (v.o i).send b9 = (dt0, 70, v.o i) := by unfold Os.send; rw [if_neg n256, if_pos (by rw [I.frz i hi]; exact hst)]
          rw [hst] at N3
          repeat ((conv => whnf); first | (refine VLoad.mk _ (M3.at S5.s) ?_) | (refine VLoad.mk _ (N3.at S5.s) ?_) | (refine VCmp.tt (by omega) ?_) | (refine VCmp.ff (by omega) ?_) | (refine VIn.mk (IntWalk.i64_in _ (by omega)) ?_) | (refine VIdx.mk _ rfl (by omega) ?_) | (refine VIdx.mk 0 rfl (by omega) ?_))
          try (conv => whnf)
          refine VCall.mk _ (num_any _ w5) ?_
          rintro _ x6 ⟨rfl, e6⟩
          subst x6
          refine ⟨_, rfl, ?_⟩
          have h1 : ((v.o i).send b9).2.1 = 70 := by rw [hsend]
          rw [h1, hfree]
          repeat ((conv => whnf); first | (refine VCmp.tt (by omega) ?_) | (refine VCmp.ff (by omega) ?_) | (refine VIn.mk (IntWalk.i64_in _ (by omega)) ?_) | (refine VIdx.mk _ rfl (by omega) ?_) | (refine VIdx.mk 0 rfl (by omega) ?_))
          try (conv => whnf)
          have C5 := S5.C
          rw [hsend, upN_id] at C5
          refine .mk ⟨rfl, K3, X, ?_, q05⟩
          have e : v.send i b9 = v := by unfold Crw.send; rw [if_pos hfree]
          rw [e]; exact C5
        | false =>
          rw [hst] at N3 hfree
          rw [if_neg (by decide)] at hfree
          by_cases hf0 : (v.o i).free = 0
          · have hsend : (v.o i).send b9 = (dt0, 71, v.o i) := by unfold Os.send; rw [if_neg n256, if_neg (by rw [I.frz i hi, hst]; decide), if_pos hf0]
            repeat ((conv => whnf); first | (refine VLoad.mk _ (M3.at S5.s) ?_) | (refine VLoad.mk _ (N3.at S5.s) ?_) | (refine VCmp.tt (by omega) ?_) | (refine VCmp.ff (by omega) ?_) | (refine VIn.mk (IntWalk.i64_in _ (by omega)) ?_) | (refine VIdx.mk _ rfl (by omega) ?_) | (refine VIdx.mk 0 rfl (by omega) ?_))
            try (conv => whnf)
            refine VCall.mk _ (num_any _ w5) ?_
            rintro _ x6 ⟨rfl, e6⟩
            subst x6
            refine ⟨_, rfl, ?_⟩
            have h1 : ((v.o i).send b9).2.1 = 71 := by rw [hsend]
            rw [h1]
            repeat ((conv => whnf); first | (refine VCmp.tt (by omega) ?_) | (refine VCmp.ff (by omega) ?_) | (refine VIn.mk (IntWalk.i64_in _ (by omega)) ?_) | (refine VIdx.mk _ rfl (by omega) ?_) | (refine VIdx.mk 0 rfl (by omega) ?_))
            try (conv => whnf)
            have C5 := S5.C
            rw [hsend, upN_id] at C5
            refine .mk ⟨rfl, K3, X, ?_, q05⟩
            have e : v.send i b9 = v := by unfold Crw.send; rw [if_pos hf0]
            rw [e]; exact C5
          · have hsend : (v.o i).send b9 = (⟨pidN i, (v.o i).taken (pidN i) + 1, (v.o i).pre, b9⟩, 0, (v.o i).keep ⟨pidN i, (v.o i).taken (pidN i) + 1, (v.o i).pre, b9⟩) := by
              unfold Os.send; rw [if_neg n256, if_neg (by rw [I.frz i hi, hst]; decide), if_neg hf0, hsf]
            obtain ⟨d, hd⟩ : ∃ d : Dt, d = ⟨pidN i, (v.o i).taken (pidN i) + 1, (v.o i).pre, b9⟩ := ⟨_, rfl⟩
            have h1 : ((v.o i).send b9).2.1 = 0 := by rw [hsend]
            have h2 : ((v.o i).send b9).1 = d := by rw [hsend, hd]
            have h3 : ((v.o i).send b9).2.2 = (v.o i).keep d := by rw [hsend, hd]
            rw [h2] at r5 R5
            rw [h3] at S5
            rw [h1, h2]
            clear h1 h2 h3
            have db : d.b = b9 := by rw [hd]
            have ds : d.s = pidN i := by rw [hd]
            have dq : d.q = (v.sent i).length + 1 := by rw [hd, ← hown]
            have dst : d.st = (v.o i).pre := by rw [hd]
            have sd5 : Sm L w w5 ∧ Sm [bt] w5 w5 := ⟨S5.s, Sm.refl _ _⟩
            have U0 : Ld Try.prog 3 bt 0 (Sm [bt] w5) (.int .i64 d.s) := ⟨fun W hW => load3 (cell_sm (r5 0 _ rfl) (by simp) hW)⟩
            have T0 : Ld Try.prog 3 bt 0 (fun W => Sm L w W ∧ Sm [bt] w5 W) (.int .i64 d.s) := U0.mono fun _ h => h.2
            have U1 : Ld Try.prog 3 bt 1 (Sm [bt] w5) (.int .i64 d.q) := ⟨fun W hW => load3 (cell_sm (r5 1 _ rfl) (by simp) hW)⟩
            have T1 : Ld Try.prog 3 bt 1 (fun W => Sm L w W ∧ Sm [bt] w5 W) (.int .i64 d.q) := U1.mono fun _ h => h.2
            have U2 : Ld Try.prog 3 bt 2 (Sm [bt] w5) (.int .i64 d.st) := ⟨fun W hW => load3 (cell_sm (r5 2 _ rfl) (by simp) hW)⟩
            have T3 : Ld Try.prog 27 bt 3 (fun W => Sm L w W ∧ Sm [bt] w5 W) (.slice A' d.b.length c') := ⟨fun W hW => load27 (cell_sm (r5 3 _ rfl) (by simp) hW.2)⟩
            have epid : (3 * (i : Int) + 1) = ((pidN i : Nat) : Int) := by unfold pidN; omega
            repeat ((conv => whnf); first | (refine VLoad.mk _ (M3.at S5.s) ?_) | (refine VLoad.mk _ (N3.at S5.s) ?_) | (refine VCmp.tt (by omega) ?_) | (refine VCmp.ff (by omega) ?_) | (refine VIn.mk (IntWalk.i64_in _ (by omega)) ?_) | (refine VIdx.mk _ rfl (by omega) ?_) | (refine VIdx.mk 0 rfl (by omega) ?_))
            try (conv => whnf)
            refine VDraw.pl 1000 (.one [0] 1 (.one [2, 3, 4, 5, 6] 7 (.one [8, 9, 10, 11, 12, 13, 14, 15, 16, 17, 18, 19, 20, 21, 22, 23, 24, 25, 26, 27] 28 (.one [29, 30, 31, 32, 33, 34, 35, 36, 37, 38, 40, 41] 39 (.stop [42, 43]))))) (fun W => Sm L w W ∧ Sm [bt] w5 W) (by kernel_rfl) (sd5) ?_
            repeat ((conv => whnf); first | (refine VCmp.tt (by omega) ?_) | (refine VCmp.ff (by omega) ?_) | (refine VIn.mk (IntWalk.i64_in _ (by omega)) ?_) | (refine VIdx.mk _ rfl (by omega) ?_) | (refine VIdx.mk 0 rfl (by omega) ?_))
            try (conv => whnf)
            refine VCall.mk _ (num_any _ w5.drew) ?_
            rintro _ x6 ⟨rfl, e6⟩
            subst x6
            refine ⟨_, rfl, ?_⟩
            repeat ((conv => whnf); first | (refine VS.mk sd5 ?_) | (refine VLoad.mk _ T0 ?_) | (refine VCmp.tt (by omega) ?_) | (refine VCmp.ff (by omega) ?_) | (refine VIn.mk (IntWalk.i64_in _ (by omega)) ?_) | (refine VIdx.mk _ rfl (by omega) ?_) | (refine VIdx.mk 0 rfl (by omega) ?_))
            try (conv => whnf)
            refine VCall.mk _ (pid_any i w5.drew (by omega) (by omega)) ?_
            rintro _ x6 ⟨rfl, e6⟩
            subst x6
            refine ⟨_, rfl, ?_⟩
            rw [epid]
            repeat ((conv => whnf); first | (refine VS.mk sd5 ?_) | (refine VLoad.mk _ T1 ?_) | (refine VLoad.mk _ (M0.mono fun _ h => h.1) ?_) | (refine VLoad.mk _ (N0.mono fun _ h => h.1) ?_) | (refine VLoad.mk _ T3 ?_) | (refine VCmp.tt (by omega) ?_) | (refine VCmp.ff (by omega) ?_) | (refine VIn.mk (IntWalk.i64_in _ (by omega)) ?_) | (refine VIdx.mk _ rfl (by omega) ?_) | (refine VIdx.mk 0 rfl (by omega) ?_))
            try (conv => whnf)
            have Sd5 := S5.below hLk (Below.refl _ w5).drew
            have Rd5 := R5.ro (Ro.below (R := fun _ => False) (Below.refl _ w5).drew) id
            refine VCall.mk _ (sameBytes_any A' B c' cB d.b.length nB w5.drew.heap.size d.b b9 w5.drew rfl e9 (Nat.le_refl _) Rd5.row Sd5.rb.row (by rw [db]; omega)) ?_
            rintro _ w6 ⟨rfl, b6⟩
            refine ⟨_, rfl, ?_⟩
            have S6 := Sd5.below hLk b6
            have b56 : Below w5.heap.size w5 w6 := (Below.refl _ w5).drew.trans b6
            have sd6 : Sm L w w6 ∧ Sm [bt] w5 w6 := ⟨S6.s, .below b56 fun g hg => by rw [List.mem_singleton.1 hg]; exact b5⟩
            rw [decide_eq_true (show d.b = b9 from db)]
            have hfb : (v.o i).free ≤ 2000000000 ∧ -1000000000 ≤ (v.o i).free := by have := I.w4; have := WO.gn (pidN i); omega
            repeat ((conv => whnf); first | (refine VS.mk sd6 ?_) | (refine VLoad.mk _ (M2.mono fun _ h => h.1) ?_) | (refine VLoad.mk _ (N2.mono fun _ h => h.1) ?_) | (refine VCmp.tt (by omega) ?_) | (refine VCmp.ff (by omega) ?_) | (refine VIn.mk (IntWalk.i64_in _ (by omega)) ?_) | (refine VIdx.mk _ rfl (by omega) ?_) | (refine VIdx.mk 0 rfl (by omega) ?_))
            try (conv => whnf)
            obtain ⟨Y6, A6⟩ := S6.get hi hbj
            have kf : ((v.o i).keep d).free = (v.o i).free - 1 := by
              have e1 : ((v.o i).keep d).free = if (v.o i).frz = true then 0 else ((v.o i).win : Int) - (((upN (v.o i).taken d.s d.q (v.o i).self : Nat) : Int) - ((v.o i).gone (v.o i).self : Int)) := rfl
              have e2 : (v.o i).frz = false := by rw [I.frz i hi, hst]
              rw [e1, e2, hfree, if_neg (by decide), hsf, ds, upN_same, dq, (I.mi i hi).win, hown]
              omega
            have kt : ((v.o i).keep d).taken ((v.o i).keep d).self = d.q := by
              show upN (v.o i).taken d.s d.q (v.o i).self = _
              rw [hsf, ds, upN_same]
            refine VCall.mk _ (free_any A6 WO.self (by rw [kt, dq]; omega) (by have := WO.gn (v.o i).self; show (v.o i).gone (v.o i).self ≤ _; omega) WO.win) ?_
            rintro _ w7 ⟨rfl, b7⟩
            refine ⟨_, rfl, ?_⟩
            rw [kf]
            have S7 := S6.below hLk b7
            have sd7 : Sm L w w7 ∧ Sm [bt] w5 w7 := ⟨S7.s, sd6.2.trans (.below b7 fun g hg => by rw [List.mem_singleton.1 hg]; exact Nat.lt_of_lt_of_le b5 b56.size)⟩
            repeat ((conv => whnf); first | (refine VS.mk sd7 ?_) | (refine VCmp.tt (by omega) ?_) | (refine VCmp.ff (by omega) ?_) | (refine VIn.mk (IntWalk.i64_in _ (by omega)) ?_) | (refine VIdx.mk _ rfl (by omega) ?_) | (refine VIdx.mk 0 rfl (by omega) ?_))
            try (conv => whnf)
            refine VDraw.pl 17 (.one [0, 1, 2, 3, 4, 5, 6, 7, 8, 9, 10, 11, 12] 13 (.one [] 14 (.one [] 15 (.one [16] 17 (.stop []))))) (Sm L w) (by kernel_rfl) (S7.s) ?_
            repeat ((conv => whnf); first | (refine VLoad.mk _ M0 ?_) | (refine VLoad.mk _ N0 ?_) | (refine VCmp.tt (by omega) ?_) | (refine VCmp.ff (by omega) ?_) | (refine VIn.mk (IntWalk.i64_in _ (by omega)) ?_) | (refine VIdx.mk _ rfl (by omega) ?_) | (refine VIdx.mk 0 rfl (by omega) ?_))
            try (conv => whnf)
            have Sd7 := S7.below hLk (Below.refl _ w7).drew
            refine VCall.mk _ (copied_any B cB _ b9 w7.drew e9 Sd7.rb.row (by omega)) ?_
            rintro _ w8 ⟨B8, c8, rfl, n8, b8⟩
            refine ⟨_, rfl, ?_⟩
            have S8 := Sd7.below hLk b8
            have R8 : RowK w8 K3 1 eByte B8 b9 := n8.rowK Sd7.C.kz
            repeat ((conv => whnf); first | (refine VS.mk S8.s ?_) | (refine VCmp.tt (by omega) ?_) | (refine VCmp.ff (by omega) ?_) | (refine VIn.mk (IntWalk.i64_in _ (by omega)) ?_) | (refine VIdx.mk _ rfl (by omega) ?_) | (refine VIdx.mk 0 rfl (by omega) ?_))
            try (conv => whnf)
            refine VBs.mk _ _ (bs41 w8 B8 nB c8) ?_
            have ba9 : Below w8.heap.size w8 (w8.alloc (.cells #[.slice B8 nB c8] 27)) := (Below.refl _ _).alloc (Nat.le_refl _) _
            have hnc9 : ∀ j u, (eBx ⟨B8, c8, b9⟩)[j]? = some u → (w8.alloc (.cells #[.slice B8 nB c8] 27)).cell? ⟨w8.heap.size, j, none⟩ = some u := fun j u hu => by
              have := range_new w8 #[.slice B8 nB c8] 27 j u (by rw [← hu]; unfold eBx; rw [e9])
              rwa [Nat.zero_add] at this
            have z9 : (w8.alloc (.cells #[.slice B8 nB c8] 27)).heap.size = w8.heap.size + 1 := World.size_alloc _ _
            generalize w8.alloc (.cells #[.slice B8 nB c8] 27) = w9 at ba9 hnc9 z9 ⊢
            have S9 := S8.below hLk ba9
            have R9 : RowK w9 K3 1 eByte B8 b9 := R8.ro (Ro.below (R := fun _ => False) ba9) id
            repeat ((conv => whnf); first | (refine VS.mk S9.s ?_) | (refine VCmp.tt (by omega) ?_) | (refine VCmp.ff (by omega) ?_) | (refine VIn.mk (IntWalk.i64_in _ (by omega)) ?_) | (refine VIdx.mk _ rfl (by omega) ?_) | (refine VIdx.mk 0 rfl (by omega) ?_))
            try (conv => whnf)
            have a9 := S9.C.sent.at hi aS.eA aS.hx
            refine VApp.off 1 24 _ Try.underlying41 info27 rfl (by decide) eBx (fun _ => rfl) one_eBx xS.l ⟨B8, c8, b9⟩ aS.ln a9.ow hnc9 S9.C.kz (by omega) (by omega) fun A10 c10 K10 w10 o10 q10 kz10 => ?_
            have kL : ∀ g ∈ L, K g < 10 := fun g hg => by
              rw [hL] at hg
              simp only [List.mem_cons, List.not_mem_nil, or_false] at hg
              have q3 := aS.hk
              have q4 := aM.hk
              rcases hg with rfl | rfl | rfl | rfl | rfl <;> omega
            have hLs : ∀ g ∈ L, g < w9.heap.size ∧ K3 g < 10 := fun g hg => by
              have h1 := hlt g hg
              refine ⟨Nat.lt_of_lt_of_le h1 S9.q.size, ?_⟩
              rw [S9.q.kk g h1]; exact kL g hg
            have s10 : Sm L w w10 := S9.s.trans (.ro q10 fun g hg => ⟨(hLs g hg).1, by have := (hLs g hg).2; omega⟩)
            repeat ((conv => whnf); first | (refine VS.mk s10 ?_) | (refine VCmp.tt (by omega) ?_) | (refine VCmp.ff (by omega) ?_) | (refine VIn.mk (IntWalk.i64_in _ (by omega)) ?_) | (refine VIdx.mk _ rfl (by omega) ?_) | (refine VIdx.mk 0 rfl (by omega) ?_))
            try (conv => whnf)
            refine VStore.cell (by kernel_rfl) (by rw [show oS + mulO i 1 = oS + i from rfl, cell_sm aS.hc (by simp [hL]) s10]; rfl) ((World.frozen?_of_block (a := ⟨gS, _, none⟩) (s10 gS (by simp [hL]))).trans aS.hf) rfl rfl fun w11 hw11 => ?_
            obtain ⟨C11, q11⟩ := S9.C.push_sent hi a9 ⟨B8, c8, b9⟩ o10 (R9.ro q10 (by omega)) q10 kz10 (w2 := w11) (by rw [hw11.out]; rfl)
            clear hw11 s10 q10 o10 hnc9
            have S6s := sd7.2
            have kbt9 : K3 bt = 300 := k4
            have hbt9 : bt < w9.heap.size := Nat.lt_of_lt_of_le b5 (Nat.le_trans b56.size (Nat.le_trans b7.size (Nat.le_trans b8.size ba9.size)))
            have sb11 : Sm [bt] w5 w11 := (S6s.trans (.below ((Below.refl _ w7).drew.trans (Below.trans b8 (ba9.mono b8.size))) fun g hg => by rw [List.mem_singleton.1 hg]; exact Nat.lt_of_lt_of_le b5 (Nat.le_trans b56.size b7.size))).trans (.ro q11 fun g hg => by rw [List.mem_singleton.1 hg]; exact ⟨hbt9, by rw [kbt9]; omega⟩)
            have hbM : b < w9.heap.size ∧ gM < w9.heap.size ∧ K3 b = 1 ∧ K3 gM = 4 := by
              have h1 := (hLk b (by simp [hL])).1
              have h2 := (hLk gM (by simp [hL])).1
              exact ⟨Nat.lt_of_lt_of_le h1 S9.q.size, Nat.lt_of_lt_of_le h2 S9.q.size, (S9.q.kk b h1).trans hkb, (S9.q.kk gM h2).trans aM.hk⟩
            have R11 : RowK w11 K10 1 eByte B b9 := S9.rb.ro q11 (by omega)
            have P1 := C11.l_made (l := [b, gM]) (by simp)
            have e11 : ({ X with sent := ⟨X.sent.A, X.sent.c, X.sent.l.set i ⟨A10, c10, xS.l ++ [⟨B8, c8, b9⟩]⟩⟩ } : CwX).made = X.made := rfl
            rw [e11, aM.eA] at P1
            have a11 := C11.made.at hi aM.eA aM.hx
            have P2 : Ld Try.prog 74 gM (oM + i) (Sm [b, gM] w11) (.slice xM.A (v.made i).length xM.c) := ⟨fun W hW => load74s (cell_sm a11.hc (by simp) hW)⟩
            have sd11 : Sm [b, gM] w11 w11 ∧ Sm [bt] w5 w11 := ⟨Sm.refl _ _, sb11⟩
            repeat ((conv => whnf); first | (refine VS.last rfl ?_) | (refine VCmp.tt (by omega) ?_) | (refine VCmp.ff (by omega) ?_) | (refine VIn.mk (IntWalk.i64_in _ (by omega)) ?_) | (refine VIdx.mk _ rfl (by omega) ?_) | (refine VIdx.mk 0 rfl (by omega) ?_))
            try (conv => whnf)
            refine VDraw.pl 25 (.one [0, 1, 2, 3, 4, 5, 6, 7, 8, 9, 10, 11, 12, 13, 14, 15, 16, 17, 18] 19 (.one [20, 21] 22 (.one [] 23 (.one [24] 25 (.stop []))))) (fun W => Sm [b, gM] w11 W ∧ Sm [bt] w5 W) (by kernel_rfl) (sd11) ?_
            repeat ((conv => whnf); first | (refine VLoad.mk _ (P1.mono fun _ h => h.1) ?_) | (refine VLoad.mk _ (P2.mono fun _ h => h.1) ?_) | (refine VLoad.mk _ (U0.mono fun _ h => h.2) ?_) | (refine VLoad.mk _ (U1.mono fun _ h => h.2) ?_) | (refine VLoad.mk _ (U2.mono fun _ h => h.2) ?_) | (refine VCmp.tt (by omega) ?_) | (refine VCmp.ff (by omega) ?_) | (refine VIn.mk (IntWalk.i64_in _ (by omega)) ?_) | (refine VIdx.mk _ rfl (by omega) ?_) | (refine VIdx.mk 0 rfl (by omega) ?_))
            try (conv => whnf)
            have hd11 : Below w11.heap.size w11 w11.drew := (Below.refl _ w11).drew
            have R11d := R11.ro (Ro.below (R := fun _ => False) hd11) id
            refine VCall.mk _ (copied_any B cB _ b9 w11.drew e9 R11d.row (by omega)) ?_
            rintro _ w12 ⟨B12, c12, rfl, n12, b12⟩
            refine ⟨_, rfl, ?_⟩
            have b12' : Below w11.heap.size w11 w12 := hd11.trans b12
            have C12 := C11.below b12'
            have R12 : RowK w12 K10 1 eByte B12 b9 := n12.rowK fun y hy => C11.kz y hy
            have b11s : ∀ g ∈ [b, gM], g < w11.heap.size := fun g hg => by
              simp only [List.mem_cons, List.not_mem_nil, or_false] at hg
              have := q11.size
              rcases hg with rfl | rfl <;> omega
            have bt11 : bt < w11.heap.size := Nat.lt_of_lt_of_le hbt9 q11.size
            have sd12 : Sm [b, gM] w11 w12 ∧ Sm [bt] w5 w12 := ⟨.below b12' b11s, sb11.trans (.below b12' fun g hg => by rw [List.mem_singleton.1 hg]; exact bt11)⟩
            repeat ((conv => whnf); first | (refine VS.mk sd12 ?_) | (refine VCmp.tt (by omega) ?_) | (refine VCmp.ff (by omega) ?_) | (refine VIn.mk (IntWalk.i64_in _ (by omega)) ?_) | (refine VIdx.mk _ rfl (by omega) ?_) | (refine VIdx.mk 0 rfl (by omega) ?_))
            try (conv => whnf)
            refine VBuild.mk _ (fun W' => build71 W' d.s d.q d.st B12 nB c12) ?_
            repeat ((conv => whnf); first | (refine VS.mk sd12 ?_) | (refine VCmp.tt (by omega) ?_) | (refine VCmp.ff (by omega) ?_) | (refine VIn.mk (IntWalk.i64_in _ (by omega)) ?_) | (refine VIdx.mk _ rfl (by omega) ?_) | (refine VIdx.mk 0 rfl (by omega) ?_))
            try (conv => whnf)
            refine VBuild.mk _ (fun W' => build80d W' d.s d.q d.st B12 nB c12) ?_
            repeat ((conv => whnf); first | (refine VS.mk sd12 ?_) | (refine VCmp.tt (by omega) ?_) | (refine VCmp.ff (by omega) ?_) | (refine VIn.mk (IntWalk.i64_in _ (by omega)) ?_) | (refine VIdx.mk _ rfl (by omega) ?_) | (refine VIdx.mk 0 rfl (by omega) ?_))
            try (conv => whnf)
            refine VBs.mk _ _ (bs74x w12 (dIt d.s d.q d.st b9) B12 c12 nB) ?_
            have ba13 : Below w12.heap.size w12 (w12.alloc (.cells (itA (dIt d.s d.q d.st b9) B12 c12 nB) 80)) := (Below.refl _ _).alloc (Nat.le_refl _) _
            have hnc13 : ∀ j u, (eIx ⟨dIt d.s d.q d.st b9, B12, c12⟩)[j]? = some u → (w12.alloc (.cells (itA (dIt d.s d.q d.st b9) B12 c12 nB) 80)).cell? ⟨w12.heap.size, j, none⟩ = some u := fun j u hu => by
              have := range_new w12 (itA (dIt d.s d.q d.st b9) B12 c12 nB) 80 j u (by rw [← hu]; unfold eIx; show _ = (itA _ _ _ b9.length).toList[j]?; rw [e9])
              rwa [Nat.zero_add] at this
            have z13 : (w12.alloc (.cells (itA (dIt d.s d.q d.st b9) B12 c12 nB) 80)).heap.size = w12.heap.size + 1 := World.size_alloc _ _
            generalize w12.alloc (.cells (itA (dIt d.s d.q d.st b9) B12 c12 nB) 80) = w13 at ba13 hnc13 z13 ⊢
            have C13 := C12.below ba13
            have R13 : RowK w13 K10 1 eByte B12 b9 := R12.ro (Ro.below (R := fun _ => False) ba13) id
            have b13' : Below w11.heap.size w11 w13 := b12'.trans (ba13.mono b12'.size)
            have sd13 : Sm [b, gM] w11 w13 ∧ Sm [bt] w5 w13 := ⟨.below b13' b11s, sb11.trans (.below b13' fun g hg => by rw [List.mem_singleton.1 hg]; exact bt11)⟩
            repeat ((conv => whnf); first | (refine VS.mk sd13 ?_) | (refine VCmp.tt (by omega) ?_) | (refine VCmp.ff (by omega) ?_) | (refine VIn.mk (IntWalk.i64_in _ (by omega)) ?_) | (refine VIdx.mk _ rfl (by omega) ?_) | (refine VIdx.mk 0 rfl (by omega) ?_))
            try (conv => whnf)
            have a13 := C13.made.at hi aM.eA aM.hx
            have hml : (v.made i).length ≤ 500000 := Nat.le_trans (I.madeLen hi) (by omega)
            refine VApp.off 9 88 _ Try.underlying74 info80 rfl (by decide) eIx (fun _ => rfl) one_eIx xM.l ⟨dIt d.s d.q d.st b9, B12, c12⟩ aM.ln a13.ow hnc13 C13.kz (by omega) (by omega) fun A14 c14 K14 w14 o14 q14 kz14 => ?_
            have kM11 : K10 gM = 4 ∧ K10 b = 1 ∧ K10 bt = 300 := by
              have h1 := q11.kk gM hbM.2.1
              have h2 := q11.kk b hbM.1
              have h3 := q11.kk bt hbt9
              exact ⟨h1.trans hbM.2.2.2, h2.trans hbM.2.2.1, h3.trans kbt9⟩
            have hs13 := b13'.size
            have s14 : Sm [b, gM] w11 w14 := sd13.1.trans (.ro q14 fun g hg => by
              refine ⟨Nat.lt_of_lt_of_le (b11s g hg) hs13, ?_⟩
              simp only [List.mem_cons, List.not_mem_nil, or_false] at hg
              rcases hg with rfl | rfl <;> omega)
            have sb14 : Sm [bt] w5 w14 := sd13.2.trans (.ro q14 fun g hg => by rw [List.mem_singleton.1 hg]; exact ⟨Nat.lt_of_lt_of_le bt11 hs13, by omega⟩)
            repeat ((conv => whnf); first | (refine VS.mk ⟨s14, sb14⟩ ?_) | (refine VCmp.tt (by omega) ?_) | (refine VCmp.ff (by omega) ?_) | (refine VIn.mk (IntWalk.i64_in _ (by omega)) ?_) | (refine VIdx.mk _ rfl (by omega) ?_) | (refine VIdx.mk 0 rfl (by omega) ?_))
            try (conv => whnf)
            refine VStore.cell (by kernel_rfl) (by rw [show oM + mulO i 1 = oM + i from rfl, cell_sm a11.hc (by simp) s14]; rfl) ((World.frozen?_of_block (a := ⟨gM, _, none⟩) (s14 gM (by simp))).trans a11.hf) rfl rfl fun w15 hw15 => ?_
            obtain ⟨C15, q15⟩ := C13.push_made hi a13 ⟨dIt d.s d.q d.st b9, B12, c12⟩ o14 (R13.ro q14 (by omega)) q14 kz14 (w2 := w15) (by rw [hw15.out]; rfl)
            clear hw15 s14 sb14 q14 o14 hnc13
            repeat ((conv => whnf); first | (refine VS.last rfl ?_) | (refine VCmp.tt (by omega) ?_) | (refine VCmp.ff (by omega) ?_) | (refine VIn.mk (IntWalk.i64_in _ (by omega)) ?_) | (refine VIdx.mk _ rfl (by omega) ?_) | (refine VIdx.mk 0 rfl (by omega) ?_))
            try (conv => whnf)
            have qa : Ro (fun z => 0 < z ∧ z < 400) K K3 w w9 := S9.q
            have qb : Ro (fun z => 0 < z ∧ z < 400) K3 K10 w9 w11 := q11.more fun z hz => by omega
            have qc : Ro (fun z => 0 < z ∧ z < 400) K10 K10 w11 w13 := Ro.below b13'
            have qd : Ro (fun z => 0 < z ∧ z < 400) K10 K14 w13 w15 := q15.more fun z hz => by omega
            have ev : v.send i b9 = { v with o := upN v.o i ((v.o i).keep d), sent := upN v.sent i (v.sent i ++ [b9]), made := upN v.made i (v.made i ++ [dIt d.s d.q d.st b9]) } := by
              unfold Crw.send; rw [if_neg hf0, hd]
            rw [ev]
            exact .mk ⟨rfl, K14, _, C15, ((qa.trans qb).trans qc).trans qd⟩
    · skip
      repeat ((conv => whnf); first | (refine VCmp.tt (by omega) ?_) | (refine VCmp.ff (by omega) ?_) | (refine VIn.mk (IntWalk.i64_in _ (by omega)) ?_) | (refine VIdx.mk _ rfl (by omega) ?_) | (refine VIdx.mk 0 rfl (by omega) ?_))
      try (conv => whnf)
      refine .mk _ run_zero71 ?_
      conv => whnf
      refine .mk fun u2 hu2 => ?_
      obtain ⟨bt, hbt⟩ : ∃ bt, bt = w1.drew.heap.size := ⟨_, rfl⟩
      have tu2 : u2.there bt 0 4 := by rw [hu2.out, hbt]; exact there_new _ _ _
      have Su2 := Sd1.box hLk hbt hu2.out
      have eu2 : Ro (fun _ => False) K (upN K bt 300) w1.drew u2 := (Ro.below (by rw [hu2.out]; exact (Below.refl _ w1.drew).alloc (Nat.le_refl _) _)).role fun z hz => upN_ne _ _ (by omega)
      have ku2 : upN K bt 300 bt = 300 := upN_same _ _ _
      have bu2 : bt < u2.heap.size := by rw [hu2.out, hbt]; show w1.drew.heap.size < _; rw [World.size_alloc]; omega
      rw [← hbt]
      clear hu2
      repeat ((conv => whnf); first | (refine VS.mk Su2.s ?_) | (refine VCmp.tt (by omega) ?_) | (refine VCmp.ff (by omega) ?_) | (refine VIn.mk (IntWalk.i64_in _ (by omega)) ?_) | (refine VIdx.mk _ rfl (by omega) ?_) | (refine VIdx.mk 0 rfl (by omega) ?_))
      try (conv => whnf)
      refine VCall.mk _ (copied_any B cB _ b9 u2 e9 Su2.rb.row (by omega)) ?_
      rintro _ w3 ⟨B2, c2, rfl, n2, b2⟩
      refine ⟨_, rfl, ?_⟩
      have S3 := Su2.below hLk b2
      have R3 : RowK w3 (upN K bt 300) 1 eByte B2 b9 := n2.rowK Su2.C.kz
      have t3 := there_same tu2 (b2.block bt bu2)
      have b3 : bt < w3.heap.size := Nat.lt_of_lt_of_le bu2 b2.size
      repeat ((conv => whnf); first | (refine VS.mk S3.s ?_) | (refine VCmp.tt (by omega) ?_) | (refine VCmp.ff (by omega) ?_) | (refine VIn.mk (IntWalk.i64_in _ (by omega)) ?_) | (refine VIdx.mk _ rfl (by omega) ?_) | (refine VIdx.mk 0 rfl (by omega) ?_))
      try (conv => whnf)
      obtain ⟨Y2, A2⟩ := S3.get hi hbj
      refine VCall.mk _ (send_any A2 WO b9 htk hnew hql e9 R3.row) ?_
      rintro _ w4 ⟨A', c', rfl, -, K3, Y3, A3, q3, R4⟩
      refine ⟨_, rfl, ?_⟩
      have S4 := S3.ord hLk hi hbj A3 q3
      have k4 : K3 bt = 300 := (q3.kk bt b3).trans ku2
      have t4 : w4.there bt 0 4 := there_ro t3 b3 q3 (by rw [ku2]; unfold inR; omega)
      have b4 : bt < w4.heap.size := Nat.lt_of_lt_of_le b3 q3.size
      repeat ((conv => whnf); first | (refine VS.mk S4.s ?_) | (refine VCmp.tt (by omega) ?_) | (refine VCmp.ff (by omega) ?_) | (refine VIn.mk (IntWalk.i64_in _ (by omega)) ?_) | (refine VIdx.mk _ rfl (by omega) ?_) | (refine VIdx.mk 0 rfl (by omega) ?_))
      try (conv => whnf)
      refine VStore.mid (c := dtA ((v.o i).send b9).1 A' c' ((v.o i).send b9).1.b.length) t4 (by kernel_rfl) (one_dtA _ _ _ _) fun w5 hw5 => ?_
      obtain ⟨S5, q5⟩ := S4.store hLk k4 hw5.out
      have r5 : w5.rangeAt bt 0 (dtA ((v.o i).send b9).1 A' c' ((v.o i).send b9).1.b.length).toList := by rw [hw5.out]; exact rng_in t4 (by simp)
      have R5 := R4.ro q5 (by omega)
      have b5 : bt < w5.heap.size := by have := q5.size; omega
      clear hw5 t4 tu2
      repeat ((conv => whnf); first | (refine VS.mk S5.s ?_) | (refine VCmp.tt (by omega) ?_) | (refine VCmp.ff (by omega) ?_) | (refine VIn.mk (IntWalk.i64_in _ (by omega)) ?_) | (refine VIdx.mk _ rfl (by omega) ?_) | (refine VIdx.mk 0 rfl (by omega) ?_))
      try (conv => whnf)
      have M2' := M2.at S5.s
      have N2' := N2.at S5.s
      have n256 : ¬ 256 < b9.length := by omega
      have q05 := S5.q
      cases hst : v.stop i with
      | true =>
        rw [hst, if_pos rfl] at hfree
        have hsend : (v.o i).send b9 = (dt0, 70, v.o i) := by unfold Os.send; rw [if_neg n256, if_pos (by rw [I.frz i hi]; exact hst)]
        rw [hst] at N3
        repeat ((conv => whnf); first | (refine VLoad.mk _ (M3.at S5.s) ?_) | (refine VLoad.mk _ (N3.at S5.s) ?_) | (refine VCmp.tt (by omega) ?_) | (refine VCmp.ff (by omega) ?_) | (refine VIn.mk (IntWalk.i64_in _ (by omega)) ?_) | (refine VIdx.mk _ rfl (by omega) ?_) | (refine VIdx.mk 0 rfl (by omega) ?_))
        try (conv => whnf)
        refine VCall.mk _ (num_any _ w5) ?_
        rintro _ x6 ⟨rfl, e6⟩
        subst x6
        refine ⟨_, rfl, ?_⟩
        have h1 : ((v.o i).send b9).2.1 = 70 := by rw [hsend]
        rw [h1, hfree]
        repeat ((conv => whnf); first | (refine VCmp.tt (by omega) ?_) | (refine VCmp.ff (by omega) ?_) | (refine VIn.mk (IntWalk.i64_in _ (by omega)) ?_) | (refine VIdx.mk _ rfl (by omega) ?_) | (refine VIdx.mk 0 rfl (by omega) ?_))
        try (conv => whnf)
        have C5 := S5.C
        rw [hsend, upN_id] at C5
        refine .mk ⟨rfl, K3, X, ?_, q05⟩
        have e : v.send i b9 = v := by unfold Crw.send; rw [if_pos hfree]
        rw [e]; exact C5
      | false =>
        rw [hst] at N3 hfree
        rw [if_neg (by decide)] at hfree
        by_cases hf0 : (v.o i).free = 0
        · have hsend : (v.o i).send b9 = (dt0, 71, v.o i) := by unfold Os.send; rw [if_neg n256, if_neg (by rw [I.frz i hi, hst]; decide), if_pos hf0]
          repeat ((conv => whnf); first | (refine VLoad.mk _ (M3.at S5.s) ?_) | (refine VLoad.mk _ (N3.at S5.s) ?_) | (refine VCmp.tt (by omega) ?_) | (refine VCmp.ff (by omega) ?_) | (refine VIn.mk (IntWalk.i64_in _ (by omega)) ?_) | (refine VIdx.mk _ rfl (by omega) ?_) | (refine VIdx.mk 0 rfl (by omega) ?_))
          try (conv => whnf)
          refine VCall.mk _ (num_any _ w5) ?_
          rintro _ x6 ⟨rfl, e6⟩
          subst x6
          refine ⟨_, rfl, ?_⟩
          have h1 : ((v.o i).send b9).2.1 = 71 := by rw [hsend]
          rw [h1]
          repeat ((conv => whnf); first | (refine VCmp.tt (by omega) ?_) | (refine VCmp.ff (by omega) ?_) | (refine VIn.mk (IntWalk.i64_in _ (by omega)) ?_) | (refine VIdx.mk _ rfl (by omega) ?_) | (refine VIdx.mk 0 rfl (by omega) ?_))
          try (conv => whnf)
          have C5 := S5.C
          rw [hsend, upN_id] at C5
          refine .mk ⟨rfl, K3, X, ?_, q05⟩
          have e : v.send i b9 = v := by unfold Crw.send; rw [if_pos hf0]
          rw [e]; exact C5
        · have hsend : (v.o i).send b9 = (⟨pidN i, (v.o i).taken (pidN i) + 1, (v.o i).pre, b9⟩, 0, (v.o i).keep ⟨pidN i, (v.o i).taken (pidN i) + 1, (v.o i).pre, b9⟩) := by
            unfold Os.send; rw [if_neg n256, if_neg (by rw [I.frz i hi, hst]; decide), if_neg hf0, hsf]
          obtain ⟨d, hd⟩ : ∃ d : Dt, d = ⟨pidN i, (v.o i).taken (pidN i) + 1, (v.o i).pre, b9⟩ := ⟨_, rfl⟩
          have h1 : ((v.o i).send b9).2.1 = 0 := by rw [hsend]
          have h2 : ((v.o i).send b9).1 = d := by rw [hsend, hd]
          have h3 : ((v.o i).send b9).2.2 = (v.o i).keep d := by rw [hsend, hd]
          rw [h2] at r5 R5
          rw [h3] at S5
          rw [h1, h2]
          clear h1 h2 h3
          have db : d.b = b9 := by rw [hd]
          have ds : d.s = pidN i := by rw [hd]
          have dq : d.q = (v.sent i).length + 1 := by rw [hd, ← hown]
          have dst : d.st = (v.o i).pre := by rw [hd]
          have sd5 : Sm L w w5 ∧ Sm [bt] w5 w5 := ⟨S5.s, Sm.refl _ _⟩
          have U0 : Ld Try.prog 3 bt 0 (Sm [bt] w5) (.int .i64 d.s) := ⟨fun W hW => load3 (cell_sm (r5 0 _ rfl) (by simp) hW)⟩
          have T0 : Ld Try.prog 3 bt 0 (fun W => Sm L w W ∧ Sm [bt] w5 W) (.int .i64 d.s) := U0.mono fun _ h => h.2
          have U1 : Ld Try.prog 3 bt 1 (Sm [bt] w5) (.int .i64 d.q) := ⟨fun W hW => load3 (cell_sm (r5 1 _ rfl) (by simp) hW)⟩
          have T1 : Ld Try.prog 3 bt 1 (fun W => Sm L w W ∧ Sm [bt] w5 W) (.int .i64 d.q) := U1.mono fun _ h => h.2
          have U2 : Ld Try.prog 3 bt 2 (Sm [bt] w5) (.int .i64 d.st) := ⟨fun W hW => load3 (cell_sm (r5 2 _ rfl) (by simp) hW)⟩
          have T3 : Ld Try.prog 27 bt 3 (fun W => Sm L w W ∧ Sm [bt] w5 W) (.slice A' d.b.length c') := ⟨fun W hW => load27 (cell_sm (r5 3 _ rfl) (by simp) hW.2)⟩
          have epid : (3 * (i : Int) + 1) = ((pidN i : Nat) : Int) := by unfold pidN; omega
          repeat ((conv => whnf); first | (refine VLoad.mk _ (M3.at S5.s) ?_) | (refine VLoad.mk _ (N3.at S5.s) ?_) | (refine VCmp.tt (by omega) ?_) | (refine VCmp.ff (by omega) ?_) | (refine VIn.mk (IntWalk.i64_in _ (by omega)) ?_) | (refine VIdx.mk _ rfl (by omega) ?_) | (refine VIdx.mk 0 rfl (by omega) ?_))
          try (conv => whnf)
          refine VDraw.pl 1000 (.one [0] 1 (.one [2, 3, 4, 5, 6] 7 (.one [8, 9, 10, 11, 12, 13, 14, 15, 16, 17, 18, 19, 20, 21, 22, 23, 24, 25, 26, 27] 28 (.one [29, 30, 31, 32, 33, 34, 35, 36, 37, 38, 40, 41] 39 (.stop [42, 43]))))) (fun W => Sm L w W ∧ Sm [bt] w5 W) (by kernel_rfl) (sd5) ?_
          repeat ((conv => whnf); first | (refine VCmp.tt (by omega) ?_) | (refine VCmp.ff (by omega) ?_) | (refine VIn.mk (IntWalk.i64_in _ (by omega)) ?_) | (refine VIdx.mk _ rfl (by omega) ?_) | (refine VIdx.mk 0 rfl (by omega) ?_))
          try (conv => whnf)
          refine VCall.mk _ (num_any _ w5.drew) ?_
          rintro _ x6 ⟨rfl, e6⟩
          subst x6
          refine ⟨_, rfl, ?_⟩
          repeat ((conv => whnf); first | (refine VS.mk sd5 ?_) | (refine VLoad.mk _ T0 ?_) | (refine VCmp.tt (by omega) ?_) | (refine VCmp.ff (by omega) ?_) | (refine VIn.mk (IntWalk.i64_in _ (by omega)) ?_) | (refine VIdx.mk _ rfl (by omega) ?_) | (refine VIdx.mk 0 rfl (by omega) ?_))
          try (conv => whnf)
          refine VCall.mk _ (pid_any i w5.drew (by omega) (by omega)) ?_
          rintro _ x6 ⟨rfl, e6⟩
          subst x6
          refine ⟨_, rfl, ?_⟩
          rw [epid]
          repeat ((conv => whnf); first | (refine VS.mk sd5 ?_) | (refine VLoad.mk _ T1 ?_) | (refine VLoad.mk _ (M0.mono fun _ h => h.1) ?_) | (refine VLoad.mk _ (N0.mono fun _ h => h.1) ?_) | (refine VLoad.mk _ T3 ?_) | (refine VCmp.tt (by omega) ?_) | (refine VCmp.ff (by omega) ?_) | (refine VIn.mk (IntWalk.i64_in _ (by omega)) ?_) | (refine VIdx.mk _ rfl (by omega) ?_) | (refine VIdx.mk 0 rfl (by omega) ?_))
          try (conv => whnf)
          have Sd5 := S5.below hLk (Below.refl _ w5).drew
          have Rd5 := R5.ro (Ro.below (R := fun _ => False) (Below.refl _ w5).drew) id
          refine VCall.mk _ (sameBytes_any A' B c' cB d.b.length nB w5.drew.heap.size d.b b9 w5.drew rfl e9 (Nat.le_refl _) Rd5.row Sd5.rb.row (by rw [db]; omega)) ?_
          rintro _ w6 ⟨rfl, b6⟩
          refine ⟨_, rfl, ?_⟩
          have S6 := Sd5.below hLk b6
          have b56 : Below w5.heap.size w5 w6 := (Below.refl _ w5).drew.trans b6
          have sd6 : Sm L w w6 ∧ Sm [bt] w5 w6 := ⟨S6.s, .below b56 fun g hg => by rw [List.mem_singleton.1 hg]; exact b5⟩
          rw [decide_eq_true (show d.b = b9 from db)]
          have hfb : (v.o i).free ≤ 2000000000 ∧ -1000000000 ≤ (v.o i).free := by have := I.w4; have := WO.gn (pidN i); omega
          repeat ((conv => whnf); first | (refine VS.mk sd6 ?_) | (refine VLoad.mk _ (M2.mono fun _ h => h.1) ?_) | (refine VLoad.mk _ (N2.mono fun _ h => h.1) ?_) | (refine VCmp.tt (by omega) ?_) | (refine VCmp.ff (by omega) ?_) | (refine VIn.mk (IntWalk.i64_in _ (by omega)) ?_) | (refine VIdx.mk _ rfl (by omega) ?_) | (refine VIdx.mk 0 rfl (by omega) ?_))
          try (conv => whnf)
          obtain ⟨Y6, A6⟩ := S6.get hi hbj
          have kf : ((v.o i).keep d).free = (v.o i).free - 1 := by
            have e1 : ((v.o i).keep d).free = if (v.o i).frz = true then 0 else ((v.o i).win : Int) - (((upN (v.o i).taken d.s d.q (v.o i).self : Nat) : Int) - ((v.o i).gone (v.o i).self : Int)) := rfl
            have e2 : (v.o i).frz = false := by rw [I.frz i hi, hst]
            rw [e1, e2, hfree, if_neg (by decide), hsf, ds, upN_same, dq, (I.mi i hi).win, hown]
            omega
          have kt : ((v.o i).keep d).taken ((v.o i).keep d).self = d.q := by
            show upN (v.o i).taken d.s d.q (v.o i).self = _
            rw [hsf, ds, upN_same]
          refine VCall.mk _ (free_any A6 WO.self (by rw [kt, dq]; omega) (by have := WO.gn (v.o i).self; show (v.o i).gone (v.o i).self ≤ _; omega) WO.win) ?_
          rintro _ w7 ⟨rfl, b7⟩
          refine ⟨_, rfl, ?_⟩
          rw [kf]
          have S7 := S6.below hLk b7
          have sd7 : Sm L w w7 ∧ Sm [bt] w5 w7 := ⟨S7.s, sd6.2.trans (.below b7 fun g hg => by rw [List.mem_singleton.1 hg]; exact Nat.lt_of_lt_of_le b5 b56.size)⟩
          repeat ((conv => whnf); first | (refine VS.mk sd7 ?_) | (refine VCmp.tt (by omega) ?_) | (refine VCmp.ff (by omega) ?_) | (refine VIn.mk (IntWalk.i64_in _ (by omega)) ?_) | (refine VIdx.mk _ rfl (by omega) ?_) | (refine VIdx.mk 0 rfl (by omega) ?_))
          try (conv => whnf)
          refine VDraw.pl 17 (.one [0, 1, 2, 3, 4, 5, 6, 7, 8, 9, 10, 11, 12] 13 (.one [] 14 (.one [] 15 (.one [16] 17 (.stop []))))) (Sm L w) (by kernel_rfl) (S7.s) ?_
          repeat ((conv => whnf); first | (refine VLoad.mk _ M0 ?_) | (refine VLoad.mk _ N0 ?_) | (refine VCmp.tt (by omega) ?_) | (refine VCmp.ff (by omega) ?_) | (refine VIn.mk (IntWalk.i64_in _ (by omega)) ?_) | (refine VIdx.mk _ rfl (by omega) ?_) | (refine VIdx.mk 0 rfl (by omega) ?_))
          try (conv => whnf)
          have Sd7 := S7.below hLk (Below.refl _ w7).drew
          refine VCall.mk _ (copied_any B cB _ b9 w7.drew e9 Sd7.rb.row (by omega)) ?_
          rintro _ w8 ⟨B8, c8, rfl, n8, b8⟩
          refine ⟨_, rfl, ?_⟩
          have S8 := Sd7.below hLk b8
          have R8 : RowK w8 K3 1 eByte B8 b9 := n8.rowK Sd7.C.kz
          repeat ((conv => whnf); first | (refine VS.mk S8.s ?_) | (refine VCmp.tt (by omega) ?_) | (refine VCmp.ff (by omega) ?_) | (refine VIn.mk (IntWalk.i64_in _ (by omega)) ?_) | (refine VIdx.mk _ rfl (by omega) ?_) | (refine VIdx.mk 0 rfl (by omega) ?_))
          try (conv => whnf)
          refine VBs.mk _ _ (bs41 w8 B8 nB c8) ?_
          have ba9 : Below w8.heap.size w8 (w8.alloc (.cells #[.slice B8 nB c8] 27)) := (Below.refl _ _).alloc (Nat.le_refl _) _
          have hnc9 : ∀ j u, (eBx ⟨B8, c8, b9⟩)[j]? = some u → (w8.alloc (.cells #[.slice B8 nB c8] 27)).cell? ⟨w8.heap.size, j, none⟩ = some u := fun j u hu => by
            have := range_new w8 #[.slice B8 nB c8] 27 j u (by rw [← hu]; unfold eBx; rw [e9])
            rwa [Nat.zero_add] at this
          have z9 : (w8.alloc (.cells #[.slice B8 nB c8] 27)).heap.size = w8.heap.size + 1 := World.size_alloc _ _
          generalize w8.alloc (.cells #[.slice B8 nB c8] 27) = w9 at ba9 hnc9 z9 ⊢
          have S9 := S8.below hLk ba9
          have R9 : RowK w9 K3 1 eByte B8 b9 := R8.ro (Ro.below (R := fun _ => False) ba9) id
          repeat ((conv => whnf); first | (refine VS.mk S9.s ?_) | (refine VCmp.tt (by omega) ?_) | (refine VCmp.ff (by omega) ?_) | (refine VIn.mk (IntWalk.i64_in _ (by omega)) ?_) | (refine VIdx.mk _ rfl (by omega) ?_) | (refine VIdx.mk 0 rfl (by omega) ?_))
          try (conv => whnf)
          have a9 := S9.C.sent.at hi aS.eA aS.hx
          refine VApp.off 1 24 _ Try.underlying41 info27 rfl (by decide) eBx (fun _ => rfl) one_eBx xS.l ⟨B8, c8, b9⟩ aS.ln a9.ow hnc9 S9.C.kz (by omega) (by omega) fun A10 c10 K10 w10 o10 q10 kz10 => ?_
          have kL : ∀ g ∈ L, K g < 10 := fun g hg => by
            rw [hL] at hg
            simp only [List.mem_cons, List.not_mem_nil, or_false] at hg
            have q3 := aS.hk
            have q4 := aM.hk
            rcases hg with rfl | rfl | rfl | rfl | rfl <;> omega
          have hLs : ∀ g ∈ L, g < w9.heap.size ∧ K3 g < 10 := fun g hg => by
            have h1 := hlt g hg
            refine ⟨Nat.lt_of_lt_of_le h1 S9.q.size, ?_⟩
            rw [S9.q.kk g h1]; exact kL g hg
          have s10 : Sm L w w10 := S9.s.trans (.ro q10 fun g hg => ⟨(hLs g hg).1, by have := (hLs g hg).2; omega⟩)
          repeat ((conv => whnf); first | (refine VS.mk s10 ?_) | (refine VCmp.tt (by omega) ?_) | (refine VCmp.ff (by omega) ?_) | (refine VIn.mk (IntWalk.i64_in _ (by omega)) ?_) | (refine VIdx.mk _ rfl (by omega) ?_) | (refine VIdx.mk 0 rfl (by omega) ?_))
          try (conv => whnf)
          refine VStore.cell (by kernel_rfl) (by rw [show oS + mulO i 1 = oS + i from rfl, cell_sm aS.hc (by simp [hL]) s10]; rfl) ((World.frozen?_of_block (a := ⟨gS, _, none⟩) (s10 gS (by simp [hL]))).trans aS.hf) rfl rfl fun w11 hw11 => ?_
          obtain ⟨C11, q11⟩ := S9.C.push_sent hi a9 ⟨B8, c8, b9⟩ o10 (R9.ro q10 (by omega)) q10 kz10 (w2 := w11) (by rw [hw11.out]; rfl)
          clear hw11 s10 q10 o10 hnc9
          have S6s := sd7.2
          have kbt9 : K3 bt = 300 := k4
          have hbt9 : bt < w9.heap.size := Nat.lt_of_lt_of_le b5 (Nat.le_trans b56.size (Nat.le_trans b7.size (Nat.le_trans b8.size ba9.size)))
          have sb11 : Sm [bt] w5 w11 := (S6s.trans (.below ((Below.refl _ w7).drew.trans (Below.trans b8 (ba9.mono b8.size))) fun g hg => by rw [List.mem_singleton.1 hg]; exact Nat.lt_of_lt_of_le b5 (Nat.le_trans b56.size b7.size))).trans (.ro q11 fun g hg => by rw [List.mem_singleton.1 hg]; exact ⟨hbt9, by rw [kbt9]; omega⟩)
          have hbM : b < w9.heap.size ∧ gM < w9.heap.size ∧ K3 b = 1 ∧ K3 gM = 4 := by
            have h1 := (hLk b (by simp [hL])).1
            have h2 := (hLk gM (by simp [hL])).1
            exact ⟨Nat.lt_of_lt_of_le h1 S9.q.size, Nat.lt_of_lt_of_le h2 S9.q.size, (S9.q.kk b h1).trans hkb, (S9.q.kk gM h2).trans aM.hk⟩
          have R11 : RowK w11 K10 1 eByte B b9 := S9.rb.ro q11 (by omega)
          have P1 := C11.l_made (l := [b, gM]) (by simp)
          have e11 : ({ X with sent := ⟨X.sent.A, X.sent.c, X.sent.l.set i ⟨A10, c10, xS.l ++ [⟨B8, c8, b9⟩]⟩⟩ } : CwX).made = X.made := rfl
          rw [e11, aM.eA] at P1
          have a11 := C11.made.at hi aM.eA aM.hx
          have P2 : Ld Try.prog 74 gM (oM + i) (Sm [b, gM] w11) (.slice xM.A (v.made i).length xM.c) := ⟨fun W hW => load74s (cell_sm a11.hc (by simp) hW)⟩
          have sd11 : Sm [b, gM] w11 w11 ∧ Sm [bt] w5 w11 := ⟨Sm.refl _ _, sb11⟩
          repeat ((conv => whnf); first | (refine VS.last rfl ?_) | (refine VCmp.tt (by omega) ?_) | (refine VCmp.ff (by omega) ?_) | (refine VIn.mk (IntWalk.i64_in _ (by omega)) ?_) | (refine VIdx.mk _ rfl (by omega) ?_) | (refine VIdx.mk 0 rfl (by omega) ?_))
          try (conv => whnf)
          refine VDraw.pl 25 (.one [0, 1, 2, 3, 4, 5, 6, 7, 8, 9, 10, 11, 12, 13, 14, 15, 16, 17, 18] 19 (.one [20, 21] 22 (.one [] 23 (.one [24] 25 (.stop []))))) (fun W => Sm [b, gM] w11 W ∧ Sm [bt] w5 W) (by kernel_rfl) (sd11) ?_
          repeat ((conv => whnf); first | (refine VLoad.mk _ (P1.mono fun _ h => h.1) ?_) | (refine VLoad.mk _ (P2.mono fun _ h => h.1) ?_) | (refine VLoad.mk _ (U0.mono fun _ h => h.2) ?_) | (refine VLoad.mk _ (U1.mono fun _ h => h.2) ?_) | (refine VLoad.mk _ (U2.mono fun _ h => h.2) ?_) | (refine VCmp.tt (by omega) ?_) | (refine VCmp.ff (by omega) ?_) | (refine VIn.mk (IntWalk.i64_in _ (by omega)) ?_) | (refine VIdx.mk _ rfl (by omega) ?_) | (refine VIdx.mk 0 rfl (by omega) ?_))
          try (conv => whnf)
          have hd11 : Below w11.heap.size w11 w11.drew := (Below.refl _ w11).drew
          have R11d := R11.ro (Ro.below (R := fun _ => False) hd11) id
          refine VCall.mk _ (copied_any B cB _ b9 w11.drew e9 R11d.row (by omega)) ?_
          rintro _ w12 ⟨B12, c12, rfl, n12, b12⟩
          refine ⟨_, rfl, ?_⟩
          have b12' : Below w11.heap.size w11 w12 := hd11.trans b12
          have C12 := C11.below b12'
          have R12 : RowK w12 K10 1 eByte B12 b9 := n12.rowK fun y hy => C11.kz y hy
          have b11s : ∀ g ∈ [b, gM], g < w11.heap.size := fun g hg => by
            simp only [List.mem_cons, List.not_mem_nil, or_false] at hg
            have := q11.size
            rcases hg with rfl | rfl <;> omega
          have bt11 : bt < w11.heap.size := Nat.lt_of_lt_of_le hbt9 q11.size
          have sd12 : Sm [b, gM] w11 w12 ∧ Sm [bt] w5 w12 := ⟨.below b12' b11s, sb11.trans (.below b12' fun g hg => by rw [List.mem_singleton.1 hg]; exact bt11)⟩
          repeat ((conv => whnf); first | (refine VS.mk sd12 ?_) | (refine VCmp.tt (by omega) ?_) | (refine VCmp.ff (by omega) ?_) | (refine VIn.mk (IntWalk.i64_in _ (by omega)) ?_) | (refine VIdx.mk _ rfl (by omega) ?_) | (refine VIdx.mk 0 rfl (by omega) ?_))
          try (conv => whnf)
          refine VBuild.mk _ (fun W' => build71 W' d.s d.q d.st B12 nB c12) ?_
          repeat ((conv => whnf); first | (refine VS.mk sd12 ?_) | (refine VCmp.tt (by omega) ?_) | (refine VCmp.ff (by omega) ?_) | (refine VIn.mk (IntWalk.i64_in _ (by omega)) ?_) | (refine VIdx.mk _ rfl (by omega) ?_) | (refine VIdx.mk 0 rfl (by omega) ?_))
          try (conv => whnf)
          refine VBuild.mk _ (fun W' => build80d W' d.s d.q d.st B12 nB c12) ?_
          repeat ((conv => whnf); first | (refine VS.mk sd12 ?_) | (refine VCmp.tt (by omega) ?_) | (refine VCmp.ff (by omega) ?_) | (refine VIn.mk (IntWalk.i64_in _ (by omega)) ?_) | (refine VIdx.mk _ rfl (by omega) ?_) | (refine VIdx.mk 0 rfl (by omega) ?_))
          try (conv => whnf)
          refine VBs.mk _ _ (bs74x w12 (dIt d.s d.q d.st b9) B12 c12 nB) ?_
          have ba13 : Below w12.heap.size w12 (w12.alloc (.cells (itA (dIt d.s d.q d.st b9) B12 c12 nB) 80)) := (Below.refl _ _).alloc (Nat.le_refl _) _
          have hnc13 : ∀ j u, (eIx ⟨dIt d.s d.q d.st b9, B12, c12⟩)[j]? = some u → (w12.alloc (.cells (itA (dIt d.s d.q d.st b9) B12 c12 nB) 80)).cell? ⟨w12.heap.size, j, none⟩ = some u := fun j u hu => by
            have := range_new w12 (itA (dIt d.s d.q d.st b9) B12 c12 nB) 80 j u (by rw [← hu]; unfold eIx; show _ = (itA _ _ _ b9.length).toList[j]?; rw [e9])
            rwa [Nat.zero_add] at this
          have z13 : (w12.alloc (.cells (itA (dIt d.s d.q d.st b9) B12 c12 nB) 80)).heap.size = w12.heap.size + 1 := World.size_alloc _ _
          generalize w12.alloc (.cells (itA (dIt d.s d.q d.st b9) B12 c12 nB) 80) = w13 at ba13 hnc13 z13 ⊢
          have C13 := C12.below ba13
          have R13 : RowK w13 K10 1 eByte B12 b9 := R12.ro (Ro.below (R := fun _ => False) ba13) id
          have b13' : Below w11.heap.size w11 w13 := b12'.trans (ba13.mono b12'.size)
          have sd13 : Sm [b, gM] w11 w13 ∧ Sm [bt] w5 w13 := ⟨.below b13' b11s, sb11.trans (.below b13' fun g hg => by rw [List.mem_singleton.1 hg]; exact bt11)⟩
          repeat ((conv => whnf); first | (refine VS.mk sd13 ?_) | (refine VCmp.tt (by omega) ?_) | (refine VCmp.ff (by omega) ?_) | (refine VIn.mk (IntWalk.i64_in _ (by omega)) ?_) | (refine VIdx.mk _ rfl (by omega) ?_) | (refine VIdx.mk 0 rfl (by omega) ?_))
          try (conv => whnf)
          have a13 := C13.made.at hi aM.eA aM.hx
          have hml : (v.made i).length ≤ 500000 := Nat.le_trans (I.madeLen hi) (by omega)
          refine VApp.off 9 88 _ Try.underlying74 info80 rfl (by decide) eIx (fun _ => rfl) one_eIx xM.l ⟨dIt d.s d.q d.st b9, B12, c12⟩ aM.ln a13.ow hnc13 C13.kz (by omega) (by omega) fun A14 c14 K14 w14 o14 q14 kz14 => ?_
          have kM11 : K10 gM = 4 ∧ K10 b = 1 ∧ K10 bt = 300 := by
            have h1 := q11.kk gM hbM.2.1
            have h2 := q11.kk b hbM.1
            have h3 := q11.kk bt hbt9
            exact ⟨h1.trans hbM.2.2.2, h2.trans hbM.2.2.1, h3.trans kbt9⟩
          have hs13 := b13'.size
          have s14 : Sm [b, gM] w11 w14 := sd13.1.trans (.ro q14 fun g hg => by
            refine ⟨Nat.lt_of_lt_of_le (b11s g hg) hs13, ?_⟩
            simp only [List.mem_cons, List.not_mem_nil, or_false] at hg
            rcases hg with rfl | rfl <;> omega)
          have sb14 : Sm [bt] w5 w14 := sd13.2.trans (.ro q14 fun g hg => by rw [List.mem_singleton.1 hg]; exact ⟨Nat.lt_of_lt_of_le bt11 hs13, by omega⟩)
          repeat ((conv => whnf); first | (refine VS.mk ⟨s14, sb14⟩ ?_) | (refine VCmp.tt (by omega) ?_) | (refine VCmp.ff (by omega) ?_) | (refine VIn.mk (IntWalk.i64_in _ (by omega)) ?_) | (refine VIdx.mk _ rfl (by omega) ?_) | (refine VIdx.mk 0 rfl (by omega) ?_))
          try (conv => whnf)
          refine VStore.cell (by kernel_rfl) (by rw [show oM + mulO i 1 = oM + i from rfl, cell_sm a11.hc (by simp) s14]; rfl) ((World.frozen?_of_block (a := ⟨gM, _, none⟩) (s14 gM (by simp))).trans a11.hf) rfl rfl fun w15 hw15 => ?_
          obtain ⟨C15, q15⟩ := C13.push_made hi a13 ⟨dIt d.s d.q d.st b9, B12, c12⟩ o14 (R13.ro q14 (by omega)) q14 kz14 (w2 := w15) (by rw [hw15.out]; rfl)
          clear hw15 s14 sb14 q14 o14 hnc13
          repeat ((conv => whnf); first | (refine VS.last rfl ?_) | (refine VCmp.tt (by omega) ?_) | (refine VCmp.ff (by omega) ?_) | (refine VIn.mk (IntWalk.i64_in _ (by omega)) ?_) | (refine VIdx.mk _ rfl (by omega) ?_) | (refine VIdx.mk 0 rfl (by omega) ?_))
          try (conv => whnf)
          have qa : Ro (fun z => 0 < z ∧ z < 400) K K3 w w9 := S9.q
          have qb : Ro (fun z => 0 < z ∧ z < 400) K3 K10 w9 w11 := q11.more fun z hz => by omega
          have qc : Ro (fun z => 0 < z ∧ z < 400) K10 K10 w11 w13 := Ro.below b13'
          have qd : Ro (fun z => 0 < z ∧ z < 400) K10 K14 w13 w15 := q15.more fun z hz => by omega
          have ev : v.send i b9 = { v with o := upN v.o i ((v.o i).keep d), sent := upN v.sent i (v.sent i ++ [b9]), made := upN v.made i (v.made i ++ [dIt d.s d.q d.st b9]) } := by
            unfold Crw.send; rw [if_neg hf0, hd]
          rw [ev]
          exact .mk ⟨rfl, K14, _, C15, ((qa.trans qb).trans qc).trans qd⟩
  · have e9 : b9.length = 9 := by rw [hb9, List.length_take]; omega
    repeat ((conv => whnf); first | (refine VSl.cutTo (h := 9) (by omega) ?_) | (refine VLoad.mk _ (M2.at s0) ?_) | (refine VLoad.mk _ (N2.at s0) ?_) | (refine VCmp.tt (by omega) ?_) | (refine VCmp.ff (by omega) ?_) | (refine VIn.mk (IntWalk.i64_in _ (by omega)) ?_) | (refine VIdx.mk _ rfl (by omega) ?_) | (refine VIdx.mk 0 rfl (by omega) ?_))
    try (conv => whnf)
    clear hlen hB hnB hcB
    skip
    have WO := I.wf hT hi
    have hfree := I.free hi
    have hfr := I.fr i i hi hi
    have hse := I.se i hi
    have hown := I.own i hi
    refine VCall.mk _ (free_any AO WO.self (by have := WO.tk (v.o i).self; omega) (by have := WO.gn (v.o i).self; omega) WO.win) ?_
    rintro _ w1 ⟨rfl, b1⟩
    refine ⟨_, rfl, ?_⟩
    have s1 : Sm L w w1 := .below b1 hlt
    have sd1 : Sm L w w1.drew := s1
    have S1 : SnO w K b v X i L B b9 (v.o i) w1 K := by
      refine ⟨?_, Ro.below b1, s1, hB9.ro (Ro.below (R := fun _ => False) b1) id⟩
      rw [upN_id]; exact C.below b1
    have Sd1 := S1.below hLk (Below.refl _ w1).drew
    have hsf : (v.o i).self = pidN i := (I.mi i hi).self
    have htk : (v.o i).taken (v.o i).self + 1 ≤ 1000000000 := by rw [hsf, hown]; omega
    have hnew := WO.new (s := (v.o i).self) rfl
    have hql := (I.rm hT hi).ql
    repeat ((conv => whnf); first | (refine VCmp.tt (by omega) ?_) | (refine VCmp.ff (by omega) ?_) | (refine VIn.mk (IntWalk.i64_in _ (by omega)) ?_) | (refine VIdx.mk _ rfl (by omega) ?_) | (refine VIdx.mk 0 rfl (by omega) ?_))
    try (conv => whnf)
    refine VDraw.pl 1000 (.two [0, 1, 2, 3, 4, 5, 6, 7] 8 (.two [] 9 (.one [10, 11, 12] 13 (.one [] 14 (.stop [15]))) 13 (.one [] 9 (.one [10, 11, 12] 14 (.stop [15])))) 13 (.one [] 8 (.one [] 9 (.one [10, 11, 12] 14 (.stop [15]))))) (Sm L w) (by kernel_rfl) (sd1) ?_
    repeat ((conv => whnf); first | (refine VLoad.mk _ M2 ?_) | (refine VLoad.mk _ N2 ?_) | (refine VCmp.tt (by omega) ?_) | (refine VCmp.ff (by omega) ?_) | (refine VIn.mk (IntWalk.i64_in _ (by omega)) ?_) | (refine VIdx.mk _ rfl (by omega) ?_) | (refine VIdx.mk 0 rfl (by omega) ?_))
    try (conv => whnf)
    refine ⟨?_, ?_⟩
    · skip
      repeat ((conv => whnf); first | (refine VCmp.tt (by omega) ?_) | (refine VCmp.ff (by omega) ?_) | (refine VIn.mk (IntWalk.i64_in _ (by omega)) ?_) | (refine VIdx.mk _ rfl (by omega) ?_) | (refine VIdx.mk 0 rfl (by omega) ?_))
      try (conv => whnf)
      refine VCall.mk _ (copied_any B cB _ b9 w1.drew e9 Sd1.rb.row (by omega)) ?_
      rintro _ w2 ⟨B2, c2, rfl, n2, b2⟩
      refine ⟨_, rfl, ?_⟩
      have S2 := Sd1.below hLk b2
      have R2 : RowK w2 K 1 eByte B2 b9 := n2.rowK Sd1.C.kz
      repeat ((conv => whnf); first | (refine VS.mk S2.s ?_) | (refine VCmp.tt (by omega) ?_) | (refine VCmp.ff (by omega) ?_) | (refine VIn.mk (IntWalk.i64_in _ (by omega)) ?_) | (refine VIdx.mk _ rfl (by omega) ?_) | (refine VIdx.mk 0 rfl (by omega) ?_))
      try (conv => whnf)
      refine ⟨?_, ?_⟩
      · skip
        repeat ((conv => whnf); first | (refine VCmp.tt (by omega) ?_) | (refine VCmp.ff (by omega) ?_) | (refine VIn.mk (IntWalk.i64_in _ (by omega)) ?_) | (refine VIdx.mk _ rfl (by omega) ?_) | (refine VIdx.mk 0 rfl (by omega) ?_))
        try (conv => whnf)
        obtain ⟨Y2, A2⟩ := S2.get hi hbj
        refine VCall.mk _ (send_any A2 WO b9 htk hnew hql e9 R2.row) ?_
        rintro _ w3 ⟨A', c', rfl, -, K3, Y3, A3, q3, R3⟩
        refine ⟨_, rfl, ?_⟩
        have S3 := S2.ord hLk hi hbj A3 q3
        repeat ((conv => whnf); first | (refine VS.mk S3.s ?_) | (refine VCmp.tt (by omega) ?_) | (refine VCmp.ff (by omega) ?_) | (refine VIn.mk (IntWalk.i64_in _ (by omega)) ?_) | (refine VIdx.mk _ rfl (by omega) ?_) | (refine VIdx.mk 0 rfl (by omega) ?_))
        try (conv => whnf)
        refine .mk _ run_zero71 ?_
        conv => whnf
        refine .mk fun u4 hu4 => ?_
        obtain ⟨bt, hbt⟩ : ∃ bt, bt = w3.heap.size := ⟨_, rfl⟩
        have tu4 : u4.there bt 0 4 := by rw [hu4.out, hbt]; exact there_new _ _ _
        have Su4 := S3.box hLk hbt hu4.out
        have eu4 : Ro (fun _ => False) K3 (upN K3 bt 300) w3 u4 := (Ro.below (by rw [hu4.out]; exact (Below.refl _ w3).alloc (Nat.le_refl _) _)).role fun z hz => upN_ne _ _ (by omega)
        have ku4 : upN K3 bt 300 bt = 300 := upN_same _ _ _
        have bu4 : bt < u4.heap.size := by rw [hu4.out, hbt]; show w3.heap.size < _; rw [World.size_alloc]; omega
        rw [← hbt]
        clear hu4
        have R4 := R3.ro eu4 id
        repeat ((conv => whnf); first | (refine VS.mk Su4.s ?_) | (refine VCmp.tt (by omega) ?_) | (refine VCmp.ff (by omega) ?_) | (refine VIn.mk (IntWalk.i64_in _ (by omega)) ?_) | (refine VIdx.mk _ rfl (by omega) ?_) | (refine VIdx.mk 0 rfl (by omega) ?_))
        try (conv => whnf)
        refine VStore.mid (c := dtA ((v.o i).send b9).1 A' c' ((v.o i).send b9).1.b.length) tu4 (by kernel_rfl) (one_dtA _ _ _ _) fun w5 hw5 => ?_
        obtain ⟨S5, q5⟩ := Su4.store hLk ku4 hw5.out
        have r5 : w5.rangeAt bt 0 (dtA ((v.o i).send b9).1 A' c' ((v.o i).send b9).1.b.length).toList := by rw [hw5.out]; exact rng_in tu4 (by simp)
        have R5 := R4.ro q5 (by omega)
        have b5 : bt < w5.heap.size := by have := q5.size; omega
        clear hw5 tu4
        repeat ((conv => whnf); first | (refine VS.mk S5.s ?_) | (refine VCmp.tt (by omega) ?_) | (refine VCmp.ff (by omega) ?_) | (refine VIn.mk (IntWalk.i64_in _ (by omega)) ?_) | (refine VIdx.mk _ rfl (by omega) ?_) | (refine VIdx.mk 0 rfl (by omega) ?_))
        try (conv => whnf)
        have M2' := M2.at S5.s
        have N2' := N2.at S5.s
        have n256 : ¬ 256 < b9.length := by omega
        have q05 := S5.q
        cases hst : v.stop i with
        | true =>
          rw [hst, if_pos rfl] at hfree
          have hsend : (v.o i).send b9 = (dt0, 70, v.o i) := by unfold Os.send; rw [if_neg n256, if_pos (by rw [I.frz i hi]; exact hst)]
          rw [hst] at N3
          repeat ((conv => whnf); first | (refine VLoad.mk _ (M3.at S5.s) ?_) | (refine VLoad.mk _ (N3.at S5.s) ?_) | (refine VCmp.tt (by omega) ?_) | (refine VCmp.ff (by omega) ?_) | (refine VIn.mk (IntWalk.i64_in _ (by omega)) ?_) | (refine VIdx.mk _ rfl (by omega) ?_) | (refine VIdx.mk 0 rfl (by omega) ?_))
          try (conv => whnf)
          refine VCall.mk _ (num_any _ w5) ?_
          rintro _ x6 ⟨rfl, e6⟩
          subst x6
          refine ⟨_, rfl, ?_⟩
          have h1 : ((v.o i).send b9).2.1 = 70 := by rw [hsend]
          rw [h1, hfree]
          repeat ((conv => whnf); first | (refine VCmp.tt (by omega) ?_) | (refine VCmp.ff (by omega) ?_) | (refine VIn.mk (IntWalk.i64_in _ (by omega)) ?_) | (refine VIdx.mk _ rfl (by omega) ?_) | (refine VIdx.mk 0 rfl (by omega) ?_))
          try (conv => whnf)
          have C5 := S5.C
          rw [hsend, upN_id] at C5
          refine .mk ⟨rfl, (upN K3 bt 300), X, ?_, q05⟩
          have e : v.send i b9 = v := by unfold Crw.send; rw [if_pos hfree]
          rw [e]; exact C5
        | false =>
          rw [hst] at N3 hfree
          rw [if_neg (by decide)] at hfree
          by_cases hf0 : (v.o i).free = 0
          · have hsend : (v.o i).send b9 = (dt0, 71, v.o i) := by unfold Os.send; rw [if_neg n256, if_neg (by rw [I.frz i hi, hst]; decide), if_pos hf0]
            repeat ((conv => whnf); first | (refine VLoad.mk _ (M3.at S5.s) ?_) | (refine VLoad.mk _ (N3.at S5.s) ?_) | (refine VCmp.tt (by omega) ?_) | (refine VCmp.ff (by omega) ?_) | (refine VIn.mk (IntWalk.i64_in _ (by omega)) ?_) | (refine VIdx.mk _ rfl (by omega) ?_) | (refine VIdx.mk 0 rfl (by omega) ?_))
            try (conv => whnf)
            refine VCall.mk _ (num_any _ w5) ?_
            rintro _ x6 ⟨rfl, e6⟩
            subst x6
            refine ⟨_, rfl, ?_⟩
            have h1 : ((v.o i).send b9).2.1 = 71 := by rw [hsend]
            rw [h1]
            repeat ((conv => whnf); first | (refine VCmp.tt (by omega) ?_) | (refine VCmp.ff (by omega) ?_) | (refine VIn.mk (IntWalk.i64_in _ (by omega)) ?_) | (refine VIdx.mk _ rfl (by omega) ?_) | (refine VIdx.mk 0 rfl (by omega) ?_))
            try (conv => whnf)
            have C5 := S5.C
            rw [hsend, upN_id] at C5
            refine .mk ⟨rfl, (upN K3 bt 300), X, ?_, q05⟩
            have e : v.send i b9 = v := by unfold Crw.send; rw [if_pos hf0]
            rw [e]; exact C5
          · have hsend : (v.o i).send b9 = (⟨pidN i, (v.o i).taken (pidN i) + 1, (v.o i).pre, b9⟩, 0, (v.o i).keep ⟨pidN i, (v.o i).taken (pidN i) + 1, (v.o i).pre, b9⟩) := by
              unfold Os.send; rw [if_neg n256, if_neg (by rw [I.frz i hi, hst]; decide), if_neg hf0, hsf]
            obtain ⟨d, hd⟩ : ∃ d : Dt, d = ⟨pidN i, (v.o i).taken (pidN i) + 1, (v.o i).pre, b9⟩ := ⟨_, rfl⟩
            have h1 : ((v.o i).send b9).2.1 = 0 := by rw [hsend]
            have h2 : ((v.o i).send b9).1 = d := by rw [hsend, hd]
            have h3 : ((v.o i).send b9).2.2 = (v.o i).keep d := by rw [hsend, hd]
            rw [h2] at r5 R5
            rw [h3] at S5
            rw [h1, h2]
            clear h1 h2 h3
            have db : d.b = b9 := by rw [hd]
            have ds : d.s = pidN i := by rw [hd]
            have dq : d.q = (v.sent i).length + 1 := by rw [hd, ← hown]
            have dst : d.st = (v.o i).pre := by rw [hd]
            have sd5 : Sm L w w5 ∧ Sm [bt] w5 w5 := ⟨S5.s, Sm.refl _ _⟩
            have U0 : Ld Try.prog 3 bt 0 (Sm [bt] w5) (.int .i64 d.s) := ⟨fun W hW => load3 (cell_sm (r5 0 _ rfl) (by simp) hW)⟩
            have T0 : Ld Try.prog 3 bt 0 (fun W => Sm L w W ∧ Sm [bt] w5 W) (.int .i64 d.s) := U0.mono fun _ h => h.2
            have U1 : Ld Try.prog 3 bt 1 (Sm [bt] w5) (.int .i64 d.q) := ⟨fun W hW => load3 (cell_sm (r5 1 _ rfl) (by simp) hW)⟩
            have T1 : Ld Try.prog 3 bt 1 (fun W => Sm L w W ∧ Sm [bt] w5 W) (.int .i64 d.q) := U1.mono fun _ h => h.2
            have U2 : Ld Try.prog 3 bt 2 (Sm [bt] w5) (.int .i64 d.st) := ⟨fun W hW => load3 (cell_sm (r5 2 _ rfl) (by simp) hW)⟩
            have T3 : Ld Try.prog 27 bt 3 (fun W => Sm L w W ∧ Sm [bt] w5 W) (.slice A' d.b.length c') := ⟨fun W hW => load27 (cell_sm (r5 3 _ rfl) (by simp) hW.2)⟩
            have epid : (3 * (i : Int) + 1) = ((pidN i : Nat) : Int) := by unfold pidN; omega
            repeat ((conv => whnf); first | (refine VLoad.mk _ (M3.at S5.s) ?_) | (refine VLoad.mk _ (N3.at S5.s) ?_) | (refine VCmp.tt (by omega) ?_) | (refine VCmp.ff (by omega) ?_) | (refine VIn.mk (IntWalk.i64_in _ (by omega)) ?_) | (refine VIdx.mk _ rfl (by omega) ?_) | (refine VIdx.mk 0 rfl (by omega) ?_))
            try (conv => whnf)
            refine VDraw.pl 1000 (.one [0] 1 (.one [2, 3, 4, 5, 6] 7 (.one [8, 9, 10, 11, 12, 13, 14, 15, 16, 17, 18, 19, 20, 21, 22, 23, 24, 25, 26, 27] 28 (.one [29, 30, 31, 32, 33, 34, 35, 36, 37, 38, 40, 41] 39 (.stop [42, 43]))))) (fun W => Sm L w W ∧ Sm [bt] w5 W) (by kernel_rfl) (sd5) ?_
            repeat ((conv => whnf); first | (refine VCmp.tt (by omega) ?_) | (refine VCmp.ff (by omega) ?_) | (refine VIn.mk (IntWalk.i64_in _ (by omega)) ?_) | (refine VIdx.mk _ rfl (by omega) ?_) | (refine VIdx.mk 0 rfl (by omega) ?_))
            try (conv => whnf)
            refine VCall.mk _ (num_any _ w5.drew) ?_
            rintro _ x6 ⟨rfl, e6⟩
            subst x6
            refine ⟨_, rfl, ?_⟩
            repeat ((conv => whnf); first | (refine VS.mk sd5 ?_) | (refine VLoad.mk _ T0 ?_) | (refine VCmp.tt (by omega) ?_) | (refine VCmp.ff (by omega) ?_) | (refine VIn.mk (IntWalk.i64_in _ (by omega)) ?_) | (refine VIdx.mk _ rfl (by omega) ?_) | (refine VIdx.mk 0 rfl (by omega) ?_))
            try (conv => whnf)
            refine VCall.mk _ (pid_any i w5.drew (by omega) (by omega)) ?_
            rintro _ x6 ⟨rfl, e6⟩
            subst x6
            refine ⟨_, rfl, ?_⟩
            rw [epid]
            repeat ((conv => whnf); first | (refine VS.mk sd5 ?_) | (refine VLoad.mk _ T1 ?_) | (refine VLoad.mk _ (M0.mono fun _ h => h.1) ?_) | (refine VLoad.mk _ (N0.mono fun _ h => h.1) ?_) | (refine VLoad.mk _ T3 ?_) | (refine VCmp.tt (by omega) ?_) | (refine VCmp.ff (by omega) ?_) | (refine VIn.mk (IntWalk.i64_in _ (by omega)) ?_) | (refine VIdx.mk _ rfl (by omega) ?_) | (refine VIdx.mk 0 rfl (by omega) ?_))
            try (conv => whnf)
            have Sd5 := S5.below hLk (Below.refl _ w5).drew
            have Rd5 := R5.ro (Ro.below (R := fun _ => False) (Below.refl _ w5).drew) id
            refine VCall.mk _ (sameBytes_any A' B c' cB d.b.length 9 w5.drew.heap.size d.b b9 w5.drew rfl e9 (Nat.le_refl _) Rd5.row Sd5.rb.row (by rw [db]; omega)) ?_
            rintro _ w6 ⟨rfl, b6⟩
            refine ⟨_, rfl, ?_⟩
            have S6 := Sd5.below hLk b6
            have b56 : Below w5.heap.size w5 w6 := (Below.refl _ w5).drew.trans b6
            have sd6 : Sm L w w6 ∧ Sm [bt] w5 w6 := ⟨S6.s, .below b56 fun g hg => by rw [List.mem_singleton.1 hg]; exact b5⟩
            rw [decide_eq_true (show d.b = b9 from db)]
            have hfb : (v.o i).free ≤ 2000000000 ∧ -1000000000 ≤ (v.o i).free := by have := I.w4; have := WO.gn (pidN i); omega
            repeat ((conv => whnf); first | (refine VS.mk sd6 ?_) | (refine VLoad.mk _ (M2.mono fun _ h => h.1) ?_) | (refine VLoad.mk _ (N2.mono fun _ h => h.1) ?_) | (refine VCmp.tt (by omega) ?_) | (refine VCmp.ff (by omega) ?_) | (refine VIn.mk (IntWalk.i64_in _ (by omega)) ?_) | (refine VIdx.mk _ rfl (by omega) ?_) | (refine VIdx.mk 0 rfl (by omega) ?_))
            try (conv => whnf)
            obtain ⟨Y6, A6⟩ := S6.get hi hbj
            have kf : ((v.o i).keep d).free = (v.o i).free - 1 := by
              have e1 : ((v.o i).keep d).free = if (v.o i).frz = true then 0 else ((v.o i).win : Int) - (((upN (v.o i).taken d.s d.q (v.o i).self : Nat) : Int) - ((v.o i).gone (v.o i).self : Int)) := rfl
              have e2 : (v.o i).frz = false := by rw [I.frz i hi, hst]
              rw [e1, e2, hfree, if_neg (by decide), hsf, ds, upN_same, dq, (I.mi i hi).win, hown]
              omega
            have kt : ((v.o i).keep d).taken ((v.o i).keep d).self = d.q := by
              show upN (v.o i).taken d.s d.q (v.o i).self = _
              rw [hsf, ds, upN_same]
            refine VCall.mk _ (free_any A6 WO.self (by rw [kt, dq]; omega) (by have := WO.gn (v.o i).self; show (v.o i).gone (v.o i).self ≤ _; omega) WO.win) ?_
            rintro _ w7 ⟨rfl, b7⟩
            refine ⟨_, rfl, ?_⟩
            rw [kf]
            have S7 := S6.below hLk b7
            have sd7 : Sm L w w7 ∧ Sm [bt] w5 w7 := ⟨S7.s, sd6.2.trans (.below b7 fun g hg => by rw [List.mem_singleton.1 hg]; exact Nat.lt_of_lt_of_le b5 b56.size)⟩
            repeat ((conv => whnf); first | (refine VS.mk sd7 ?_) | (refine VCmp.tt (by omega) ?_) | (refine VCmp.ff (by omega) ?_) | (refine VIn.mk (IntWalk.i64_in _ (by omega)) ?_) | (refine VIdx.mk _ rfl (by omega) ?_) | (refine VIdx.mk 0 rfl (by omega) ?_))
            try (conv => whnf)
            refine VDraw.pl 17 (.one [0, 1, 2, 3, 4, 5, 6, 7, 8, 9, 10, 11, 12] 13 (.one [] 14 (.one [] 15 (.one [16] 17 (.stop []))))) (Sm L w) (by kernel_rfl) (S7.s) ?_
            repeat ((conv => whnf); first | (refine VLoad.mk _ M0 ?_) | (refine VLoad.mk _ N0 ?_) | (refine VCmp.tt (by omega) ?_) | (refine VCmp.ff (by omega) ?_) | (refine VIn.mk (IntWalk.i64_in _ (by omega)) ?_) | (refine VIdx.mk _ rfl (by omega) ?_) | (refine VIdx.mk 0 rfl (by omega) ?_))
            try (conv => whnf)
            have Sd7 := S7.below hLk (Below.refl _ w7).drew
            refine VCall.mk _ (copied_any B cB _ b9 w7.drew e9 Sd7.rb.row (by omega)) ?_
            rintro _ w8 ⟨B8, c8, rfl, n8, b8⟩
            refine ⟨_, rfl, ?_⟩
            have S8 := Sd7.below hLk b8
            have R8 : RowK w8 (upN K3 bt 300) 1 eByte B8 b9 := n8.rowK Sd7.C.kz
            repeat ((conv => whnf); first | (refine VS.mk S8.s ?_) | (refine VCmp.tt (by omega) ?_) | (refine VCmp.ff (by omega) ?_) | (refine VIn.mk (IntWalk.i64_in _ (by omega)) ?_) | (refine VIdx.mk _ rfl (by omega) ?_) | (refine VIdx.mk 0 rfl (by omega) ?_))
            try (conv => whnf)
            refine VBs.mk _ _ (bs41 w8 B8 9 c8) ?_
            have ba9 : Below w8.heap.size w8 (w8.alloc (.cells #[.slice B8 9 c8] 27)) := (Below.refl _ _).alloc (Nat.le_refl _) _
            have hnc9 : ∀ j u, (eBx ⟨B8, c8, b9⟩)[j]? = some u → (w8.alloc (.cells #[.slice B8 9 c8] 27)).cell? ⟨w8.heap.size, j, none⟩ = some u := fun j u hu => by
              have := range_new w8 #[.slice B8 9 c8] 27 j u (by rw [← hu]; unfold eBx; rw [e9])
              rwa [Nat.zero_add] at this
            have z9 : (w8.alloc (.cells #[.slice B8 9 c8] 27)).heap.size = w8.heap.size + 1 := World.size_alloc _ _
            generalize w8.alloc (.cells #[.slice B8 9 c8] 27) = w9 at ba9 hnc9 z9 ⊢
            have S9 := S8.below hLk ba9
            have R9 : RowK w9 (upN K3 bt 300) 1 eByte B8 b9 := R8.ro (Ro.below (R := fun _ => False) ba9) id
            repeat ((conv => whnf); first | (refine VS.mk S9.s ?_) | (refine VCmp.tt (by omega) ?_) | (refine VCmp.ff (by omega) ?_) | (refine VIn.mk (IntWalk.i64_in _ (by omega)) ?_) | (refine VIdx.mk _ rfl (by omega) ?_) | (refine VIdx.mk 0 rfl (by omega) ?_))
            try (conv => whnf)
            have a9 := S9.C.sent.at hi aS.eA aS.hx
            refine VApp.off 1 24 _ Try.underlying41 info27 rfl (by decide) eBx (fun _ => rfl) one_eBx xS.l ⟨B8, c8, b9⟩ aS.ln a9.ow hnc9 S9.C.kz (by omega) (by omega) fun A10 c10 K10 w10 o10 q10 kz10 => ?_
            have kL : ∀ g ∈ L, K g < 10 := fun g hg => by
              rw [hL] at hg
              simp only [List.mem_cons, List.not_mem_nil, or_false] at hg
              have q3 := aS.hk
              have q4 := aM.hk
              rcases hg with rfl | rfl | rfl | rfl | rfl <;> omega
            have hLs : ∀ g ∈ L, g < w9.heap.size ∧ (upN K3 bt 300) g < 10 := fun g hg => by
              have h1 := hlt g hg
              refine ⟨Nat.lt_of_lt_of_le h1 S9.q.size, ?_⟩
              rw [S9.q.kk g h1]; exact kL g hg
            have s10 : Sm L w w10 := S9.s.trans (.ro q10 fun g hg => ⟨(hLs g hg).1, by have := (hLs g hg).2; omega⟩)
            repeat ((conv => whnf); first | (refine VS.mk s10 ?_) | (refine VCmp.tt (by omega) ?_) | (refine VCmp.ff (by omega) ?_) | (refine VIn.mk (IntWalk.i64_in _ (by omega)) ?_) | (refine VIdx.mk _ rfl (by omega) ?_) | (refine VIdx.mk 0 rfl (by omega) ?_))
            try (conv => whnf)
            refine VStore.cell (by kernel_rfl) (by rw [show oS + mulO i 1 = oS + i from rfl, cell_sm aS.hc (by simp [hL]) s10]; rfl) ((World.frozen?_of_block (a := ⟨gS, _, none⟩) (s10 gS (by simp [hL]))).trans aS.hf) rfl rfl fun w11 hw11 => ?_
            obtain ⟨C11, q11⟩ := S9.C.push_sent hi a9 ⟨B8, c8, b9⟩ o10 (R9.ro q10 (by omega)) q10 kz10 (w2 := w11) (by rw [hw11.out]; rfl)
            clear hw11 s10 q10 o10 hnc9
            have S6s := sd7.2
            have kbt9 : (upN K3 bt 300) bt = 300 := ku4
            have hbt9 : bt < w9.heap.size := Nat.lt_of_lt_of_le b5 (Nat.le_trans b56.size (Nat.le_trans b7.size (Nat.le_trans b8.size ba9.size)))
            have sb11 : Sm [bt] w5 w11 := (S6s.trans (.below ((Below.refl _ w7).drew.trans (Below.trans b8 (ba9.mono b8.size))) fun g hg => by rw [List.mem_singleton.1 hg]; exact Nat.lt_of_lt_of_le b5 (Nat.le_trans b56.size b7.size))).trans (.ro q11 fun g hg => by rw [List.mem_singleton.1 hg]; exact ⟨hbt9, by rw [kbt9]; omega⟩)
            have hbM : b < w9.heap.size ∧ gM < w9.heap.size ∧ (upN K3 bt 300) b = 1 ∧ (upN K3 bt 300) gM = 4 := by
              have h1 := (hLk b (by simp [hL])).1
              have h2 := (hLk gM (by simp [hL])).1
              exact ⟨Nat.lt_of_lt_of_le h1 S9.q.size, Nat.lt_of_lt_of_le h2 S9.q.size, (S9.q.kk b h1).trans hkb, (S9.q.kk gM h2).trans aM.hk⟩
            have R11 : RowK w11 K10 1 eByte B b9 := S9.rb.ro q11 (by omega)
            have P1 := C11.l_made (l := [b, gM]) (by simp)
            have e11 : ({ X with sent := ⟨X.sent.A, X.sent.c, X.sent.l.set i ⟨A10, c10, xS.l ++ [⟨B8, c8, b9⟩]⟩⟩ } : CwX).made = X.made := rfl
            rw [e11, aM.eA] at P1
            have a11 := C11.made.at hi aM.eA aM.hx
            have P2 : Ld Try.prog 74 gM (oM + i) (Sm [b, gM] w11) (.slice xM.A (v.made i).length xM.c) := ⟨fun W hW => load74s (cell_sm a11.hc (by simp) hW)⟩
            have sd11 : Sm [b, gM] w11 w11 ∧ Sm [bt] w5 w11 := ⟨Sm.refl _ _, sb11⟩
            repeat ((conv => whnf); first | (refine VS.last rfl ?_) | (refine VCmp.tt (by omega) ?_) | (refine VCmp.ff (by omega) ?_) | (refine VIn.mk (IntWalk.i64_in _ (by omega)) ?_) | (refine VIdx.mk _ rfl (by omega) ?_) | (refine VIdx.mk 0 rfl (by omega) ?_))
            try (conv => whnf)
            refine VDraw.pl 25 (.one [0, 1, 2, 3, 4, 5, 6, 7, 8, 9, 10, 11, 12, 13, 14, 15, 16, 17, 18] 19 (.one [20, 21] 22 (.one [] 23 (.one [24] 25 (.stop []))))) (fun W => Sm [b, gM] w11 W ∧ Sm [bt] w5 W) (by kernel_rfl) (sd11) ?_
            repeat ((conv => whnf); first | (refine VLoad.mk _ (P1.mono fun _ h => h.1) ?_) | (refine VLoad.mk _ (P2.mono fun _ h => h.1) ?_) | (refine VLoad.mk _ (U0.mono fun _ h => h.2) ?_) | (refine VLoad.mk _ (U1.mono fun _ h => h.2) ?_) | (refine VLoad.mk _ (U2.mono fun _ h => h.2) ?_) | (refine VCmp.tt (by omega) ?_) | (refine VCmp.ff (by omega) ?_) | (refine VIn.mk (IntWalk.i64_in _ (by omega)) ?_) | (refine VIdx.mk _ rfl (by omega) ?_) | (refine VIdx.mk 0 rfl (by omega) ?_))
            try (conv => whnf)
            have hd11 : Below w11.heap.size w11 w11.drew := (Below.refl _ w11).drew
            have R11d := R11.ro (Ro.below (R := fun _ => False) hd11) id
            refine VCall.mk _ (copied_any B cB _ b9 w11.drew e9 R11d.row (by omega)) ?_
            rintro _ w12 ⟨B12, c12, rfl, n12, b12⟩
            refine ⟨_, rfl, ?_⟩
            have b12' : Below w11.heap.size w11 w12 := hd11.trans b12
            have C12 := C11.below b12'
            have R12 : RowK w12 K10 1 eByte B12 b9 := n12.rowK fun y hy => C11.kz y hy
            have b11s : ∀ g ∈ [b, gM], g < w11.heap.size := fun g hg => by
              simp only [List.mem_cons, List.not_mem_nil, or_false] at hg
              have := q11.size
              rcases hg with rfl | rfl <;> omega
            have bt11 : bt < w11.heap.size := Nat.lt_of_lt_of_le hbt9 q11.size
            have sd12 : Sm [b, gM] w11 w12 ∧ Sm [bt] w5 w12 := ⟨.below b12' b11s, sb11.trans (.below b12' fun g hg => by rw [List.mem_singleton.1 hg]; exact bt11)⟩
            repeat ((conv => whnf); first | (refine VS.mk sd12 ?_) | (refine VCmp.tt (by omega) ?_) | (refine VCmp.ff (by omega) ?_) | (refine VIn.mk (IntWalk.i64_in _ (by omega)) ?_) | (refine VIdx.mk _ rfl (by omega) ?_) | (refine VIdx.mk 0 rfl (by omega) ?_))
            try (conv => whnf)
            refine VBuild.mk _ (fun W' => build71 W' d.s d.q d.st B12 9 c12) ?_
            repeat ((conv => whnf); first | (refine VS.mk sd12 ?_) | (refine VCmp.tt (by omega) ?_) | (refine VCmp.ff (by omega) ?_) | (refine VIn.mk (IntWalk.i64_in _ (by omega)) ?_) | (refine VIdx.mk _ rfl (by omega) ?_) | (refine VIdx.mk 0 rfl (by omega) ?_))
            try (conv => whnf)
            refine VBuild.mk _ (fun W' => build80d W' d.s d.q d.st B12 9 c12) ?_
            repeat ((conv => whnf); first | (refine VS.mk sd12 ?_) | (refine VCmp.tt (by omega) ?_) | (refine VCmp.ff (by omega) ?_) | (refine VIn.mk (IntWalk.i64_in _ (by omega)) ?_) | (refine VIdx.mk _ rfl (by omega) ?_) | (refine VIdx.mk 0 rfl (by omega) ?_))
            try (conv => whnf)
            refine VBs.mk _ _ (bs74x w12 (dIt d.s d.q d.st b9) B12 c12 9) ?_
            have ba13 : Below w12.heap.size w12 (w12.alloc (.cells (itA (dIt d.s d.q d.st b9) B12 c12 9) 80)) := (Below.refl _ _).alloc (Nat.le_refl _) _
            have hnc13 : ∀ j u, (eIx ⟨dIt d.s d.q d.st b9, B12, c12⟩)[j]? = some u → (w12.alloc (.cells (itA (dIt d.s d.q d.st b9) B12 c12 9) 80)).cell? ⟨w12.heap.size, j, none⟩ = some u := fun j u hu => by
              have := range_new w12 (itA (dIt d.s d.q d.st b9) B12 c12 9) 80 j u (by rw [← hu]; unfold eIx; show _ = (itA _ _ _ b9.length).toList[j]?; rw [e9])
              rwa [Nat.zero_add] at this
            have z13 : (w12.alloc (.cells (itA (dIt d.s d.q d.st b9) B12 c12 9) 80)).heap.size = w12.heap.size + 1 := World.size_alloc _ _
            generalize w12.alloc (.cells (itA (dIt d.s d.q d.st b9) B12 c12 9) 80) = w13 at ba13 hnc13 z13 ⊢
            have C13 := C12.below ba13
            have R13 : RowK w13 K10 1 eByte B12 b9 := R12.ro (Ro.below (R := fun _ => False) ba13) id
            have b13' : Below w11.heap.size w11 w13 := b12'.trans (ba13.mono b12'.size)
            have sd13 : Sm [b, gM] w11 w13 ∧ Sm [bt] w5 w13 := ⟨.below b13' b11s, sb11.trans (.below b13' fun g hg => by rw [List.mem_singleton.1 hg]; exact bt11)⟩
            repeat ((conv => whnf); first | (refine VS.mk sd13 ?_) | (refine VCmp.tt (by omega) ?_) | (refine VCmp.ff (by omega) ?_) | (refine VIn.mk (IntWalk.i64_in _ (by omega)) ?_) | (refine VIdx.mk _ rfl (by omega) ?_) | (refine VIdx.mk 0 rfl (by omega) ?_))
            try (conv => whnf)
            have a13 := C13.made.at hi aM.eA aM.hx
            have hml : (v.made i).length ≤ 500000 := Nat.le_trans (I.madeLen hi) (by omega)
            refine VApp.off 9 88 _ Try.underlying74 info80 rfl (by decide) eIx (fun _ => rfl) one_eIx xM.l ⟨dIt d.s d.q d.st b9, B12, c12⟩ aM.ln a13.ow hnc13 C13.kz (by omega) (by omega) fun A14 c14 K14 w14 o14 q14 kz14 => ?_
            have kM11 : K10 gM = 4 ∧ K10 b = 1 ∧ K10 bt = 300 := by
              have h1 := q11.kk gM hbM.2.1
              have h2 := q11.kk b hbM.1
              have h3 := q11.kk bt hbt9
              exact ⟨h1.trans hbM.2.2.2, h2.trans hbM.2.2.1, h3.trans kbt9⟩
            have hs13 := b13'.size
            have s14 : Sm [b, gM] w11 w14 := sd13.1.trans (.ro q14 fun g hg => by
              refine ⟨Nat.lt_of_lt_of_le (b11s g hg) hs13, ?_⟩
              simp only [List.mem_cons, List.not_mem_nil, or_false] at hg
              rcases hg with rfl | rfl <;> omega)
            have sb14 : Sm [bt] w5 w14 := sd13.2.trans (.ro q14 fun g hg => by rw [List.mem_singleton.1 hg]; exact ⟨Nat.lt_of_lt_of_le bt11 hs13, by omega⟩)
            repeat ((conv => whnf); first | (refine VS.mk ⟨s14, sb14⟩ ?_) | (refine VCmp.tt (by omega) ?_) | (refine VCmp.ff (by omega) ?_) | (refine VIn.mk (IntWalk.i64_in _ (by omega)) ?_) | (refine VIdx.mk _ rfl (by omega) ?_) | (refine VIdx.mk 0 rfl (by omega) ?_))
            try (conv => whnf)
            refine VStore.cell (by kernel_rfl) (by rw [show oM + mulO i 1 = oM + i from rfl, cell_sm a11.hc (by simp) s14]; rfl) ((World.frozen?_of_block (a := ⟨gM, _, none⟩) (s14 gM (by simp))).trans a11.hf) rfl rfl fun w15 hw15 => ?_
            obtain ⟨C15, q15⟩ := C13.push_made hi a13 ⟨dIt d.s d.q d.st b9, B12, c12⟩ o14 (R13.ro q14 (by omega)) q14 kz14 (w2 := w15) (by rw [hw15.out]; rfl)
            clear hw15 s14 sb14 q14 o14 hnc13
            repeat ((conv => whnf); first | (refine VS.last rfl ?_) | (refine VCmp.tt (by omega) ?_) | (refine VCmp.ff (by omega) ?_) | (refine VIn.mk (IntWalk.i64_in _ (by omega)) ?_) | (refine VIdx.mk _ rfl (by omega) ?_) | (refine VIdx.mk 0 rfl (by omega) ?_))
            try (conv => whnf)
            have qa : Ro (fun z => 0 < z ∧ z < 400) K (upN K3 bt 300) w w9 := S9.q
            have qb : Ro (fun z => 0 < z ∧ z < 400) (upN K3 bt 300) K10 w9 w11 := q11.more fun z hz => by omega
            have qc : Ro (fun z => 0 < z ∧ z < 400) K10 K10 w11 w13 := Ro.below b13'
            have qd : Ro (fun z => 0 < z ∧ z < 400) K10 K14 w13 w15 := q15.more fun z hz => by omega
            have ev : v.send i b9 = { v with o := upN v.o i ((v.o i).keep d), sent := upN v.sent i (v.sent i ++ [b9]), made := upN v.made i (v.made i ++ [dIt d.s d.q d.st b9]) } := by
              unfold Crw.send; rw [if_neg hf0, hd]
            rw [ev]
            exact .mk ⟨rfl, K14, _, C15, ((qa.trans qb).trans qc).trans qd⟩
      · skip
        repeat ((conv => whnf); first | (refine VCmp.tt (by omega) ?_) | (refine VCmp.ff (by omega) ?_) | (refine VIn.mk (IntWalk.i64_in _ (by omega)) ?_) | (refine VIdx.mk _ rfl (by omega) ?_) | (refine VIdx.mk 0 rfl (by omega) ?_))
        try (conv => whnf)
        refine .mk _ run_zero71 ?_
        conv => whnf
        refine .mk fun u3 hu3 => ?_
        obtain ⟨bt, hbt⟩ : ∃ bt, bt = w2.heap.size := ⟨_, rfl⟩
        have tu3 : u3.there bt 0 4 := by rw [hu3.out, hbt]; exact there_new _ _ _
        have Su3 := S2.box hLk hbt hu3.out
        have eu3 : Ro (fun _ => False) K (upN K bt 300) w2 u3 := (Ro.below (by rw [hu3.out]; exact (Below.refl _ w2).alloc (Nat.le_refl _) _)).role fun z hz => upN_ne _ _ (by omega)
        have ku3 : upN K bt 300 bt = 300 := upN_same _ _ _
        have bu3 : bt < u3.heap.size := by rw [hu3.out, hbt]; show w2.heap.size < _; rw [World.size_alloc]; omega
        rw [← hbt]
        clear hu3
        have R3 := R2.ro eu3 id
        repeat ((conv => whnf); first | (refine VS.mk Su3.s ?_) | (refine VCmp.tt (by omega) ?_) | (refine VCmp.ff (by omega) ?_) | (refine VIn.mk (IntWalk.i64_in _ (by omega)) ?_) | (refine VIdx.mk _ rfl (by omega) ?_) | (refine VIdx.mk 0 rfl (by omega) ?_))
        try (conv => whnf)
        obtain ⟨Y2, A2⟩ := Su3.get hi hbj
        refine VCall.mk _ (send_any A2 WO b9 htk hnew hql e9 R3.row) ?_
        rintro _ w4 ⟨A', c', rfl, -, K3, Y3, A3, q3, R4⟩
        refine ⟨_, rfl, ?_⟩
        have S4 := Su3.ord hLk hi hbj A3 q3
        have k4 : K3 bt = 300 := (q3.kk bt bu3).trans ku3
        have t4 : w4.there bt 0 4 := there_ro tu3 bu3 q3 (by rw [ku3]; unfold inR; omega)
        have b4 : bt < w4.heap.size := Nat.lt_of_lt_of_le bu3 q3.size
        repeat ((conv => whnf); first | (refine VS.mk S4.s ?_) | (refine VCmp.tt (by omega) ?_) | (refine VCmp.ff (by omega) ?_) | (refine VIn.mk (IntWalk.i64_in _ (by omega)) ?_) | (refine VIdx.mk _ rfl (by omega) ?_) | (refine VIdx.mk 0 rfl (by omega) ?_))
        try (conv => whnf)
        refine VStore.mid (c := dtA ((v.o i).send b9).1 A' c' ((v.o i).send b9).1.b.length) t4 (by kernel_rfl) (one_dtA _ _ _ _) fun w5 hw5 => ?_
        obtain ⟨S5, q5⟩ := S4.store hLk k4 hw5.out
        have r5 : w5.rangeAt bt 0 (dtA ((v.o i).send b9).1 A' c' ((v.o i).send b9).1.b.length).toList := by rw [hw5.out]; exact rng_in t4 (by simp)
        have R5 := R4.ro q5 (by omega)
        have b5 : bt < w5.heap.size := by have := q5.size; omega
        clear hw5 t4 tu3
        repeat ((conv => whnf); first | (refine VS.mk S5.s ?_) | (refine VCmp.tt (by omega) ?_) | (refine VCmp.ff (by omega) ?_) | (refine VIn.mk (IntWalk.i64_in _ (by omega)) ?_) | (refine VIdx.mk _ rfl (by omega) ?_) | (refine VIdx.mk 0 rfl (by omega) ?_))
        try (conv => whnf)
        have M2' := M2.at S5.s
        have N2' := N2.at S5.s
        have n256 : ¬ 256 < b9.length := by omega
        have q05 := S5.q
        cases hst : v.stop i with
        | true =>
          rw [hst, if_pos rfl] at hfree
          have hsend : (v.o i).send b9 = (dt0, 70, v.o i) := by unfold Os.send; rw [if_neg n256, if_pos (by rw [I.frz i hi]; exact hst)]
          rw [hst] at N3
          repeat ((conv => whnf); first | (refine VLoad.mk _ (M3.at S5.s) ?_) | (refine VLoad.mk _ (N3.at S5.s) ?_) | (refine VCmp.tt (by omega) ?_) | (refine VCmp.ff (by omega) ?_) | (refine VIn.mk (IntWalk.i64_in _ (by omega)) ?_) | (refine VIdx.mk _ rfl (by omega) ?_) | (refine VIdx.mk 0 rfl (by omega) ?_))
          try (conv => whnf)
          refine VCall.mk _ (num_any _ w5) ?_
          rintro _ x6 ⟨rfl, e6⟩
          subst x6
          refine ⟨_, rfl, ?_⟩
          have h1 : ((v.o i).send b9).2.1 = 70 := by rw [hsend]
          rw [h1, hfree]
          repeat ((conv => whnf); first | (refine VCmp.tt (by omega) ?_) | (refine VCmp.ff (by omega) ?_) | (refine VIn.mk (IntWalk.i64_in _ (by omega)) ?_) | (refine VIdx.mk _ rfl (by omega) ?_) | (refine VIdx.mk 0 rfl (by omega) ?_))
          try (conv => whnf)
          have C5 := S5.C
          rw [hsend, upN_id] at C5
          refine .mk ⟨rfl, K3, X, ?_, q05⟩
          have e : v.send i b9 = v := by unfold Crw.send; rw [if_pos hfree]
          rw [e]; exact C5
        | false =>
          rw [hst] at N3 hfree
          rw [if_neg (by decide)] at hfree
          by_cases hf0 : (v.o i).free = 0
          · have hsend : (v.o i).send b9 = (dt0, 71, v.o i) := by unfold Os.send; rw [if_neg n256, if_neg (by rw [I.frz i hi, hst]; decide), if_pos hf0]
            repeat ((conv => whnf); first | (refine VLoad.mk _ (M3.at S5.s) ?_) | (refine VLoad.mk _ (N3.at S5.s) ?_) | (refine VCmp.tt (by omega) ?_) | (refine VCmp.ff (by omega) ?_) | (refine VIn.mk (IntWalk.i64_in _ (by omega)) ?_) | (refine VIdx.mk _ rfl (by omega) ?_) | (refine VIdx.mk 0 rfl (by omega) ?_))
            try (conv => whnf)
            refine VCall.mk _ (num_any _ w5) ?_
            rintro _ x6 ⟨rfl, e6⟩
            subst x6
            refine ⟨_, rfl, ?_⟩
            have h1 : ((v.o i).send b9).2.1 = 71 := by rw [hsend]
            rw [h1]
            repeat ((conv => whnf); first | (refine VCmp.tt (by omega) ?_) | (refine VCmp.ff (by omega) ?_) | (refine VIn.mk (IntWalk.i64_in _ (by omega)) ?_) | (refine VIdx.mk _ rfl (by omega) ?_) | (refine VIdx.mk 0 rfl (by omega) ?_))
            try (conv => whnf)
            have C5 := S5.C
            rw [hsend, upN_id] at C5
            refine .mk ⟨rfl, K3, X, ?_, q05⟩
            have e : v.send i b9 = v := by unfold Crw.send; rw [if_pos hf0]
            rw [e]; exact C5
          · have hsend : (v.o i).send b9 = (⟨pidN i, (v.o i).taken (pidN i) + 1, (v.o i).pre, b9⟩, 0, (v.o i).keep ⟨pidN i, (v.o i).taken (pidN i) + 1, (v.o i).pre, b9⟩) := by
              unfold Os.send; rw [if_neg n256, if_neg (by rw [I.frz i hi, hst]; decide), if_neg hf0, hsf]
            obtain ⟨d, hd⟩ : ∃ d : Dt, d = ⟨pidN i, (v.o i).taken (pidN i) + 1, (v.o i).pre, b9⟩ := ⟨_, rfl⟩
            have h1 : ((v.o i).send b9).2.1 = 0 := by rw [hsend]
            have h2 : ((v.o i).send b9).1 = d := by rw [hsend, hd]
            have h3 : ((v.o i).send b9).2.2 = (v.o i).keep d := by rw [hsend, hd]
            rw [h2] at r5 R5
            rw [h3] at S5
            rw [h1, h2]
            clear h1 h2 h3
            have db : d.b = b9 := by rw [hd]
            have ds : d.s = pidN i := by rw [hd]
            have dq : d.q = (v.sent i).length + 1 := by rw [hd, ← hown]
            have dst : d.st = (v.o i).pre := by rw [hd]
            have sd5 : Sm L w w5 ∧ Sm [bt] w5 w5 := ⟨S5.s, Sm.refl _ _⟩
            have U0 : Ld Try.prog 3 bt 0 (Sm [bt] w5) (.int .i64 d.s) := ⟨fun W hW => load3 (cell_sm (r5 0 _ rfl) (by simp) hW)⟩
            have T0 : Ld Try.prog 3 bt 0 (fun W => Sm L w W ∧ Sm [bt] w5 W) (.int .i64 d.s) := U0.mono fun _ h => h.2
            have U1 : Ld Try.prog 3 bt 1 (Sm [bt] w5) (.int .i64 d.q) := ⟨fun W hW => load3 (cell_sm (r5 1 _ rfl) (by simp) hW)⟩
            have T1 : Ld Try.prog 3 bt 1 (fun W => Sm L w W ∧ Sm [bt] w5 W) (.int .i64 d.q) := U1.mono fun _ h => h.2
            have U2 : Ld Try.prog 3 bt 2 (Sm [bt] w5) (.int .i64 d.st) := ⟨fun W hW => load3 (cell_sm (r5 2 _ rfl) (by simp) hW)⟩
            have T3 : Ld Try.prog 27 bt 3 (fun W => Sm L w W ∧ Sm [bt] w5 W) (.slice A' d.b.length c') := ⟨fun W hW => load27 (cell_sm (r5 3 _ rfl) (by simp) hW.2)⟩
            have epid : (3 * (i : Int) + 1) = ((pidN i : Nat) : Int) := by unfold pidN; omega
            repeat ((conv => whnf); first | (refine VLoad.mk _ (M3.at S5.s) ?_) | (refine VLoad.mk _ (N3.at S5.s) ?_) | (refine VCmp.tt (by omega) ?_) | (refine VCmp.ff (by omega) ?_) | (refine VIn.mk (IntWalk.i64_in _ (by omega)) ?_) | (refine VIdx.mk _ rfl (by omega) ?_) | (refine VIdx.mk 0 rfl (by omega) ?_))
            try (conv => whnf)
            refine VDraw.pl 1000 (.one [0] 1 (.one [2, 3, 4, 5, 6] 7 (.one [8, 9, 10, 11, 12, 13, 14, 15, 16, 17, 18, 19, 20, 21, 22, 23, 24, 25, 26, 27] 28 (.one [29, 30, 31, 32, 33, 34, 35, 36, 37, 38, 40, 41] 39 (.stop [42, 43]))))) (fun W => Sm L w W ∧ Sm [bt] w5 W) (by kernel_rfl) (sd5) ?_
            repeat ((conv => whnf); first | (refine VCmp.tt (by omega) ?_) | (refine VCmp.ff (by omega) ?_) | (refine VIn.mk (IntWalk.i64_in _ (by omega)) ?_) | (refine VIdx.mk _ rfl (by omega) ?_) | (refine VIdx.mk 0 rfl (by omega) ?_))
            try (conv => whnf)
            refine VCall.mk _ (num_any _ w5.drew) ?_
            rintro _ x6 ⟨rfl, e6⟩
            subst x6
            refine ⟨_, rfl, ?_⟩
            repeat ((conv => whnf); first | (refine VS.mk sd5 ?_) | (refine VLoad.mk _ T0 ?_) | (refine VCmp.tt (by omega) ?_) | (refine VCmp.ff (by omega) ?_) | (refine VIn.mk (IntWalk.i64_in _ (by omega)) ?_) | (refine VIdx.mk _ rfl (by omega) ?_) | (refine VIdx.mk 0 rfl (by omega) ?_))
            try (conv => whnf)
            refine VCall.mk _ (pid_any i w5.drew (by omega) (by omega)) ?_
            rintro _ x6 ⟨rfl, e6⟩
            subst x6
            refine ⟨_, rfl, ?_⟩
            rw [epid]
            repeat ((conv => whnf); first | (refine VS.mk sd5 ?_) | (refine VLoad.mk _ T1 ?_) | (refine VLoad.mk _ (M0.mono fun _ h => h.1) ?_) | (refine VLoad.mk _ (N0.mono fun _ h => h.1) ?_) | (refine VLoad.mk _ T3 ?_) | (refine VCmp.tt (by omega) ?_) | (refine VCmp.ff (by omega) ?_) | (refine VIn.mk (IntWalk.i64_in _ (by omega)) ?_) | (refine VIdx.mk _ rfl (by omega) ?_) | (refine VIdx.mk 0 rfl (by omega) ?_))
            try (conv => whnf)
            have Sd5 := S5.below hLk (Below.refl _ w5).drew
            have Rd5 := R5.ro (Ro.below (R := fun _ => False) (Below.refl _ w5).drew) id
            refine VCall.mk _ (sameBytes_any A' B c' cB d.b.length 9 w5.drew.heap.size d.b b9 w5.drew rfl e9 (Nat.le_refl _) Rd5.row Sd5.rb.row (by rw [db]; omega)) ?_
            rintro _ w6 ⟨rfl, b6⟩
            refine ⟨_, rfl, ?_⟩
            have S6 := Sd5.below hLk b6
            have b56 : Below w5.heap.size w5 w6 := (Below.refl _ w5).drew.trans b6
            have sd6 : Sm L w w6 ∧ Sm [bt] w5 w6 := ⟨S6.s, .below b56 fun g hg => by rw [List.mem_singleton.1 hg]; exact b5⟩
            rw [decide_eq_true (show d.b = b9 from db)]
            have hfb : (v.o i).free ≤ 2000000000 ∧ -1000000000 ≤ (v.o i).free := by have := I.w4; have := WO.gn (pidN i); omega
            repeat ((conv => whnf); first | (refine VS.mk sd6 ?_) | (refine VLoad.mk _ (M2.mono fun _ h => h.1) ?_) | (refine VLoad.mk _ (N2.mono fun _ h => h.1) ?_) | (refine VCmp.tt (by omega) ?_) | (refine VCmp.ff (by omega) ?_) | (refine VIn.mk (IntWalk.i64_in _ (by omega)) ?_) | (refine VIdx.mk _ rfl (by omega) ?_) | (refine VIdx.mk 0 rfl (by omega) ?_))
            try (conv => whnf)
            obtain ⟨Y6, A6⟩ := S6.get hi hbj
            have kf : ((v.o i).keep d).free = (v.o i).free - 1 := by
              have e1 : ((v.o i).keep d).free = if (v.o i).frz = true then 0 else ((v.o i).win : Int) - (((upN (v.o i).taken d.s d.q (v.o i).self : Nat) : Int) - ((v.o i).gone (v.o i).self : Int)) := rfl
              have e2 : (v.o i).frz = false := by rw [I.frz i hi, hst]
              rw [e1, e2, hfree, if_neg (by decide), hsf, ds, upN_same, dq, (I.mi i hi).win, hown]
              omega
            have kt : ((v.o i).keep d).taken ((v.o i).keep d).self = d.q := by
              show upN (v.o i).taken d.s d.q (v.o i).self = _
              rw [hsf, ds, upN_same]
            refine VCall.mk _ (free_any A6 WO.self (by rw [kt, dq]; omega) (by have := WO.gn (v.o i).self; show (v.o i).gone (v.o i).self ≤ _; omega) WO.win) ?_
            rintro _ w7 ⟨rfl, b7⟩
            refine ⟨_, rfl, ?_⟩
            rw [kf]
            have S7 := S6.below hLk b7
            have sd7 : Sm L w w7 ∧ Sm [bt] w5 w7 := ⟨S7.s, sd6.2.trans (.below b7 fun g hg => by rw [List.mem_singleton.1 hg]; exact Nat.lt_of_lt_of_le b5 b56.size)⟩
            repeat ((conv => whnf); first | (refine VS.mk sd7 ?_) | (refine VCmp.tt (by omega) ?_) | (refine VCmp.ff (by omega) ?_) | (refine VIn.mk (IntWalk.i64_in _ (by omega)) ?_) | (refine VIdx.mk _ rfl (by omega) ?_) | (refine VIdx.mk 0 rfl (by omega) ?_))
            try (conv => whnf)
            refine VDraw.pl 17 (.one [0, 1, 2, 3, 4, 5, 6, 7, 8, 9, 10, 11, 12] 13 (.one [] 14 (.one [] 15 (.one [16] 17 (.stop []))))) (Sm L w) (by kernel_rfl) (S7.s) ?_
            repeat ((conv => whnf); first | (refine VLoad.mk _ M0 ?_) | (refine VLoad.mk _ N0 ?_) | (refine VCmp.tt (by omega) ?_) | (refine VCmp.ff (by omega) ?_) | (refine VIn.mk (IntWalk.i64_in _ (by omega)) ?_) | (refine VIdx.mk _ rfl (by omega) ?_) | (refine VIdx.mk 0 rfl (by omega) ?_))
            try (conv => whnf)
            have Sd7 := S7.below hLk (Below.refl _ w7).drew
            refine VCall.mk _ (copied_any B cB _ b9 w7.drew e9 Sd7.rb.row (by omega)) ?_
            rintro _ w8 ⟨B8, c8, rfl, n8, b8⟩
            refine ⟨_, rfl, ?_⟩
            have S8 := Sd7.below hLk b8
            have R8 : RowK w8 K3 1 eByte B8 b9 := n8.rowK Sd7.C.kz
            repeat ((conv => whnf); first | (refine VS.mk S8.s ?_) | (refine VCmp.tt (by omega) ?_) | (refine VCmp.ff (by omega) ?_) | (refine VIn.mk (IntWalk.i64_in _ (by omega)) ?_) | (refine VIdx.mk _ rfl (by omega) ?_) | (refine VIdx.mk 0 rfl (by omega) ?_))
            try (conv => whnf)
            refine VBs.mk _ _ (bs41 w8 B8 9 c8) ?_
            have ba9 : Below w8.heap.size w8 (w8.alloc (.cells #[.slice B8 9 c8] 27)) := (Below.refl _ _).alloc (Nat.le_refl _) _
            have hnc9 : ∀ j u, (eBx ⟨B8, c8, b9⟩)[j]? = some u → (w8.alloc (.cells #[.slice B8 9 c8] 27)).cell? ⟨w8.heap.size, j, none⟩ = some u := fun j u hu => by
              have := range_new w8 #[.slice B8 9 c8] 27 j u (by rw [← hu]; unfold eBx; rw [e9])
              rwa [Nat.zero_add] at this
            have z9 : (w8.alloc (.cells #[.slice B8 9 c8] 27)).heap.size = w8.heap.size + 1 := World.size_alloc _ _
            generalize w8.alloc (.cells #[.slice B8 9 c8] 27) = w9 at ba9 hnc9 z9 ⊢
            have S9 := S8.below hLk ba9
            have R9 : RowK w9 K3 1 eByte B8 b9 := R8.ro (Ro.below (R := fun _ => False) ba9) id
            repeat ((conv => whnf); first | (refine VS.mk S9.s ?_) | (refine VCmp.tt (by omega) ?_) | (refine VCmp.ff (by omega) ?_) | (refine VIn.mk (IntWalk.i64_in _ (by omega)) ?_) | (refine VIdx.mk _ rfl (by omega) ?_) | (refine VIdx.mk 0 rfl (by omega) ?_))
            try (conv => whnf)
            have a9 := S9.C.sent.at hi aS.eA aS.hx
            refine VApp.off 1 24 _ Try.underlying41 info27 rfl (by decide) eBx (fun _ => rfl) one_eBx xS.l ⟨B8, c8, b9⟩ aS.ln a9.ow hnc9 S9.C.kz (by omega) (by omega) fun A10 c10 K10 w10 o10 q10 kz10 => ?_
            have kL : ∀ g ∈ L, K g < 10 := fun g hg => by
              rw [hL] at hg
              simp only [List.mem_cons, List.not_mem_nil, or_false] at hg
              have q3 := aS.hk
              have q4 := aM.hk
              rcases hg with rfl | rfl | rfl | rfl | rfl <;> omega
            have hLs : ∀ g ∈ L, g < w9.heap.size ∧ K3 g < 10 := fun g hg => by
              have h1 := hlt g hg
              refine ⟨Nat.lt_of_lt_of_le h1 S9.q.size, ?_⟩
              rw [S9.q.kk g h1]; exact kL g hg
            have s10 : Sm L w w10 := S9.s.trans (.ro q10 fun g hg => ⟨(hLs g hg).1, by have := (hLs g hg).2; omega⟩)
            repeat ((conv => whnf); first | (refine VS.mk s10 ?_) | (refine VCmp.tt (by omega) ?_) | (refine VCmp.ff (by omega) ?_) | (refine VIn.mk (IntWalk.i64_in _ (by omega)) ?_) | (refine VIdx.mk _ rfl (by omega) ?_) | (refine VIdx.mk 0 rfl (by omega) ?_))
            try (conv => whnf)
            refine VStore.cell (by kernel_rfl) (by rw [show oS + mulO i 1 = oS + i from rfl, cell_sm aS.hc (by simp [hL]) s10]; rfl) ((World.frozen?_of_block (a := ⟨gS, _, none⟩) (s10 gS (by simp [hL]))).trans aS.hf) rfl rfl fun w11 hw11 => ?_
            obtain ⟨C11, q11⟩ := S9.C.push_sent hi a9 ⟨B8, c8, b9⟩ o10 (R9.ro q10 (by omega)) q10 kz10 (w2 := w11) (by rw [hw11.out]; rfl)
            clear hw11 s10 q10 o10 hnc9
            have S6s := sd7.2
            have kbt9 : K3 bt = 300 := k4
            have hbt9 : bt < w9.heap.size := Nat.lt_of_lt_of_le b5 (Nat.le_trans b56.size (Nat.le_trans b7.size (Nat.le_trans b8.size ba9.size)))
            have sb11 : Sm [bt] w5 w11 := (S6s.trans (.below ((Below.refl _ w7).drew.trans (Below.trans b8 (ba9.mono b8.size))) fun g hg => by rw [List.mem_singleton.1 hg]; exact Nat.lt_of_lt_of_le b5 (Nat.le_trans b56.size b7.size))).trans (.ro q11 fun g hg => by rw [List.mem_singleton.1 hg]; exact ⟨hbt9, by rw [kbt9]; omega⟩)
            have hbM : b < w9.heap.size ∧ gM < w9.heap.size ∧ K3 b = 1 ∧ K3 gM = 4 := by
              have h1 := (hLk b (by simp [hL])).1
              have h2 := (hLk gM (by simp [hL])).1
              exact ⟨Nat.lt_of_lt_of_le h1 S9.q.size, Nat.lt_of_lt_of_le h2 S9.q.size, (S9.q.kk b h1).trans hkb, (S9.q.kk gM h2).trans aM.hk⟩
            have R11 : RowK w11 K10 1 eByte B b9 := S9.rb.ro q11 (by omega)
            have P1 := C11.l_made (l := [b, gM]) (by simp)
            have e11 : ({ X with sent := ⟨X.sent.A, X.sent.c, X.sent.l.set i ⟨A10, c10, xS.l ++ [⟨B8, c8, b9⟩]⟩⟩ } : CwX).made = X.made := rfl
            rw [e11, aM.eA] at P1
            have a11 := C11.made.at hi aM.eA aM.hx
            have P2 : Ld Try.prog 74 gM (oM + i) (Sm [b, gM] w11) (.slice xM.A (v.made i).length xM.c) := ⟨fun W hW => load74s (cell_sm a11.hc (by simp) hW)⟩
            have sd11 : Sm [b, gM] w11 w11 ∧ Sm [bt] w5 w11 := ⟨Sm.refl _ _, sb11⟩
            repeat ((conv => whnf); first | (refine VS.last rfl ?_) | (refine VCmp.tt (by omega) ?_) | (refine VCmp.ff (by omega) ?_) | (refine VIn.mk (IntWalk.i64_in _ (by omega)) ?_) | (refine VIdx.mk _ rfl (by omega) ?_) | (refine VIdx.mk 0 rfl (by omega) ?_))
            try (conv => whnf)
            refine VDraw.pl 25 (.one [0, 1, 2, 3, 4, 5, 6, 7, 8, 9, 10, 11, 12, 13, 14, 15, 16, 17, 18] 19 (.one [20, 21] 22 (.one [] 23 (.one [24] 25 (.stop []))))) (fun W => Sm [b, gM] w11 W ∧ Sm [bt] w5 W) (by kernel_rfl) (sd11) ?_
            repeat ((conv => whnf); first | (refine VLoad.mk _ (P1.mono fun _ h => h.1) ?_) | (refine VLoad.mk _ (P2.mono fun _ h => h.1) ?_) | (refine VLoad.mk _ (U0.mono fun _ h => h.2) ?_) | (refine VLoad.mk _ (U1.mono fun _ h => h.2) ?_) | (refine VLoad.mk _ (U2.mono fun _ h => h.2) ?_) | (refine VCmp.tt (by omega) ?_) | (refine VCmp.ff (by omega) ?_) | (refine VIn.mk (IntWalk.i64_in _ (by omega)) ?_) | (refine VIdx.mk _ rfl (by omega) ?_) | (refine VIdx.mk 0 rfl (by omega) ?_))
            try (conv => whnf)
            have hd11 : Below w11.heap.size w11 w11.drew := (Below.refl _ w11).drew
            have R11d := R11.ro (Ro.below (R := fun _ => False) hd11) id
            refine VCall.mk _ (copied_any B cB _ b9 w11.drew e9 R11d.row (by omega)) ?_
            rintro _ w12 ⟨B12, c12, rfl, n12, b12⟩
            refine ⟨_, rfl, ?_⟩
            have b12' : Below w11.heap.size w11 w12 := hd11.trans b12
            have C12 := C11.below b12'
            have R12 : RowK w12 K10 1 eByte B12 b9 := n12.rowK fun y hy => C11.kz y hy
            have b11s : ∀ g ∈ [b, gM], g < w11.heap.size := fun g hg => by
              simp only [List.mem_cons, List.not_mem_nil, or_false] at hg
              have := q11.size
              rcases hg with rfl | rfl <;> omega
            have bt11 : bt < w11.heap.size := Nat.lt_of_lt_of_le hbt9 q11.size
            have sd12 : Sm [b, gM] w11 w12 ∧ Sm [bt] w5 w12 := ⟨.below b12' b11s, sb11.trans (.below b12' fun g hg => by rw [List.mem_singleton.1 hg]; exact bt11)⟩
            repeat ((conv => whnf); first | (refine VS.mk sd12 ?_) | (refine VCmp.tt (by omega) ?_) | (refine VCmp.ff (by omega) ?_) | (refine VIn.mk (IntWalk.i64_in _ (by omega)) ?_) | (refine VIdx.mk _ rfl (by omega) ?_) | (refine VIdx.mk 0 rfl (by omega) ?_))
            try (conv => whnf)
            refine VBuild.mk _ (fun W' => build71 W' d.s d.q d.st B12 9 c12) ?_
            repeat ((conv => whnf); first | (refine VS.mk sd12 ?_) | (refine VCmp.tt (by omega) ?_) | (refine VCmp.ff (by omega) ?_) | (refine VIn.mk (IntWalk.i64_in _ (by omega)) ?_) | (refine VIdx.mk _ rfl (by omega) ?_) | (refine VIdx.mk 0 rfl (by omega) ?_))
            try (conv => whnf)
            refine VBuild.mk _ (fun W' => build80d W' d.s d.q d.st B12 9 c12) ?_
            repeat ((conv => whnf); first | (refine VS.mk sd12 ?_) | (refine VCmp.tt (by omega) ?_) | (refine VCmp.ff (by omega) ?_) | (refine VIn.mk (IntWalk.i64_in _ (by omega)) ?_) | (refine VIdx.mk _ rfl (by omega) ?_) | (refine VIdx.mk 0 rfl (by omega) ?_))
            try (conv => whnf)
            refine VBs.mk _ _ (bs74x w12 (dIt d.s d.q d.st b9) B12 c12 9) ?_
            have ba13 : Below w12.heap.size w12 (w12.alloc (.cells (itA (dIt d.s d.q d.st b9) B12 c12 9) 80)) := (Below.refl _ _).alloc (Nat.le_refl _) _
            have hnc13 : ∀ j u, (eIx ⟨dIt d.s d.q d.st b9, B12, c12⟩)[j]? = some u → (w12.alloc (.cells (itA (dIt d.s d.q d.st b9) B12 c12 9) 80)).cell? ⟨w12.heap.size, j, none⟩ = some u := fun j u hu => by
              have := range_new w12 (itA (dIt d.s d.q d.st b9) B12 c12 9) 80 j u (by rw [← hu]; unfold eIx; show _ = (itA _ _ _ b9.length).toList[j]?; rw [e9])
              rwa [Nat.zero_add] at this
            have z13 : (w12.alloc (.cells (itA (dIt d.s d.q d.st b9) B12 c12 9) 80)).heap.size = w12.heap.size + 1 := World.size_alloc _ _
            generalize w12.alloc (.cells (itA (dIt d.s d.q d.st b9) B12 c12 9) 80) = w13 at ba13 hnc13 z13 ⊢
            have C13 := C12.below ba13
            have R13 : RowK w13 K10 1 eByte B12 b9 := R12.ro (Ro.below (R := fun _ => False) ba13) id
            have b13' : Below w11.heap.size w11 w13 := b12'.trans (ba13.mono b12'.size)
            have sd13 : Sm [b, gM] w11 w13 ∧ Sm [bt] w5 w13 := ⟨.below b13' b11s, sb11.trans (.below b13' fun g hg => by rw [List.mem_singleton.1 hg]; exact bt11)⟩
            repeat ((conv => whnf); first | (refine VS.mk sd13 ?_) | (refine VCmp.tt (by omega) ?_) | (refine VCmp.ff (by omega) ?_) | (refine VIn.mk (IntWalk.i64_in _ (by omega)) ?_) | (refine VIdx.mk _ rfl (by omega) ?_) | (refine VIdx.mk 0 rfl (by omega) ?_))
            try (conv => whnf)
            have a13 := C13.made.at hi aM.eA aM.hx
            have hml : (v.made i).length ≤ 500000 := Nat.le_trans (I.madeLen hi) (by omega)
            refine VApp.off 9 88 _ Try.underlying74 info80 rfl (by decide) eIx (fun _ => rfl) one_eIx xM.l ⟨dIt d.s d.q d.st b9, B12, c12⟩ aM.ln a13.ow hnc13 C13.kz (by omega) (by omega) fun A14 c14 K14 w14 o14 q14 kz14 => ?_
            have kM11 : K10 gM = 4 ∧ K10 b = 1 ∧ K10 bt = 300 := by
              have h1 := q11.kk gM hbM.2.1
              have h2 := q11.kk b hbM.1
              have h3 := q11.kk bt hbt9
              exact ⟨h1.trans hbM.2.2.2, h2.trans hbM.2.2.1, h3.trans kbt9⟩
            have hs13 := b13'.size
            have s14 : Sm [b, gM] w11 w14 := sd13.1.trans (.ro q14 fun g hg => by
              refine ⟨Nat.lt_of_lt_of_le (b11s g hg) hs13, ?_⟩
              simp only [List.mem_cons, List.not_mem_nil, or_false] at hg
              rcases hg with rfl | rfl <;> omega)
            have sb14 : Sm [bt] w5 w14 := sd13.2.trans (.ro q14 fun g hg => by rw [List.mem_singleton.1 hg]; exact ⟨Nat.lt_of_lt_of_le bt11 hs13, by omega⟩)
            repeat ((conv => whnf); first | (refine VS.mk ⟨s14, sb14⟩ ?_) | (refine VCmp.tt (by omega) ?_) | (refine VCmp.ff (by omega) ?_) | (refine VIn.mk (IntWalk.i64_in _ (by omega)) ?_) | (refine VIdx.mk _ rfl (by omega) ?_) | (refine VIdx.mk 0 rfl (by omega) ?_))
            try (conv => whnf)
            refine VStore.cell (by kernel_rfl) (by rw [show oM + mulO i 1 = oM + i from rfl, cell_sm a11.hc (by simp) s14]; rfl) ((World.frozen?_of_block (a := ⟨gM, _, none⟩) (s14 gM (by simp))).trans a11.hf) rfl rfl fun w15 hw15 => ?_
            obtain ⟨C15, q15⟩ := C13.push_made hi a13 ⟨dIt d.s d.q d.st b9, B12, c12⟩ o14 (R13.ro q14 (by omega)) q14 kz14 (w2 := w15) (by rw [hw15.out]; rfl)
            clear hw15 s14 sb14 q14 o14 hnc13
            repeat ((conv => whnf); first | (refine VS.last rfl ?_) | (refine VCmp.tt (by omega) ?_) | (refine VCmp.ff (by omega) ?_) | (refine VIn.mk (IntWalk.i64_in _ (by omega)) ?_) | (refine VIdx.mk _ rfl (by omega) ?_) | (refine VIdx.mk 0 rfl (by omega) ?_))
            try (conv => whnf)
            have qa : Ro (fun z => 0 < z ∧ z < 400) K K3 w w9 := S9.q
            have qb : Ro (fun z => 0 < z ∧ z < 400) K3 K10 w9 w11 := q11.more fun z hz => by omega
            have qc : Ro (fun z => 0 < z ∧ z < 400) K10 K10 w11 w13 := Ro.below b13'
            have qd : Ro (fun z => 0 < z ∧ z < 400) K10 K14 w13 w15 := q15.more fun z hz => by omega
            have ev : v.send i b9 = { v with o := upN v.o i ((v.o i).keep d), sent := upN v.sent i (v.sent i ++ [b9]), made := upN v.made i (v.made i ++ [dIt d.s d.q d.st b9]) } := by
              unfold Crw.send; rw [if_neg hf0, hd]
            rw [ev]
            exact .mk ⟨rfl, K14, _, C15, ((qa.trans qb).trans qc).trans qd⟩
    · skip
      repeat ((conv => whnf); first | (refine VCmp.tt (by omega) ?_) | (refine VCmp.ff (by omega) ?_) | (refine VIn.mk (IntWalk.i64_in _ (by omega)) ?_) | (refine VIdx.mk _ rfl (by omega) ?_) | (refine VIdx.mk 0 rfl (by omega) ?_))
      try (conv => whnf)
      refine .mk _ run_zero71 ?_
      conv => whnf
      refine .mk fun u2 hu2 => ?_
      obtain ⟨bt, hbt⟩ : ∃ bt, bt = w1.drew.heap.size := ⟨_, rfl⟩
      have tu2 : u2.there bt 0 4 := by rw [hu2.out, hbt]; exact there_new _ _ _
      have Su2 := Sd1.box hLk hbt hu2.out
      have eu2 : Ro (fun _ => False) K (upN K bt 300) w1.drew u2 := (Ro.below (by rw [hu2.out]; exact (Below.refl _ w1.drew).alloc (Nat.le_refl _) _)).role fun z hz => upN_ne _ _ (by omega)
      have ku2 : upN K bt 300 bt = 300 := upN_same _ _ _
      have bu2 : bt < u2.heap.size := by rw [hu2.out, hbt]; show w1.drew.heap.size < _; rw [World.size_alloc]; omega
      rw [← hbt]
      clear hu2
      repeat ((conv => whnf); first | (refine VS.mk Su2.s ?_) | (refine VCmp.tt (by omega) ?_) | (refine VCmp.ff (by omega) ?_) | (refine VIn.mk (IntWalk.i64_in _ (by omega)) ?_) | (refine VIdx.mk _ rfl (by omega) ?_) | (refine VIdx.mk 0 rfl (by omega) ?_))
      try (conv => whnf)
      refine VCall.mk _ (copied_any B cB _ b9 u2 e9 Su2.rb.row (by omega)) ?_
      rintro _ w3 ⟨B2, c2, rfl, n2, b2⟩
      refine ⟨_, rfl, ?_⟩
      have S3 := Su2.below hLk b2
      have R3 : RowK w3 (upN K bt 300) 1 eByte B2 b9 := n2.rowK Su2.C.kz
      have t3 := there_same tu2 (b2.block bt bu2)
      have b3 : bt < w3.heap.size := Nat.lt_of_lt_of_le bu2 b2.size
      repeat ((conv => whnf); first | (refine VS.mk S3.s ?_) | (refine VCmp.tt (by omega) ?_) | (refine VCmp.ff (by omega) ?_) | (refine VIn.mk (IntWalk.i64_in _ (by omega)) ?_) | (refine VIdx.mk _ rfl (by omega) ?_) | (refine VIdx.mk 0 rfl (by omega) ?_))
      try (conv => whnf)
      obtain ⟨Y2, A2⟩ := S3.get hi hbj
      refine VCall.mk _ (send_any A2 WO b9 htk hnew hql e9 R3.row) ?_
      rintro _ w4 ⟨A', c', rfl, -, K3, Y3, A3, q3, R4⟩
      refine ⟨_, rfl, ?_⟩
      have S4 := S3.ord hLk hi hbj A3 q3
      have k4 : K3 bt = 300 := (q3.kk bt b3).trans ku2
      have t4 : w4.there bt 0 4 := there_ro t3 b3 q3 (by rw [ku2]; unfold inR; omega)
      have b4 : bt < w4.heap.size := Nat.lt_of_lt_of_le b3 q3.size
      repeat ((conv => whnf); first | (refine VS.mk S4.s ?_) | (refine VCmp.tt (by omega) ?_) | (refine VCmp.ff (by omega) ?_) | (refine VIn.mk (IntWalk.i64_in _ (by omega)) ?_) | (refine VIdx.mk _ rfl (by omega) ?_) | (refine VIdx.mk 0 rfl (by omega) ?_))
      try (conv => whnf)
      refine VStore.mid (c := dtA ((v.o i).send b9).1 A' c' ((v.o i).send b9).1.b.length) t4 (by kernel_rfl) (one_dtA _ _ _ _) fun w5 hw5 => ?_
      obtain ⟨S5, q5⟩ := S4.store hLk k4 hw5.out
      have r5 : w5.rangeAt bt 0 (dtA ((v.o i).send b9).1 A' c' ((v.o i).send b9).1.b.length).toList := by rw [hw5.out]; exact rng_in t4 (by simp)
      have R5 := R4.ro q5 (by omega)
      have b5 : bt < w5.heap.size := by have := q5.size; omega
      clear hw5 t4 tu2
      repeat ((conv => whnf); first | (refine VS.mk S5.s ?_) | (refine VCmp.tt (by omega) ?_) | (refine VCmp.ff (by omega) ?_) | (refine VIn.mk (IntWalk.i64_in _ (by omega)) ?_) | (refine VIdx.mk _ rfl (by omega) ?_) | (refine VIdx.mk 0 rfl (by omega) ?_))
      try (conv => whnf)
      have M2' := M2.at S5.s
      have N2' := N2.at S5.s
      have n256 : ¬ 256 < b9.length := by omega
      have q05 := S5.q
      cases hst : v.stop i with
      | true =>
        rw [hst, if_pos rfl] at hfree
        have hsend : (v.o i).send b9 = (dt0, 70, v.o i) := by unfold Os.send; rw [if_neg n256, if_pos (by rw [I.frz i hi]; exact hst)]
        rw [hst] at N3
        repeat ((conv => whnf); first | (refine VLoad.mk _ (M3.at S5.s) ?_) | (refine VLoad.mk _ (N3.at S5.s) ?_) | (refine VCmp.tt (by omega) ?_) | (refine VCmp.ff (by omega) ?_) | (refine VIn.mk (IntWalk.i64_in _ (by omega)) ?_) | (refine VIdx.mk _ rfl (by omega) ?_) | (refine VIdx.mk 0 rfl (by omega) ?_))
        try (conv => whnf)
        refine VCall.mk _ (num_any _ w5) ?_
        rintro _ x6 ⟨rfl, e6⟩
        subst x6
        refine ⟨_, rfl, ?_⟩
        have h1 : ((v.o i).send b9).2.1 = 70 := by rw [hsend]
        rw [h1, hfree]
        repeat ((conv => whnf); first | (refine VCmp.tt (by omega) ?_) | (refine VCmp.ff (by omega) ?_) | (refine VIn.mk (IntWalk.i64_in _ (by omega)) ?_) | (refine VIdx.mk _ rfl (by omega) ?_) | (refine VIdx.mk 0 rfl (by omega) ?_))
        try (conv => whnf)
        have C5 := S5.C
        rw [hsend, upN_id] at C5
        refine .mk ⟨rfl, K3, X, ?_, q05⟩
        have e : v.send i b9 = v := by unfold Crw.send; rw [if_pos hfree]
        rw [e]; exact C5
      | false =>
        rw [hst] at N3 hfree
        rw [if_neg (by decide)] at hfree
        by_cases hf0 : (v.o i).free = 0
        · have hsend : (v.o i).send b9 = (dt0, 71, v.o i) := by unfold Os.send; rw [if_neg n256, if_neg (by rw [I.frz i hi, hst]; decide), if_pos hf0]
          repeat ((conv => whnf); first | (refine VLoad.mk _ (M3.at S5.s) ?_) | (refine VLoad.mk _ (N3.at S5.s) ?_) | (refine VCmp.tt (by omega) ?_) | (refine VCmp.ff (by omega) ?_) | (refine VIn.mk (IntWalk.i64_in _ (by omega)) ?_) | (refine VIdx.mk _ rfl (by omega) ?_) | (refine VIdx.mk 0 rfl (by omega) ?_))
          try (conv => whnf)
          refine VCall.mk _ (num_any _ w5) ?_
          rintro _ x6 ⟨rfl, e6⟩
          subst x6
          refine ⟨_, rfl, ?_⟩
          have h1 : ((v.o i).send b9).2.1 = 71 := by rw [hsend]
          rw [h1]
          repeat ((conv => whnf); first | (refine VCmp.tt (by omega) ?_) | (refine VCmp.ff (by omega) ?_) | (refine VIn.mk (IntWalk.i64_in _ (by omega)) ?_) | (refine VIdx.mk _ rfl (by omega) ?_) | (refine VIdx.mk 0 rfl (by omega) ?_))
          try (conv => whnf)
          have C5 := S5.C
          rw [hsend, upN_id] at C5
          refine .mk ⟨rfl, K3, X, ?_, q05⟩
          have e : v.send i b9 = v := by unfold Crw.send; rw [if_pos hf0]
          rw [e]; exact C5
        · have hsend : (v.o i).send b9 = (⟨pidN i, (v.o i).taken (pidN i) + 1, (v.o i).pre, b9⟩, 0, (v.o i).keep ⟨pidN i, (v.o i).taken (pidN i) + 1, (v.o i).pre, b9⟩) := by
            unfold Os.send; rw [if_neg n256, if_neg (by rw [I.frz i hi, hst]; decide), if_neg hf0, hsf]
          obtain ⟨d, hd⟩ : ∃ d : Dt, d = ⟨pidN i, (v.o i).taken (pidN i) + 1, (v.o i).pre, b9⟩ := ⟨_, rfl⟩
          have h1 : ((v.o i).send b9).2.1 = 0 := by rw [hsend]
          have h2 : ((v.o i).send b9).1 = d := by rw [hsend, hd]
          have h3 : ((v.o i).send b9).2.2 = (v.o i).keep d := by rw [hsend, hd]
          rw [h2] at r5 R5
          rw [h3] at S5
          rw [h1, h2]
          clear h1 h2 h3
          have db : d.b = b9 := by rw [hd]
          have ds : d.s = pidN i := by rw [hd]
          have dq : d.q = (v.sent i).length + 1 := by rw [hd, ← hown]
          have dst : d.st = (v.o i).pre := by rw [hd]
          have sd5 : Sm L w w5 ∧ Sm [bt] w5 w5 := ⟨S5.s, Sm.refl _ _⟩
          have U0 : Ld Try.prog 3 bt 0 (Sm [bt] w5) (.int .i64 d.s) := ⟨fun W hW => load3 (cell_sm (r5 0 _ rfl) (by simp) hW)⟩
          have T0 : Ld Try.prog 3 bt 0 (fun W => Sm L w W ∧ Sm [bt] w5 W) (.int .i64 d.s) := U0.mono fun _ h => h.2
          have U1 : Ld Try.prog 3 bt 1 (Sm [bt] w5) (.int .i64 d.q) := ⟨fun W hW => load3 (cell_sm (r5 1 _ rfl) (by simp) hW)⟩
          have T1 : Ld Try.prog 3 bt 1 (fun W => Sm L w W ∧ Sm [bt] w5 W) (.int .i64 d.q) := U1.mono fun _ h => h.2
          have U2 : Ld Try.prog 3 bt 2 (Sm [bt] w5) (.int .i64 d.st) := ⟨fun W hW => load3 (cell_sm (r5 2 _ rfl) (by simp) hW)⟩
          have T3 : Ld Try.prog 27 bt 3 (fun W => Sm L w W ∧ Sm [bt] w5 W) (.slice A' d.b.length c') := ⟨fun W hW => load27 (cell_sm (r5 3 _ rfl) (by simp) hW.2)⟩
          have epid : (3 * (i : Int) + 1) = ((pidN i : Nat) : Int) := by unfold pidN; omega
          repeat ((conv => whnf); first | (refine VLoad.mk _ (M3.at S5.s) ?_) | (refine VLoad.mk _ (N3.at S5.s) ?_) | (refine VCmp.tt (by omega) ?_) | (refine VCmp.ff (by omega) ?_) | (refine VIn.mk (IntWalk.i64_in _ (by omega)) ?_) | (refine VIdx.mk _ rfl (by omega) ?_) | (refine VIdx.mk 0 rfl (by omega) ?_))
          try (conv => whnf)
          refine VDraw.pl 1000 (.one [0] 1 (.one [2, 3, 4, 5, 6] 7 (.one [8, 9, 10, 11, 12, 13, 14, 15, 16, 17, 18, 19, 20, 21, 22, 23, 24, 25, 26, 27] 28 (.one [29, 30, 31, 32, 33, 34, 35, 36, 37, 38, 40, 41] 39 (.stop [42, 43]))))) (fun W => Sm L w W ∧ Sm [bt] w5 W) (by kernel_rfl) (sd5) ?_
          repeat ((conv => whnf); first | (refine VCmp.tt (by omega) ?_) | (refine VCmp.ff (by omega) ?_) | (refine VIn.mk (IntWalk.i64_in _ (by omega)) ?_) | (refine VIdx.mk _ rfl (by omega) ?_) | (refine VIdx.mk 0 rfl (by omega) ?_))
          try (conv => whnf)
          refine VCall.mk _ (num_any _ w5.drew) ?_
          rintro _ x6 ⟨rfl, e6⟩
          subst x6
          refine ⟨_, rfl, ?_⟩
          repeat ((conv => whnf); first | (refine VS.mk sd5 ?_) | (refine VLoad.mk _ T0 ?_) | (refine VCmp.tt (by omega) ?_) | (refine VCmp.ff (by omega) ?_) | (refine VIn.mk (IntWalk.i64_in _ (by omega)) ?_) | (refine VIdx.mk _ rfl (by omega) ?_) | (refine VIdx.mk 0 rfl (by omega) ?_))
          try (conv => whnf)
          refine VCall.mk _ (pid_any i w5.drew (by omega) (by omega)) ?_
          rintro _ x6 ⟨rfl, e6⟩
          subst x6
          refine ⟨_, rfl, ?_⟩
          rw [epid]
          repeat ((conv => whnf); first | (refine VS.mk sd5 ?_) | (refine VLoad.mk _ T1 ?_) | (refine VLoad.mk _ (M0.mono fun _ h => h.1) ?_) | (refine VLoad.mk _ (N0.mono fun _ h => h.1) ?_) | (refine VLoad.mk _ T3 ?_) | (refine VCmp.tt (by omega) ?_) | (refine VCmp.ff (by omega) ?_) | (refine VIn.mk (IntWalk.i64_in _ (by omega)) ?_) | (refine VIdx.mk _ rfl (by omega) ?_) | (refine VIdx.mk 0 rfl (by omega) ?_))
          try (conv => whnf)
          have Sd5 := S5.below hLk (Below.refl _ w5).drew
          have Rd5 := R5.ro (Ro.below (R := fun _ => False) (Below.refl _ w5).drew) id
          refine VCall.mk _ (sameBytes_any A' B c' cB d.b.length 9 w5.drew.heap.size d.b b9 w5.drew rfl e9 (Nat.le_refl _) Rd5.row Sd5.rb.row (by rw [db]; omega)) ?_
          rintro _ w6 ⟨rfl, b6⟩
          refine ⟨_, rfl, ?_⟩
          have S6 := Sd5.below hLk b6
          have b56 : Below w5.heap.size w5 w6 := (Below.refl _ w5).drew.trans b6
          have sd6 : Sm L w w6 ∧ Sm [bt] w5 w6 := ⟨S6.s, .below b56 fun g hg => by rw [List.mem_singleton.1 hg]; exact b5⟩
          rw [decide_eq_true (show d.b = b9 from db)]
          have hfb : (v.o i).free ≤ 2000000000 ∧ -1000000000 ≤ (v.o i).free := by have := I.w4; have := WO.gn (pidN i); omega
          repeat ((conv => whnf); first | (refine VS.mk sd6 ?_) | (refine VLoad.mk _ (M2.mono fun _ h => h.1) ?_) | (refine VLoad.mk _ (N2.mono fun _ h => h.1) ?_) | (refine VCmp.tt (by omega) ?_) | (refine VCmp.ff (by omega) ?_) | (refine VIn.mk (IntWalk.i64_in _ (by omega)) ?_) | (refine VIdx.mk _ rfl (by omega) ?_) | (refine VIdx.mk 0 rfl (by omega) ?_))
          try (conv => whnf)
          obtain ⟨Y6, A6⟩ := S6.get hi hbj
          have kf : ((v.o i).keep d).free = (v.o i).free - 1 := by
            have e1 : ((v.o i).keep d).free = if (v.o i).frz = true then 0 else ((v.o i).win : Int) - (((upN (v.o i).taken d.s d.q (v.o i).self : Nat) : Int) - ((v.o i).gone (v.o i).self : Int)) := rfl
            have e2 : (v.o i).frz = false := by rw [I.frz i hi, hst]
            rw [e1, e2, hfree, if_neg (by decide), hsf, ds, upN_same, dq, (I.mi i hi).win, hown]
            omega
          have kt : ((v.o i).keep d).taken ((v.o i).keep d).self = d.q := by
            show upN (v.o i).taken d.s d.q (v.o i).self = _
            rw [hsf, ds, upN_same]
          refine VCall.mk _ (free_any A6 WO.self (by rw [kt, dq]; omega) (by have := WO.gn (v.o i).self; show (v.o i).gone (v.o i).self ≤ _; omega) WO.win) ?_
          rintro _ w7 ⟨rfl, b7⟩
          refine ⟨_, rfl, ?_⟩
          rw [kf]
          have S7 := S6.below hLk b7
          have sd7 : Sm L w w7 ∧ Sm [bt] w5 w7 := ⟨S7.s, sd6.2.trans (.below b7 fun g hg => by rw [List.mem_singleton.1 hg]; exact Nat.lt_of_lt_of_le b5 b56.size)⟩
          repeat ((conv => whnf); first | (refine VS.mk sd7 ?_) | (refine VCmp.tt (by omega) ?_) | (refine VCmp.ff (by omega) ?_) | (refine VIn.mk (IntWalk.i64_in _ (by omega)) ?_) | (refine VIdx.mk _ rfl (by omega) ?_) | (refine VIdx.mk 0 rfl (by omega) ?_))
          try (conv => whnf)
          refine VDraw.pl 17 (.one [0, 1, 2, 3, 4, 5, 6, 7, 8, 9, 10, 11, 12] 13 (.one [] 14 (.one [] 15 (.one [16] 17 (.stop []))))) (Sm L w) (by kernel_rfl) (S7.s) ?_
          repeat ((conv => whnf); first | (refine VLoad.mk _ M0 ?_) | (refine VLoad.mk _ N0 ?_) | (refine VCmp.tt (by omega) ?_) | (refine VCmp.ff (by omega) ?_) | (refine VIn.mk (IntWalk.i64_in _ (by omega)) ?_) | (refine VIdx.mk _ rfl (by omega) ?_) | (refine VIdx.mk 0 rfl (by omega) ?_))
          try (conv => whnf)
          have Sd7 := S7.below hLk (Below.refl _ w7).drew
          refine VCall.mk _ (copied_any B cB _ b9 w7.drew e9 Sd7.rb.row (by omega)) ?_
          rintro _ w8 ⟨B8, c8, rfl, n8, b8⟩
          refine ⟨_, rfl, ?_⟩
          have S8 := Sd7.below hLk b8
          have R8 : RowK w8 K3 1 eByte B8 b9 := n8.rowK Sd7.C.kz
          repeat ((conv => whnf); first | (refine VS.mk S8.s ?_) | (refine VCmp.tt (by omega) ?_) | (refine VCmp.ff (by omega) ?_) | (refine VIn.mk (IntWalk.i64_in _ (by omega)) ?_) | (refine VIdx.mk _ rfl (by omega) ?_) | (refine VIdx.mk 0 rfl (by omega) ?_))
          try (conv => whnf)
          refine VBs.mk _ _ (bs41 w8 B8 9 c8) ?_
          have ba9 : Below w8.heap.size w8 (w8.alloc (.cells #[.slice B8 9 c8] 27)) := (Below.refl _ _).alloc (Nat.le_refl _) _
          have hnc9 : ∀ j u, (eBx ⟨B8, c8, b9⟩)[j]? = some u → (w8.alloc (.cells #[.slice B8 9 c8] 27)).cell? ⟨w8.heap.size, j, none⟩ = some u := fun j u hu => by
            have := range_new w8 #[.slice B8 9 c8] 27 j u (by rw [← hu]; unfold eBx; rw [e9])
            rwa [Nat.zero_add] at this
          have z9 : (w8.alloc (.cells #[.slice B8 9 c8] 27)).heap.size = w8.heap.size + 1 := World.size_alloc _ _
          generalize w8.alloc (.cells #[.slice B8 9 c8] 27) = w9 at ba9 hnc9 z9 ⊢
          have S9 := S8.below hLk ba9
          have R9 : RowK w9 K3 1 eByte B8 b9 := R8.ro (Ro.below (R := fun _ => False) ba9) id
          repeat ((conv => whnf); first | (refine VS.mk S9.s ?_) | (refine VCmp.tt (by omega) ?_) | (refine VCmp.ff (by omega) ?_) | (refine VIn.mk (IntWalk.i64_in _ (by omega)) ?_) | (refine VIdx.mk _ rfl (by omega) ?_) | (refine VIdx.mk 0 rfl (by omega) ?_))
          try (conv => whnf)
          have a9 := S9.C.sent.at hi aS.eA aS.hx
          refine VApp.off 1 24 _ Try.underlying41 info27 rfl (by decide) eBx (fun _ => rfl) one_eBx xS.l ⟨B8, c8, b9⟩ aS.ln a9.ow hnc9 S9.C.kz (by omega) (by omega) fun A10 c10 K10 w10 o10 q10 kz10 => ?_
          have kL : ∀ g ∈ L, K g < 10 := fun g hg => by
            rw [hL] at hg
            simp only [List.mem_cons, List.not_mem_nil, or_false] at hg
            have q3 := aS.hk
            have q4 := aM.hk
            rcases hg with rfl | rfl | rfl | rfl | rfl <;> omega
          have hLs : ∀ g ∈ L, g < w9.heap.size ∧ K3 g < 10 := fun g hg => by
            have h1 := hlt g hg
            refine ⟨Nat.lt_of_lt_of_le h1 S9.q.size, ?_⟩
            rw [S9.q.kk g h1]; exact kL g hg
          have s10 : Sm L w w10 := S9.s.trans (.ro q10 fun g hg => ⟨(hLs g hg).1, by have := (hLs g hg).2; omega⟩)
          repeat ((conv => whnf); first | (refine VS.mk s10 ?_) | (refine VCmp.tt (by omega) ?_) | (refine VCmp.ff (by omega) ?_) | (refine VIn.mk (IntWalk.i64_in _ (by omega)) ?_) | (refine VIdx.mk _ rfl (by omega) ?_) | (refine VIdx.mk 0 rfl (by omega) ?_))
          try (conv => whnf)
          refine VStore.cell (by kernel_rfl) (by rw [show oS + mulO i 1 = oS + i from rfl, cell_sm aS.hc (by simp [hL]) s10]; rfl) ((World.frozen?_of_block (a := ⟨gS, _, none⟩) (s10 gS (by simp [hL]))).trans aS.hf) rfl rfl fun w11 hw11 => ?_
          obtain ⟨C11, q11⟩ := S9.C.push_sent hi a9 ⟨B8, c8, b9⟩ o10 (R9.ro q10 (by omega)) q10 kz10 (w2 := w11) (by rw [hw11.out]; rfl)
          clear hw11 s10 q10 o10 hnc9
          have S6s := sd7.2
          have kbt9 : K3 bt = 300 := k4
          have hbt9 : bt < w9.heap.size := Nat.lt_of_lt_of_le b5 (Nat.le_trans b56.size (Nat.le_trans b7.size (Nat.le_trans b8.size ba9.size)))
          have sb11 : Sm [bt] w5 w11 := (S6s.trans (.below ((Below.refl _ w7).drew.trans (Below.trans b8 (ba9.mono b8.size))) fun g hg => by rw [List.mem_singleton.1 hg]; exact Nat.lt_of_lt_of_le b5 (Nat.le_trans b56.size b7.size))).trans (.ro q11 fun g hg => by rw [List.mem_singleton.1 hg]; exact ⟨hbt9, by rw [kbt9]; omega⟩)
          have hbM : b < w9.heap.size ∧ gM < w9.heap.size ∧ K3 b = 1 ∧ K3 gM = 4 := by
            have h1 := (hLk b (by simp [hL])).1
            have h2 := (hLk gM (by simp [hL])).1
            exact ⟨Nat.lt_of_lt_of_le h1 S9.q.size, Nat.lt_of_lt_of_le h2 S9.q.size, (S9.q.kk b h1).trans hkb, (S9.q.kk gM h2).trans aM.hk⟩
          have R11 : RowK w11 K10 1 eByte B b9 := S9.rb.ro q11 (by omega)
          have P1 := C11.l_made (l := [b, gM]) (by simp)
          have e11 : ({ X with sent := ⟨X.sent.A, X.sent.c, X.sent.l.set i ⟨A10, c10, xS.l ++ [⟨B8, c8, b9⟩]⟩⟩ } : CwX).made = X.made := rfl
          rw [e11, aM.eA] at P1
          have a11 := C11.made.at hi aM.eA aM.hx
          have P2 : Ld Try.prog 74 gM (oM + i) (Sm [b, gM] w11) (.slice xM.A (v.made i).length xM.c) := ⟨fun W hW => load74s (cell_sm a11.hc (by simp) hW)⟩
          have sd11 : Sm [b, gM] w11 w11 ∧ Sm [bt] w5 w11 := ⟨Sm.refl _ _, sb11⟩
          repeat ((conv => whnf); first | (refine VS.last rfl ?_) | (refine VCmp.tt (by omega) ?_) | (refine VCmp.ff (by omega) ?_) | (refine VIn.mk (IntWalk.i64_in _ (by omega)) ?_) | (refine VIdx.mk _ rfl (by omega) ?_) | (refine VIdx.mk 0 rfl (by omega) ?_))
          try (conv => whnf)
          refine VDraw.pl 25 (.one [0, 1, 2, 3, 4, 5, 6, 7, 8, 9, 10, 11, 12, 13, 14, 15, 16, 17, 18] 19 (.one [20, 21] 22 (.one [] 23 (.one [24] 25 (.stop []))))) (fun W => Sm [b, gM] w11 W ∧ Sm [bt] w5 W) (by kernel_rfl) (sd11) ?_
          repeat ((conv => whnf); first | (refine VLoad.mk _ (P1.mono fun _ h => h.1) ?_) | (refine VLoad.mk _ (P2.mono fun _ h => h.1) ?_) | (refine VLoad.mk _ (U0.mono fun _ h => h.2) ?_) | (refine VLoad.mk _ (U1.mono fun _ h => h.2) ?_) | (refine VLoad.mk _ (U2.mono fun _ h => h.2) ?_) | (refine VCmp.tt (by omega) ?_) | (refine VCmp.ff (by omega) ?_) | (refine VIn.mk (IntWalk.i64_in _ (by omega)) ?_) | (refine VIdx.mk _ rfl (by omega) ?_) | (refine VIdx.mk 0 rfl (by omega) ?_))
          try (conv => whnf)
          have hd11 : Below w11.heap.size w11 w11.drew := (Below.refl _ w11).drew
          have R11d := R11.ro (Ro.below (R := fun _ => False) hd11) id
          refine VCall.mk _ (copied_any B cB _ b9 w11.drew e9 R11d.row (by omega)) ?_
          rintro _ w12 ⟨B12, c12, rfl, n12, b12⟩
          refine ⟨_, rfl, ?_⟩
          have b12' : Below w11.heap.size w11 w12 := hd11.trans b12
          have C12 := C11.below b12'
          have R12 : RowK w12 K10 1 eByte B12 b9 := n12.rowK fun y hy => C11.kz y hy
          have b11s : ∀ g ∈ [b, gM], g < w11.heap.size := fun g hg => by
            simp only [List.mem_cons, List.not_mem_nil, or_false] at hg
            have := q11.size
            rcases hg with rfl | rfl <;> omega
          have bt11 : bt < w11.heap.size := Nat.lt_of_lt_of_le hbt9 q11.size
          have sd12 : Sm [b, gM] w11 w12 ∧ Sm [bt] w5 w12 := ⟨.below b12' b11s, sb11.trans (.below b12' fun g hg => by rw [List.mem_singleton.1 hg]; exact bt11)⟩
          repeat ((conv => whnf); first | (refine VS.mk sd12 ?_) | (refine VCmp.tt (by omega) ?_) | (refine VCmp.ff (by omega) ?_) | (refine VIn.mk (IntWalk.i64_in _ (by omega)) ?_) | (refine VIdx.mk _ rfl (by omega) ?_) | (refine VIdx.mk 0 rfl (by omega) ?_))
          try (conv => whnf)
          refine VBuild.mk _ (fun W' => build71 W' d.s d.q d.st B12 9 c12) ?_
          repeat ((conv => whnf); first | (refine VS.mk sd12 ?_) | (refine VCmp.tt (by omega) ?_) | (refine VCmp.ff (by omega) ?_) | (refine VIn.mk (IntWalk.i64_in _ (by omega)) ?_) | (refine VIdx.mk _ rfl (by omega) ?_) | (refine VIdx.mk 0 rfl (by omega) ?_))
          try (conv => whnf)
          refine VBuild.mk _ (fun W' => build80d W' d.s d.q d.st B12 9 c12) ?_
          repeat ((conv => whnf); first | (refine VS.mk sd12 ?_) | (refine VCmp.tt (by omega) ?_) | (refine VCmp.ff (by omega) ?_) | (refine VIn.mk (IntWalk.i64_in _ (by omega)) ?_) | (refine VIdx.mk _ rfl (by omega) ?_) | (refine VIdx.mk 0 rfl (by omega) ?_))
          try (conv => whnf)
          refine VBs.mk _ _ (bs74x w12 (dIt d.s d.q d.st b9) B12 c12 9) ?_
          have ba13 : Below w12.heap.size w12 (w12.alloc (.cells (itA (dIt d.s d.q d.st b9) B12 c12 9) 80)) := (Below.refl _ _).alloc (Nat.le_refl _) _
          have hnc13 : ∀ j u, (eIx ⟨dIt d.s d.q d.st b9, B12, c12⟩)[j]? = some u → (w12.alloc (.cells (itA (dIt d.s d.q d.st b9) B12 c12 9) 80)).cell? ⟨w12.heap.size, j, none⟩ = some u := fun j u hu => by
            have := range_new w12 (itA (dIt d.s d.q d.st b9) B12 c12 9) 80 j u (by rw [← hu]; unfold eIx; show _ = (itA _ _ _ b9.length).toList[j]?; rw [e9])
            rwa [Nat.zero_add] at this
          have z13 : (w12.alloc (.cells (itA (dIt d.s d.q d.st b9) B12 c12 9) 80)).heap.size = w12.heap.size + 1 := World.size_alloc _ _
          generalize w12.alloc (.cells (itA (dIt d.s d.q d.st b9) B12 c12 9) 80) = w13 at ba13 hnc13 z13 ⊢
          have C13 := C12.below ba13
          have R13 : RowK w13 K10 1 eByte B12 b9 := R12.ro (Ro.below (R := fun _ => False) ba13) id
          have b13' : Below w11.heap.size w11 w13 := b12'.trans (ba13.mono b12'.size)
          have sd13 : Sm [b, gM] w11 w13 ∧ Sm [bt] w5 w13 := ⟨.below b13' b11s, sb11.trans (.below b13' fun g hg => by rw [List.mem_singleton.1 hg]; exact bt11)⟩
          repeat ((conv => whnf); first | (refine VS.mk sd13 ?_) | (refine VCmp.tt (by omega) ?_) | (refine VCmp.ff (by omega) ?_) | (refine VIn.mk (IntWalk.i64_in _ (by omega)) ?_) | (refine VIdx.mk _ rfl (by omega) ?_) | (refine VIdx.mk 0 rfl (by omega) ?_))
          try (conv => whnf)
          have a13 := C13.made.at hi aM.eA aM.hx
          have hml : (v.made i).length ≤ 500000 := Nat.le_trans (I.madeLen hi) (by omega)
          refine VApp.off 9 88 _ Try.underlying74 info80 rfl (by decide) eIx (fun _ => rfl) one_eIx xM.l ⟨dIt d.s d.q d.st b9, B12, c12⟩ aM.ln a13.ow hnc13 C13.kz (by omega) (by omega) fun A14 c14 K14 w14 o14 q14 kz14 => ?_
          have kM11 : K10 gM = 4 ∧ K10 b = 1 ∧ K10 bt = 300 := by
            have h1 := q11.kk gM hbM.2.1
            have h2 := q11.kk b hbM.1
            have h3 := q11.kk bt hbt9
            exact ⟨h1.trans hbM.2.2.2, h2.trans hbM.2.2.1, h3.trans kbt9⟩
          have hs13 := b13'.size
          have s14 : Sm [b, gM] w11 w14 := sd13.1.trans (.ro q14 fun g hg => by
            refine ⟨Nat.lt_of_lt_of_le (b11s g hg) hs13, ?_⟩
            simp only [List.mem_cons, List.not_mem_nil, or_false] at hg
            rcases hg with rfl | rfl <;> omega)
          have sb14 : Sm [bt] w5 w14 := sd13.2.trans (.ro q14 fun g hg => by rw [List.mem_singleton.1 hg]; exact ⟨Nat.lt_of_lt_of_le bt11 hs13, by omega⟩)
          repeat ((conv => whnf); first | (refine VS.mk ⟨s14, sb14⟩ ?_) | (refine VCmp.tt (by omega) ?_) | (refine VCmp.ff (by omega) ?_) | (refine VIn.mk (IntWalk.i64_in _ (by omega)) ?_) | (refine VIdx.mk _ rfl (by omega) ?_) | (refine VIdx.mk 0 rfl (by omega) ?_))
          try (conv => whnf)
          refine VStore.cell (by kernel_rfl) (by rw [show oM + mulO i 1 = oM + i from rfl, cell_sm a11.hc (by simp) s14]; rfl) ((World.frozen?_of_block (a := ⟨gM, _, none⟩) (s14 gM (by simp))).trans a11.hf) rfl rfl fun w15 hw15 => ?_
          obtain ⟨C15, q15⟩ := C13.push_made hi a13 ⟨dIt d.s d.q d.st b9, B12, c12⟩ o14 (R13.ro q14 (by omega)) q14 kz14 (w2 := w15) (by rw [hw15.out]; rfl)
          clear hw15 s14 sb14 q14 o14 hnc13
          repeat ((conv => whnf); first | (refine VS.last rfl ?_) | (refine VCmp.tt (by omega) ?_) | (refine VCmp.ff (by omega) ?_) | (refine VIn.mk (IntWalk.i64_in _ (by omega)) ?_) | (refine VIdx.mk _ rfl (by omega) ?_) | (refine VIdx.mk 0 rfl (by omega) ?_))
          try (conv => whnf)
          have qa : Ro (fun z => 0 < z ∧ z < 400) K K3 w w9 := S9.q
          have qb : Ro (fun z => 0 < z ∧ z < 400) K3 K10 w9 w11 := q11.more fun z hz => by omega
          have qc : Ro (fun z => 0 < z ∧ z < 400) K10 K10 w11 w13 := Ro.below b13'
          have qd : Ro (fun z => 0 < z ∧ z < 400) K10 K14 w13 w15 := q15.more fun z hz => by omega
          have ev : v.send i b9 = { v with o := upN v.o i ((v.o i).keep d), sent := upN v.sent i (v.sent i ++ [b9]), made := upN v.made i (v.made i ++ [dIt d.s d.q d.st b9]) } := by
            unfold Crw.send; rw [if_neg hf0, hd]
          rw [ev]
          exact .mk ⟨rfl, K14, _, C15, ((qa.trans qb).trans qc).trans qd⟩
end
end Go.Proofs.Ytoilipfgimcoiaa
