/- Cnts TnFl, joined. -/
import Derived.Test.YtcffhfcjfjfokaaSu5
import Derived.Test.YtcffhfcjfjfokaaSu12
import Derived.Test.YtcffhfcjfjfokaaSu14
set_option linter.unusedVariables false
set_option linter.unusedSimpArgs false
namespace Go.Proofs.Ytcffhfcjfjfokaa
open Go.RowKit
structure OwnFs (w : World) (base : Nat) (B : Option Addr) (c : Nat) (rs : List Rw) : Prop where
  own : Owns w base 39 7 eRw B c rs
  each : ∀ r ∈ rs, Owns w base 66 2 eSlot r.X r.cX r.f.slots ∧ Owns w base 3 1 eInt r.Y r.cY r.f.have_
  dis : rs.Pairwise fun a b => (∀ k, blk a.X = some k → blk b.X ≠ some k) ∧ (∀ k, blk a.Y = some k → blk b.Y ≠ some k)
theorem ownFs_nil (w : World) (base : Nat) : OwnFs w base none 0 [] := ⟨owns_nil _ _ _ _ _, fun r hr => (by cases hr), List.Pairwise.nil⟩
theorem OwnFs.base {w : World} {base base' c : Nat} {B : Option Addr} {rs : List Rw} (h : OwnFs w base B c rs) (hb : base' ≤ base) : OwnFs w base' B c rs := ⟨h.own.base hb, fun r hr => ⟨(h.each r hr).1.base hb, (h.each r hr).2.base hb⟩, h.dis⟩
theorem OwnFs.push {w x y : World} {base c c' : Nat} {B B' : Option Addr} {rs : List Rw} {r : Rw} (h : OwnFs w base B c rs) (hb : Below w.heap.size w x) (hbs : base ≤ w.heap.size) (hs : Owns x w.heap.size 66 2 eSlot r.X r.cX r.f.slots) (hh : Owns x w.heap.size 3 1 eInt r.Y r.cY r.f.have_) (o : Obj) (ho : Owns y base 39 7 eRw B' c' (rs ++ [r])) (hg : (x.alloc o).grownBy y (blk B)) : OwnFs y base B' c' (rs ++ [r]) := by
  have hB : Owns (x.alloc o) base 39 7 eRw B c rs := (h.own.keep hb (fun k hk => (h.own.lo k hk).2)).alloc o
  have hall : ∀ z ∈ rs ++ [r], Owns (x.alloc o) base 66 2 eSlot z.X z.cX z.f.slots ∧ Owns (x.alloc o) base 3 1 eInt z.Y z.cY z.f.have_ := fun z hz => by
    rcases List.mem_append.1 hz with e | e
    · obtain ⟨h1, h2⟩ := h.each z e
      exact ⟨(h1.keep hb (fun k hk => (h1.lo k hk).2)).alloc o, (h2.keep hb (fun k hk => (h2.lo k hk).2)).alloc o⟩
    · obtain rfl := List.mem_singleton.1 e
      exact ⟨(hs.base hbs).alloc o, (hh.base hbs).alloc o⟩
  refine ⟨ho, fun z hz => ?_, ?_⟩
  · obtain ⟨h1, h2⟩ := hall z hz
    exact ⟨h1.kept hg (h1.ne hB (by decide)), h2.kept hg (h2.ne hB (by decide))⟩
  · refine List.pairwise_append.2 ⟨h.dis, List.pairwise_singleton _ _, fun a ha b hb' => ?_⟩
    obtain rfl := List.mem_singleton.1 hb'
    obtain ⟨h1, h2⟩ := h.each a ha
    exact ⟨fun k hk e => by have := (h1.lo k hk).2; have := (hs.lo k e).1; omega, fun k hk e => by have := (h2.lo k hk).2; have := (hh.lo k e).1; omega⟩
theorem kp_small {s : Sto} (h : SInv s) (q : Nat) : (s.kp q).f.slots.length ≤ 1048576 ∧ (s.kp q).f.have_.length ≤ 1048576 := by
  rcases kp_of h q with e | ⟨_, e⟩
  · rw [e]; exact ⟨by simp [Kp.zero, Fl.zero], by simp [Kp.zero, Fl.zero]⟩
  · exact ⟨by have := e.held; omega, by have := e.high; omega⟩
theorem here_range {s : Sto} {e l i c : Int} {m : Mm} (h : s.hereB e l i c m = true) : 0 ≤ m.p ∧ m.p < s.n := by
  unfold Sto.hereB at h
  simp only [Bool.and_eq_true, decide_eq_true_eq] at h
  exact h.1
theorem missing_zero {s : Sto} {e l i c : Int} {who : List Mm} (h : who.all (s.hereB e l i c) = true) : (s.missing e l i c who).length = 0 := by
  unfold Sto.missing
  rw [List.length_map, List.length_eq_zero_iff, List.filter_eq_nil_iff]
  intro a ha
  rw [List.all_eq_true.1 h a ha]; simp
theorem missing_some {s : Sto} {e l i c : Int} {who : List Mm} (h : who.all (s.hereB e l i c) = false) : 0 < (s.missing e l i c who).length := by
  unfold Sto.missing
  obtain ⟨a, ha, hf⟩ := List.all_eq_false.1 h
  rw [List.length_map]
  exact List.length_pos_of_mem (List.mem_filter.2 ⟨ha, by simpa using hf⟩)
def BelC (x : World) (u : Nat) (v : Value) (W : World) : Prop := Below x.heap.size x W ∧ W.cell? ⟨u, 0, none⟩ = some v
def cntF (s : Sto) (m : Mm) : Fl := (s.kp m.p.toNat).f
def CtPost (w : World) (r : Option (List Fl)) (x : Ending) (w' : World) : Prop :=
  Below w.heap.size w w' ∧ match r with
    | none => x = .returned (.tuple #[.slice none 0 0, .int .i64 81])
    | some fs => ∃ B c rs, x = .returned (.tuple #[.slice B fs.length c, .int .i64 0]) ∧ rs.map Rw.f = fs ∧ OwnFs w' w.heap.size B c rs
set_option maxRecDepth 100000 in
set_option maxHeartbeats 2000000 in
theorem contents_any {w : World} {F : List Nat} {b g : Nat} {s : Sto} {ks : List KpX} {Mp : Option Addr} {cM : Nat} {ms : List Dr} (h : StV w F b g 0 1 s ks Mp cM ms) (e l i c : Int) (A : Option Addr) (cA N : Nat) (who : List Mm) (hN : N ≤ w.heap.size) (hA : RowAt w N 3 eMm A who) (hl : who.length ≤ 1048576) :
    Calls Try.prog 82 #[.pointer (some ⟨b, 0, none⟩), .agg #[.int .i64 e, .int .i64 l, .int .i64 i, .int .i64 c], .slice A who.length cA] w (CtPost w (s.contents e l i c who)) := by
  obtain ⟨wA, hwA⟩ : ∃ wA, wA = w.alloc (.cells #[.int .i64 e, .int .i64 l, .int .i64 i, .int .i64 c] 35) := ⟨_, rfl⟩
  have hbA : Below w.heap.size w wA := by rw [hwA]; exact below_box1 _ _ _
  have zA : wA.heap.size = w.heap.size + 1 := by rw [hwA]; simp
  have oA : wA.rangeAt w.heap.size 0 [.int .i64 e, .int .i64 l, .int .i64 i, .int .i64 c] := by rw [hwA]; exact range_new w #[.int .i64 e, .int .i64 l, .int .i64 i, .int .i64 c] 35
  have hbz := h.hi b h.bF
  have hgz := h.hi g h.gF
  have hiv := h.inv
  have hx : ∀ W, Below wA.heap.size wA W → RowAt W N 3 eMm A who ∧ StV W F b g 0 1 s ks Mp cM ms ∧ W.rangeAt w.heap.size 0 [.int .i64 e, .int .i64 l, .int .i64 i, .int .i64 c] := fun W hW =>
    ⟨(hA.below hbA hN).below hW (by omega), (h.below hbA).below hW, range_same oA (hW.block w.heap.size (by omega))⟩
  replace hx := Lib.hid hx
  replace hbA := Lib.hid hbA
  replace hwA := Lib.hid hwA
  replace zA := Lib.hid zA
  replace hiv := Lib.hid hiv
  clear h oA hA
  cases hall : who.all (s.hereB e l i c) with
  | false =>
    have hC0 : s.contents e l i c who = none := by unfold Sto.contents; rw [hall]; rfl
    have hpos := missing_some hall
    have hml := missing_len s e l i c who
    rw [hC0]
    obtain ⟨mz, hmz⟩ : ∃ z, z = s.missing e l i c who := ⟨_, rfl⟩
    rw [← hmz] at hpos hml
    replace hmz := Lib.hid hmz
    have hp0 : (0 : Int) < (mz.length : Int) := by omega
    have hL := load35 (hx.out _ (Below.refl _ _)).2.2
    replace hL := Lib.hid hL
    clear hC0 hall
    go_enter Try.func82, Try.ntmps82
    go_wp2_with (first
      | (rw [← hwA.out]
         refine wpList_loadR rfl 35 (.tmp 4) rfl w.heap.size 0 (by rfl) _ (by exact hL.out) ?_)
      | fail)
    go_wp2_with (first
      | (go_at_call 72
         refine (missing_any (hx.out _ (Below.refl _ _)).2.1 e l i c A cA N who (by have := zA.out; omega) (hx.out _ (Below.refl _ _)).1 hl).mono ?_
         rw [← hmz.out]
         rintro e' x2 ⟨Bm, cm, rfl, hom, hb2⟩
         clear hom
         replace hb2 := Lib.hid hb2)
      | fail)
    go_ret2
    exact ⟨hbA.out.trans (hb2.out.mono (by have := zA.out; omega)), rfl⟩
  | true =>
    have hC0 : s.contents e l i c who = some (who.map (cntF s)) := by unfold Sto.contents; rw [hall]; rfl
    have hze := missing_zero hall
    have hml := missing_len s e l i c who
    rw [hC0]
    obtain ⟨mz, hmz⟩ : ∃ z, z = s.missing e l i c who := ⟨_, rfl⟩
    rw [← hmz] at hze hml
    replace hmz := Lib.hid hmz
    have hp0 : decide ((0 : Int) < (mz.length : Int)) = false := decide_eq_false (by omega)
    have hL := load35 (hx.out _ (Below.refl _ _)).2.2
    have hall2 := fun m (hm : m ∈ who) => here_range (List.all_eq_true.1 hall m hm)
    replace hall2 := Lib.hid hall2
    replace hL := Lib.hid hL
    clear hC0 hall
    go_enter Try.func82, Try.ntmps82
    go_wp2_with (first
      | (rw [← hwA.out]
         refine wpList_loadR rfl 35 (.tmp 4) rfl w.heap.size 0 (by rfl) _ (by exact hL.out) ?_)
      | fail)
    go_wp2_with (first
      | (go_at_call 72
         refine (missing_any (hx.out _ (Below.refl _ _)).2.1 e l i c A cA N who (by have := zA.out; omega) (hx.out _ (Below.refl _ _)).1 hl).mono ?_
         rw [← hmz.out]
         rintro e' wB ⟨Bm, cm, rfl, hom, hbB⟩
         clear hom
         replace hbB := Lib.hid hbB)
      | fail)
    go_loopw [8, 19] (fun v k wr => ∃ (q : Nat) (B : Option Addr) (d : Nat) (rs : List Rw), k = .int .i64 q ∧ q ≤ who.length ∧ v = .slice B q d ∧ rs.length = q ∧ Hid (rs.map Rw.f = (who.take q).map (cntF s)) ∧ OwnFs wr wA.heap.size B d rs ∧ Below wA.heap.size wA wr) (fun _ k _ => who.length - (intOf k).toNat)
    case atStart => exact ⟨0, none, 0, [], rfl, by omega, rfl, rfl, by show List.map _ _ = _; simp, ownFs_nil _ _, hbB.out⟩
    case round =>
      obtain ⟨q, B, d, rs, rfl, hq, rfl, hrl, hrs, ho, hb⟩ := hrel
      have hzr := hb.size
      replace hrl := Lib.hid hrl
      replace ho := Lib.hid ho
      replace hb := Lib.hid hb
      by_cases hlt : q < who.length
      · obtain ⟨g1, o1, rfl, hg1, hc1⟩ := (hx.out _ hb.out).1 (by omega)
        have hm : who[q]? = some who[q] := List.getElem?_eq_getElem hlt
        obtain ⟨m, hme⟩ : ∃ m, m = who[q] := ⟨_, rfl⟩
        rw [← hme] at hm
        have hmr : wr.rangeAt g1 (o1 + q * 3) (eMm m) := fun j u hu => hc1 q m hm j u hu
        obtain ⟨hp1, hp2⟩ := hall2.out m (List.mem_of_getElem? hm)
        obtain ⟨p, hp⟩ := Int.eq_ofNat_of_zero_le hp1
        have hpn : p < s.n := by omega
        have htk : (who.take (q + 1)).map (cntF s) = (who.take q).map (cntF s) ++ [(s.kp p).f] := by
          rw [List.take_add_one, hm, List.map_append]
          show _ ++ [cntF s m] = _
          unfold cntF; rw [show m.p.toNat = p by omega]
        obtain ⟨x1, hx1⟩ : ∃ x1, x1 = wr.alloc (.cells #[.int .i64 m.p, .int .i64 m.i, .int .i64 m.c] 168) := ⟨_, rfl⟩
        have b1 : Below wr.heap.size wr x1 := by rw [hx1]; exact below_box1 _ _ _
        have r1 : x1.rangeAt wr.heap.size 0 (eMm m) := by rw [hx1]; exact range_new wr #[.int .i64 m.p, .int .i64 m.i, .int .i64 m.c] 168
        have z1 : x1.heap.size = wr.heap.size + 1 := by rw [hx1]; simp
        have bA1 := hb.out.trans (b1.mono hzr)
        obtain ⟨kx, hkx, hkk, hkr, hkf⟩ := (hx.out _ (bA1.drew)).2.1.kp hpn
        obtain ⟨hk1, hk2⟩ := kp_small hiv.out p
        rw [← hkk] at htk hk1 hk2
        have hS : ∀ W : World, (BelC wA wr.heap.size (.int .i64 m.p) W) → (loadVar 135 ⟨b, 0, none⟩).run Try.prog W = .ok (.slice (some ⟨g, 0, none⟩) s.n s.n) W := fun W hW => load135 (hx.out _ hW.1).2.1.ck
        have hS2 : ∀ W : World, (BelC wA wr.heap.size (.int .i64 m.p) W) → (loadVar 3 ⟨wr.heap.size, 0, none⟩).run Try.prog W = .ok (.int .i64 p) W := fun W hW => load3 (by rw [hW.2, hp])
        have hS3 : ∀ W : World, (BelC wA wr.heap.size (.int .i64 m.p) W) → (loadVar 39 ⟨g, p * 8 + 1, none⟩).run Try.prog W = .ok (.agg (flc kx.k.f.e kx.k.f.l kx.k.f.i kx.k.f.c kx.k.f.base kx.A kx.k.f.slots.length kx.cA kx.B kx.k.f.have_.length kx.cB)) W := fun W hW => by
          refine load39 ?_
          have hr8 := (hx.out _ hW.1).2.1.krow p kx hkx
          exact fun j u hu => by
            have h9 := hr8 (j + 1) u hu
            rw [show p * 8 + 1 + j = p * 8 + (j + 1) by omega]; exact h9
        have s1 : BelC wA wr.heap.size (.int .i64 m.p) x1.drew := ⟨bA1.drew, r1 0 _ rfl⟩
        have hC : ∀ x' : Prop, (∀ W : World, (BelC wA wr.heap.size (.int .i64 m.p) W) → x') ↔ x' := fun x' => ⟨fun f => f _ s1, fun f _ _ => f⟩
        have hq0 : (0 : Int) ≤ (q : Int) := by omega
        have hq1 : (q : Int) < (who.length : Int) := by omega
        have hpz0 : (0 : Int) ≤ (p : Int) := by omega
        have hpz1 : (p : Int) < (s.n : Int) := by omega
        have hfr := hkf.rows
        replace hfr := Lib.hid hfr
        replace hkx := Lib.hid hkx
        replace hkk := Lib.hid hkk
        replace hkr := Lib.hid hkr
        replace hkf := Lib.hid hkf
        replace hS := Lib.hid hS
        replace hS2 := Lib.hid hS2
        replace hS3 := Lib.hid hS3
        replace s1 := Lib.hid s1
        replace htk := Lib.hid htk
        replace hme := Lib.hid hme
        replace hm := Lib.hid hm
        replace hmr := Lib.hid hmr
        replace hp := Lib.hid hp
        replace hx1 := Lib.hid hx1
        replace b1 := Lib.hid b1
        replace r1 := Lib.hid r1
        replace bA1 := Lib.hid bA1
        clear hc1 hp1 hp2
        go_wp2_with (first
          | (refine wpList_loadR rfl 168 (.tmp 21) rfl g1 (o1 + q * 3) (by rfl) _ (by exact load168 hmr.out) ?_)
          | fail)
        rw [← hx1.out]
        refine wp_region_ord [([0, 1, 2, 3, 4, 5, 6, 7, 8, 9], 10), ([], 11), ([], 12)] [13] (fun W => BelC wA wr.heap.size (.int .i64 m.p) W) rfl (by kernel_rfl) rfl s1.out ?_
        refine WO.seg rfl ?_ s1.out
        simp only [picks, pick, List.cons_append, List.nil_append, List.append_nil]
        repeat (first
          | go_big_quiet_skip
          | (refine wpQuiet_loadC (by rfl) 135 (.tmp 26) rfl b 0 (by rfl) _ hS.out ?_; simp only [Act.put, List.setIfInBounds_toArray, List.set_cons_zero, List.set_cons_succ])
          | (refine wpQuiet_loadC (by rfl) 3 (.tmp 28) rfl wr.heap.size 0 (by rfl) _ hS2.out ?_; simp only [Act.put, List.setIfInBounds_toArray, List.set_cons_zero, List.set_cons_succ])
          | (refine wpQuiet_loadC (by rfl) 39 (.tmp 31) rfl g (p * 8 + 1) (by rfl) _ hS3.out ?_; simp only [Act.put, List.setIfInBounds_toArray, List.set_cons_zero, List.set_cons_succ])
          | go_big_quiet_step (fail))
        refine wpQuiet_nil ?_
        intro K hK
        go_simp
        go_at_call 106
        refine (ptwin_any kx.k.f kx.A kx.cA kx.B kx.cB x1.drew.heap.size x1.drew (Nat.le_refl _) hfr.out.slots hfr.out.have_ hk1 hk2).mono ?_
        rintro e' x2 ⟨A2, c2, B2, d2, rfl, hs2, hh2, hb2⟩
        have s2 : BelC wA wr.heap.size (.int .i64 m.p) x2 := ⟨s1.out.1.trans (hb2.mono (by have := bA1.out.size; exact this)), (hb2.cell (p := ⟨wr.heap.size, 0, none⟩) (by show wr.heap.size < x1.heap.size; omega)).trans s1.out.2⟩
        replace hs2 := Lib.hid hs2
        replace hh2 := Lib.hid hh2
        replace hb2 := Lib.hid hb2
        replace s2 := Lib.hid s2
        go_wp2_with fail
        refine hK.out _ _ s2.out ?_
        clear hK K
        refine WO.seg rfl ?_ s2.out
        simp only [picks]
        refine wpQuiet_nil ?_
        intro K hK
        go_simp
        have z1' := z1
        have zb2 : x1.heap.size ≤ x2.heap.size := hb2.out.size
        have bwr2 : Below wr.heap.size wr x2 := (b1.out.drew).trans (hb2.out.mono (by show wr.heap.size ≤ x1.heap.size; omega))
        have hown3 := (ho.out.own.keep bwr2 (fun k hk => (ho.out.own.lo k hk).2)).alloc (.cells (flc kx.k.f.e kx.k.f.l kx.k.f.i kx.k.f.c kx.k.f.base A2 kx.k.f.slots.length c2 B2 kx.k.f.have_.length d2) 39)
        have hrow3 := row_new x2 39 7 eRw ⟨kx.k.f, A2, c2, B2, d2⟩ (flc kx.k.f.e kx.k.f.l kx.k.f.i kx.k.f.c kx.k.f.base A2 kx.k.f.slots.length c2 B2 kx.k.f.have_.length d2) rfl
        have s3 : BelC wA wr.heap.size (.int .i64 m.p) (x2.alloc (.cells (flc kx.k.f.e kx.k.f.l kx.k.f.i kx.k.f.c kx.k.f.base A2 kx.k.f.slots.length c2 B2 kx.k.f.have_.length d2) 39)) := ⟨s2.out.1.alloc s2.out.1.size _, by rw [World.cell?_of_block (heap_alloc_old x2 _ (by show wr.heap.size < x2.heap.size; omega))]; exact s2.out.2⟩
        replace bwr2 := Lib.hid bwr2
        replace hown3 := Lib.hid hown3
        replace hrow3 := Lib.hid hrow3
        replace s3 := Lib.hid s3
        refine hK.out _ _ s3.out ?_
        clear hK K
        refine WO.seg rfl ?_ s3.out
        simp only [picks]
        refine wpQuiet_nil ?_
        intro K hK
        refine step_append_rows rfl (.tmp 23) (.tmp 34) 22 rfl wA.heap.size 39 7 88 _ Try.underlying22 info39 (by rfl) (by omega) eRw len_eRw one_eRw B d rs (some ⟨x2.heap.size, 0, none⟩) 1 (x2.heap.size + 1) q 1 [⟨kx.k.f, A2, c2, B2, d2⟩] (by rfl) (by rfl) hrl.out rfl hown3.out hrow3.out (by omega) (by omega) (by rw [World.size_alloc]; omega) ?_
        intro B4 d4 x4 ho4 hg4 hk4
        have lo := ho.out.own.lo
        have hzz : wr.heap.size < x2.heap.size := by omega
        have s4 : BelC wA wr.heap.size (.int .i64 m.p) x4 := ⟨s3.out.1.grown hg4 s3.out.1.size (fun k hk => (lo k hk).1), (hg4.cell_far ⟨wr.heap.size, 0, none⟩ (by rw [World.size_alloc]; exact Nat.lt_succ_of_lt hzz) (by intro e; exact absurd (lo wr.heap.size e.symm).2 (Nat.lt_irrefl _))).trans s3.out.2⟩
        have hf4 := ho.out.push (r := ⟨kx.k.f, A2, c2, B2, d2⟩) bwr2.out hzr ((hs2.out).base (by show wr.heap.size ≤ x1.heap.size; omega)) ((hh2.out).base (by show wr.heap.size ≤ x1.heap.size; omega)) _ ho4 hg4
        replace s4 := Lib.hid s4
        replace hf4 := Lib.hid hf4
        clear ho4 hg4 hk4 lo
        simp only [Act.put, List.setIfInBounds_toArray, List.set_cons_zero, List.set_cons_succ]
        refine hK.out _ _ s4.out ?_
        clear hK K
        refine WO.end_ ?_
        simp only [picks, pick, List.cons_append, List.nil_append, List.append_nil]
        repeat go_big_quiet_step (fail)
        refine wpQuiet_nil ?_
        clear hC
        go_wp2
        go_roundw
        case rel => go_light; exact ⟨q + 1, B4, d4, rs ++ [⟨kx.k.f, A2, c2, B2, d2⟩], by go_num, by omega, rfl, by rw [List.length_append, hrl.out]; rfl, by show List.map _ _ = _; rw [List.map_append, hrs.out, htk.out]; rfl, hf4.out, s4.out.1⟩
        case measure => go_light; simp [intOf]; omega
      · obtain rfl : q = who.length := by omega
        have hfin : rs.map Rw.f = who.map (cntF s) := by rw [hrs.out, List.take_length]
        have hlen : (who.map (cntF s)).length = who.length := List.length_map ..
        replace hfin := Lib.hid hfin
        replace hlen := Lib.hid hlen
        go_wp2
        go_ret2
        refine ⟨hbA.out.trans (hb.out.mono (by have := zA.out; omega)), B, d, rs, ?_, hfin.out, ho.out.base (by have := zA.out; omega)⟩
        rw [hlen.out]; rfl
set_option maxRecDepth 100000 in
set_option maxHeartbeats 2000000 in
theorem rcontents_any {w : World} {F : List Nat} {b g : Nat} {s : Sto} {ks : List KpX} {Mp : Option Addr} {cM : Nat} {ms : List Dr} (h : StV w F b g 1 2 s ks Mp cM ms) (hn : w.cell? ⟨b, 0, none⟩ = some (.int .i64 s.n)) (e l i c : Int) (A : Option Addr) (cA N : Nat) (who : List Mm) (hN : N ≤ w.heap.size) (hA : RowAt w N 3 eMm A who) (hl : who.length ≤ 1048576) :
    Calls Try.prog 83 #[.pointer (some ⟨b, 0, none⟩), .agg #[.int .i64 e, .int .i64 l, .int .i64 i, .int .i64 c], .slice A who.length cA] w (CtPost w (s.contents e l i c who)) := by
  obtain ⟨wA, hwA⟩ : ∃ wA, wA = w.alloc (.cells #[.int .i64 e, .int .i64 l, .int .i64 i, .int .i64 c] 35) := ⟨_, rfl⟩
  have hbA : Below w.heap.size w wA := by rw [hwA]; exact below_box1 _ _ _
  have zA : wA.heap.size = w.heap.size + 1 := by rw [hwA]; simp
  have oA : wA.rangeAt w.heap.size 0 [.int .i64 e, .int .i64 l, .int .i64 i, .int .i64 c] := by rw [hwA]; exact range_new w #[.int .i64 e, .int .i64 l, .int .i64 i, .int .i64 c] 35
  have hbz := h.hi b h.bF
  have hgz := h.hi g h.gF
  have hiv := h.inv
  have hx : ∀ W, Below wA.heap.size wA W → RowAt W N 3 eMm A who ∧ StV W F b g 1 2 s ks Mp cM ms ∧ W.rangeAt w.heap.size 0 [.int .i64 e, .int .i64 l, .int .i64 i, .int .i64 c] ∧ W.cell? ⟨b, 0, none⟩ = some (.int .i64 s.n) := fun W hW =>
    ⟨(hA.below hbA hN).below hW (by omega), (h.below hbA).below hW, range_same oA (hW.block w.heap.size (by omega)), (hW.cell (p := ⟨b, 0, none⟩) (by show b < _; omega)).trans ((hbA.cell (p := ⟨b, 0, none⟩) hbz).trans hn)⟩
  replace hx := Lib.hid hx
  replace hbA := Lib.hid hbA
  replace hwA := Lib.hid hwA
  replace zA := Lib.hid zA
  replace hiv := Lib.hid hiv
  clear h oA hA hn
  go_enter Try.func83, Try.ntmps83
  go_wp2_with fail
  rw [← hwA.out]
  go_loopw [8, 9] (fun v k wr => ∃ (q : Nat) (B : Option Addr) (d : Nat) (rs : List Rw), k = .int .i64 q ∧ q ≤ who.length ∧ v = .slice B q d ∧ rs.length = q ∧ Hid (rs.map Rw.f = (who.take q).map (cntF s)) ∧ Hid ((who.take q).all (s.hereB e l i c) = true) ∧ OwnFs wr wA.heap.size B d rs ∧ Below wA.heap.size wA wr) (fun _ k _ => who.length - (intOf k).toNat)
  case atStart => exact ⟨0, none, 0, [], rfl, by omega, rfl, rfl, by show List.map _ _ = _; simp, by show List.all _ _ = _; simp, ownFs_nil _ _, Below.refl _ _⟩
  case round =>
    obtain ⟨q, B, d, rs, rfl, hq, rfl, hrl, hrs, hal, ho, hb⟩ := hrel
    have hzr := hb.size
    replace hrl := Lib.hid hrl
    replace ho := Lib.hid ho
    replace hb := Lib.hid hb
    by_cases hlt : q < who.length
    · obtain ⟨g1, o1, rfl, hg1, hc1⟩ := (hx.out _ hb.out).1 (by omega)
      have hm : who[q]? = some who[q] := List.getElem?_eq_getElem hlt
      obtain ⟨m, hme⟩ : ∃ m, m = who[q] := ⟨_, rfl⟩
      rw [← hme] at hm
      have hmr : wr.rangeAt g1 (o1 + q * 3) (eMm m) := fun j u hu => hc1 q m hm j u hu
      have hq0 : (0 : Int) ≤ (q : Int) := by omega
      have hq1 : (q : Int) < (who.length : Int) := by omega
      replace hme := Lib.hid hme
      replace hm := Lib.hid hm
      replace hmr := Lib.hid hmr
      clear hc1
      have bd : Below wr.heap.size wr wr.drew := Below.drew (Below.refl _ _)
      have hC : ∀ x' : Prop, (∀ W, Below wr.heap.size wr W → x') ↔ x' := fun x' => ⟨fun f => f _ (Below.refl _ _), fun f _ _ => f⟩
      have La : ∀ W, Below wr.heap.size wr W → (loadVar 35 ⟨w.heap.size, 0, none⟩).run Try.prog W = .ok (.agg #[.int .i64 e, .int .i64 l, .int .i64 i, .int .i64 c]) W := fun W hW => load35 (hx.out _ (hb.out.trans (hW.mono hzr))).2.2.1
      have Lb : ∀ W, Below wr.heap.size wr W → (loadVar 168 ⟨g1, o1 + q * 3, none⟩).run Try.prog W = .ok (.agg #[.int .i64 m.p, .int .i64 m.i, .int .i64 m.c]) W := fun W hW => load168 (range_same hmr.out (hW.block g1 (by have := zA.out; omega)))
      obtain ⟨-, h1, -, n1⟩ := hx.out _ (hb.out.trans (bd.mono hzr))
      replace h1 := Lib.hid h1
      replace n1 := Lib.hid n1
      replace La := Lib.hid La
      replace Lb := Lib.hid Lb
      replace bd := Lib.hid bd
      go_wp2_with fail
      refine wp_region_ord [([0, 1, 2, 3, 4, 5], 6)] [7] (fun W => Below wr.heap.size wr W) rfl (by kernel_rfl) rfl bd.out ?_
      refine WO.seg rfl ?_ bd.out
      simp only [picks, pick, List.cons_append, List.nil_append, List.append_nil]
      repeat (first
        | go_big_quiet_skip
        | (refine wpQuiet_loadC (by rfl) 35 (.tmp 4) rfl w.heap.size 0 (by rfl) _ La.out ?_; simp only [Act.put, List.setIfInBounds_toArray, List.set_cons_zero, List.set_cons_succ])
        | (refine wpQuiet_loadC (by rfl) 168 (.tmp 21) rfl g1 (o1 + q * 3) (by rfl) _ Lb.out ?_; simp only [Act.put, List.setIfInBounds_toArray, List.set_cons_zero, List.set_cons_succ])
        | go_big_quiet_step (fail))
      refine wpQuiet_nil ?_
      intro K hK
      go_simp
      go_at_call 104
      refine (rhere_any h1.out n1.out e l i c m).mono ?_
      rintro e' x2 ⟨rfl, hb2⟩
      have b2 : Below wr.heap.size wr x2 := bd.out.trans hb2
      have bA2 := hb.out.trans (b2.mono hzr)
      have ho2 : OwnFs x2 wA.heap.size B d rs := ⟨ho.out.own.keep b2 (fun k hk => (ho.out.own.lo k hk).2), fun r hr => ⟨(ho.out.each r hr).1.keep b2 (fun k hk => ((ho.out.each r hr).1.lo k hk).2), (ho.out.each r hr).2.keep b2 (fun k hk => ((ho.out.each r hr).2.lo k hk).2)⟩, ho.out.dis⟩
      have z2 : wr.heap.size ≤ x2.heap.size := b2.size
      replace b2 := Lib.hid b2
      replace bA2 := Lib.hid bA2
      replace ho2 := Lib.hid ho2
      clear hb2
      go_wp2_with fail
      refine hK.out _ _ b2.out ?_
      clear hK K
      refine WO.end_ ?_
      simp only [picks, pick, List.cons_append, List.nil_append, List.append_nil]
      repeat go_big_quiet_step (fail)
      refine wpQuiet_nil ?_
      clear hC La Lb
      cases hh : s.hereB e l i c m with
      | false =>
        have hno : s.contents e l i c who = none := by
          unfold Sto.contents
          rw [if_neg]
          intro ha
          have := List.all_eq_true.1 ha m (List.mem_of_getElem? hm.out)
          rw [hh] at this; cases this
        replace hno := Lib.hid hno
        go_wp2
        go_ret2
        rw [hno.out]
        exact ⟨hbA.out.trans (bA2.out.mono (by have := zA.out; omega)), rfl⟩
      | true =>
        obtain ⟨hp1, hp2⟩ := here_range hh
        obtain ⟨p, hp⟩ := Int.eq_ofNat_of_zero_le hp1
        have hpn : p < s.n := by omega
        have hal2 : (who.take (q + 1)).all (s.hereB e l i c) = true := by
          rw [List.take_add_one, hm.out, List.all_append, hal.out]; simp [hh]
        have htk : (who.take (q + 1)).map (cntF s) = (who.take q).map (cntF s) ++ [(s.kp p).f] := by
          rw [List.take_add_one, hm.out, List.map_append]
          show _ ++ [cntF s m] = _
          unfold cntF; rw [show m.p.toNat = p by omega]
        obtain ⟨kx, hkx, hkk, hkr, hkf⟩ := (hx.out _ (bA2.out.drew)).2.1.kp hpn
        obtain ⟨hk1, hk2⟩ := kp_small hiv.out p
        rw [← hkk] at htk hk1 hk2
        have hS : ∀ W : World, Below wA.heap.size wA W → (loadVar 138 ⟨b, 1, none⟩).run Try.prog W = .ok (.slice (some ⟨g, 0, none⟩) s.n s.n) W := fun W hW => load138 (hx.out _ hW).2.1.ck
        have hS2 : ∀ W : World, Below wA.heap.size wA W → (loadVar 3 ⟨g1, o1 + q * 3, none⟩).run Try.prog W = .ok (.int .i64 p) W := fun W hW => by
          obtain ⟨g9, o9, e9, _, hc9⟩ := (hx.out _ hW).1 (by omega)
          injection e9 with e9; injection e9 with e9 e10; subst e9 e10
          exact load3 (by rw [← hp]; exact hc9 q m hm.out 0 _ rfl)
        have hS3 : ∀ W : World, Below wA.heap.size wA W → (loadVar 39 ⟨g, p * 8 + 1, none⟩).run Try.prog W = .ok (.agg (flc kx.k.f.e kx.k.f.l kx.k.f.i kx.k.f.c kx.k.f.base kx.A kx.k.f.slots.length kx.cA kx.B kx.k.f.have_.length kx.cB)) W := fun W hW => by
          refine load39 ?_
          have hr8 := (hx.out _ hW).2.1.krow p kx hkx
          exact fun j u hu => by
            have h9 := hr8 (j + 1) u hu
            rw [show p * 8 + 1 + j = p * 8 + (j + 1) by omega]; exact h9
        have s1 : Below wA.heap.size wA x2.drew := bA2.out.drew
        have hC : ∀ x' : Prop, (∀ W : World, Below wA.heap.size wA W → x') ↔ x' := fun x' => ⟨fun f => f _ s1, fun f _ _ => f⟩
        have hpz0 : (0 : Int) ≤ (p : Int) := by omega
        have hpz1 : (p : Int) < (s.n : Int) := by omega
        have hfr := hkf.rows
        replace hfr := Lib.hid hfr
        replace hkx := Lib.hid hkx
        replace hkk := Lib.hid hkk
        replace hkr := Lib.hid hkr
        replace hkf := Lib.hid hkf
        replace hS := Lib.hid hS
        replace hS2 := Lib.hid hS2
        replace hS3 := Lib.hid hS3
        replace s1 := Lib.hid s1
        replace htk := Lib.hid htk
        replace hal2 := Lib.hid hal2
        replace hp := Lib.hid hp
        clear hp1 hp2 hh
        go_wp2_with fail
        refine wp_region_ord [([0, 1, 2, 3, 4, 5, 6, 7, 8, 9, 10, 11, 12], 13), ([], 14), ([], 15)] [16] (fun W => Below wA.heap.size wA W) rfl (by kernel_rfl) rfl s1.out ?_
        refine WO.seg rfl ?_ s1.out
        simp only [picks, pick, List.cons_append, List.nil_append, List.append_nil]
        repeat (first
          | go_big_quiet_skip
          | (refine wpQuiet_loadC (by rfl) 138 (.tmp 29) rfl b 1 (by rfl) _ hS.out ?_; simp only [Act.put, List.setIfInBounds_toArray, List.set_cons_zero, List.set_cons_succ])
          | (refine wpQuiet_loadC (by rfl) 3 (.tmp 34) rfl g1 (o1 + q * 3) (by rfl) _ hS2.out ?_; simp only [Act.put, List.setIfInBounds_toArray, List.set_cons_zero, List.set_cons_succ])
          | (refine wpQuiet_loadC (by rfl) 39 (.tmp 37) rfl g (p * 8 + 1) (by rfl) _ hS3.out ?_; simp only [Act.put, List.setIfInBounds_toArray, List.set_cons_zero, List.set_cons_succ])
          | go_big_quiet_step (fail))
        refine wpQuiet_nil ?_
        intro K hK
        go_simp
        go_at_call 107
        refine (copyOf_any kx.k.f kx.A kx.cA kx.B kx.cB x2.drew.heap.size x2.drew (Nat.le_refl _) hfr.out.slots hfr.out.have_ hk1 hk2).mono ?_
        rintro e' x3 ⟨A2, c2, B2, d2, rfl, hs2, hh2, hb2⟩
        have zb2 : x2.heap.size ≤ x3.heap.size := hb2.size
        have s2 : Below wA.heap.size wA x3 := s1.out.trans (hb2.mono (by have := bA2.out.size; exact this))
        have bwr2 : Below x2.heap.size x2 x3 := ((Below.refl _ _).drew).trans hb2
        replace hs2 := Lib.hid hs2
        replace hh2 := Lib.hid hh2
        replace s2 := Lib.hid s2
        clear hb2
        go_wp2_with fail
        refine hK.out _ _ s2.out ?_
        clear hK K
        refine WO.seg rfl ?_ s2.out
        simp only [picks]
        refine wpQuiet_nil ?_
        intro K hK
        go_simp
        have hown3 := (ho2.out.own.keep bwr2 (fun k hk => (ho2.out.own.lo k hk).2)).alloc (.cells (flc kx.k.f.e kx.k.f.l kx.k.f.i kx.k.f.c kx.k.f.base A2 kx.k.f.slots.length c2 B2 kx.k.f.have_.length d2) 39)
        have hrow3 := row_new x3 39 7 eRw ⟨kx.k.f, A2, c2, B2, d2⟩ (flc kx.k.f.e kx.k.f.l kx.k.f.i kx.k.f.c kx.k.f.base A2 kx.k.f.slots.length c2 B2 kx.k.f.have_.length d2) rfl
        have s3 : Below wA.heap.size wA (x3.alloc (.cells (flc kx.k.f.e kx.k.f.l kx.k.f.i kx.k.f.c kx.k.f.base A2 kx.k.f.slots.length c2 B2 kx.k.f.have_.length d2) 39)) := s2.out.alloc s2.out.size _
        replace bwr2 := Lib.hid bwr2
        replace hown3 := Lib.hid hown3
        replace hrow3 := Lib.hid hrow3
        replace s3 := Lib.hid s3
        refine hK.out _ _ s3.out ?_
        clear hK K
        refine WO.seg rfl ?_ s3.out
        simp only [picks]
        refine wpQuiet_nil ?_
        intro K hK
        refine step_append_rows rfl (.tmp 26) (.tmp 40) 22 rfl wA.heap.size 39 7 88 _ Try.underlying22 info39 (by rfl) (by omega) eRw len_eRw one_eRw B d rs (some ⟨x3.heap.size, 0, none⟩) 1 (x3.heap.size + 1) q 1 [⟨kx.k.f, A2, c2, B2, d2⟩] (by rfl) (by rfl) hrl.out rfl hown3.out hrow3.out (by omega) (by omega) (by rw [World.size_alloc]; omega) ?_
        intro B4 d4 x4 ho4 hg4 hk4
        have lo := ho.out.own.lo
        have s4 : Below wA.heap.size wA x4 := s3.out.grown hg4 s3.out.size (fun k hk => (lo k hk).1)
        have hf4 := ho2.out.push (r := ⟨kx.k.f, A2, c2, B2, d2⟩) bwr2.out (by omega) hs2.out hh2.out _ ho4 hg4
        replace s4 := Lib.hid s4
        replace hf4 := Lib.hid hf4
        clear ho4 hg4 hk4 lo
        simp only [Act.put, List.setIfInBounds_toArray, List.set_cons_zero, List.set_cons_succ]
        refine hK.out _ _ s4.out ?_
        clear hK K
        refine WO.end_ ?_
        simp only [picks, pick, List.cons_append, List.nil_append, List.append_nil]
        repeat go_big_quiet_step (fail)
        refine wpQuiet_nil ?_
        clear hC
        go_wp2
        go_roundw
        case rel => go_light; exact ⟨q + 1, B4, d4, rs ++ [⟨kx.k.f, A2, c2, B2, d2⟩], by go_num, by omega, rfl, by rw [List.length_append, hrl.out]; rfl, by show List.map _ _ = _; rw [List.map_append, hrs.out, htk.out]; rfl, hal2, hf4.out, s4.out⟩
        case measure => go_light; simp [intOf]; omega
    · obtain rfl : q = who.length := by omega
      have hyes : s.contents e l i c who = some (who.map (cntF s)) := by
        have := hal.out
        rw [List.take_length] at this
        unfold Sto.contents; rw [this]; rfl
      have hfin : rs.map Rw.f = who.map (cntF s) := by rw [hrs.out, List.take_length]
      have hlen : (who.map (cntF s)).length = who.length := List.length_map ..
      replace hfin := Lib.hid hfin
      replace hlen := Lib.hid hlen
      replace hyes := Lib.hid hyes
      go_wp2
      go_ret2
      rw [hyes.out]
      refine ⟨hbA.out.trans (hb.out.mono (by have := zA.out; omega)), B, d, rs, ?_, hfin.out, ho.out.base (by have := zA.out; omega)⟩
      rw [hlen.out]; rfl
end Go.Proofs.Ytcffhfcjfjfokaa
namespace Go.Proofs.Ytcffhfcjfjfokaa
open Go Go.RowKit
def D2 (a b o1 o2 : Nat) (u v : Value) (W : World) : Prop := W.cell? ⟨a, o1, none⟩ = some u ∧ W.cell? ⟨b, o2, none⟩ = some v
theorem OwnFs.past {β : Type} {W0 W1 W2 W3 : World} {base base' sz' c c' hb : Nat} {e' : TypeId} {enc' : β → List Value} {B A' : Option Addr} {l' : List β} {rs : List Rw} (h : OwnFs W0 base B c rs) (hb1 : Below W0.heap.size W0 W1) (ho : Owns W1 base' e' sz' enc' A' c' l') (n1 : 39 ≠ e') (n2 : 66 ≠ e') (n3 : 3 ≠ e') (hg : W1.grownBy W2 (blk A')) (g3 : W2.grownBy W3 (some hb)) (hz : hb < base) : OwnFs W3 base B c rs :=
  ⟨h.own.past hb1 ho n1 hg g3 hz, fun r hr => ⟨(h.each r hr).1.past hb1 ho n2 hg g3 hz, (h.each r hr).2.past hb1 ho n3 hg g3 hz⟩, h.dis⟩
theorem kxS_P {α : Type} {x : KX α} {r : RowX α} {q : Nat} (hr : r ∈ x.P) (h : blk r.A = some q) : q ∈ kxS x := List.mem_append.2 (.inr (List.mem_append.2 (.inr (List.mem_flatMap.2 ⟨r, hr, by rw [h]; simp⟩))))
theorem bkS_y {x : BX} {hb q : Nat} (h : q ∈ kxS x.y) : q ∈ bkS x hb := bkS_K.2 (.inr (.inl h))
theorem bkS_i {x : BX} {hb q : Nat} (h : q ∈ kxS x.i) : q ∈ bkS x hb := bkS_K.2 (.inr (.inr (.inl h)))
theorem bkS_s {x : BX} {hb q : Nat} (h : q ∈ kxS x.s) : q ∈ bkS x hb := bkS_K.2 (.inr (.inr (.inr (.inl h))))
theorem bkS_f {x : BX} {hb q : Nat} (h : q ∈ kxS x.f) : q ∈ bkS x hb := bkS_K.2 (.inr (.inr (.inr (.inr (.inl h)))))
theorem bkS_d {x : BX} {hb q : Nat} (h : q ∈ kxS x.d) : q ∈ bkS x hb := bkS_K.2 (.inr (.inr (.inr (.inr (.inr (.inl h))))))
theorem ownFs_apart {W : World} {base c i : Nat} {B : Option Addr} {rs : List Rw} {r s : Rw} (O : OwnFs W base B c rs) (hr : rs[i]? = some r) (hs : s ∈ rs.take i) : (∀ q, blk s.X = some q → blk r.X ≠ some q) ∧ ∀ q, blk s.Y = some q → blk r.Y ≠ some q := by
  obtain ⟨j, hj⟩ := List.mem_iff_getElem?.1 hs
  have hjl := (List.getElem?_eq_some_iff.1 hj).1
  rw [List.length_take] at hjl
  rw [List.getElem?_take_of_lt (by omega)] at hj
  have hi := (List.getElem?_eq_some_iff.1 hr)
  have hj' := (List.getElem?_eq_some_iff.1 hj)
  have := List.pairwise_iff_getElem.1 O.dis j i hj'.1 hi.1 (by omega)
  rw [hj'.2, hi.2] at this
  exact this
theorem mapTake {α β : Type} {l : List α} {f : α → β} {i : Nat} {r : α} (h : l[i]? = some r) : (l.take i).map f ++ [f r] = (l.take (i + 1)).map f := by
  rw [List.take_add_one, h]; simp
structure FL where
  k : Nat
  L : Option Addr
  cL : Nat
  M : Option Addr
  cM : Nat
  F : List Nat
def flX (x : BX) (rs : List Rw) (u : FL) : BX := { x with s := { x.s with L := u.L, cL := u.cL, P := x.s.P ++ (rs.take u.k).map slR }, i := { x.i with L := u.M, cL := u.cM, P := x.i.P ++ (rs.take u.k).map inR } }
structure FLi (w : World) (base hb : Nat) (F K : List Nat) (x : BX) (t : WX) (B : Option Addr) (cB : Nat) (rs : List Rw) (u : FL) (W : World) : Prop where
  k : u.k ≤ rs.length
  f : Fh hb F w W
  a : ∀ q ∈ F, q ∈ u.F
  b : ∀ q ∈ u.F, q ∈ F ∨ w.heap.size ≤ q
  T : Tn W base hb u.F K (flX x rs u) t
  O : OwnFs W base B cB rs
set_option maxRecDepth 100000 in
set_option maxHeartbeats 4000000 in
theorem flushes84_any {w : World} {base hb n : Nat} {F K : List Nat} {x : BX} {t : WX} (T : Tn w base hb F K x t) (Z : Sz x t n) (hn : n ≤ 1000000000) {B : Option Addr} {cB : Nat} {rs : List Rw} (O : OwnFs w base B cB rs) (hF : ∀ q, (blk B = some q ∨ ∃ r ∈ rs, blk r.X = some q ∨ blk r.Y = some q) → q ∈ F ∧ q ∉ bkS x hb) (hrl : rs.length ≤ 1048576) (hsz : ∀ r ∈ rs, r.f.slots.length ≤ 1048576 ∧ r.f.have_.length ≤ 1048576) {U : Option Addr} {cU : Nat} {ws : List Rw} (hw : WasF w (F ++ K) U ws) (he : ws.map Rw.f = rs.map Rw.f) :
    Calls Try.prog 84 #[.pointer (some ⟨hb, 0, none⟩), .slice B rs.length cB, .slice U ws.length cU] w fun e w' => e = .returned (.tuple #[]) ∧ Mo w base hb F K (n + rs.length + 1) w' := by
  have hli := Z.li
  have hls := Z.ls
  have hlf := Z.lf
  have hnf := Z.nf
  have hz := T.B.hz
  refine calls_vc tab_ok Try.func84 rfl ?_
  repeat ((conv => whnf); first | (refine VCmp.tt (by omega) ?_) | (refine VCmp.ff (by omega) ?_) | (refine VIn.mk (IntWalk.i64_in _ (by omega)) ?_) | (refine VIdx.mk _ rfl (by omega) ?_) | (refine VIdx.mk 0 rfl (by omega) ?_))
  try (conv => whnf)
  refine VLoop.mk FL (fun u => [(0, .pointer (some ⟨hb, 0, none⟩)), (1, .slice B rs.length cB), (2, .slice U ws.length cU), (6, .int .i64 u.k)]) (FLi w base hb F K x t B cB rs) (fun u => rs.length - u.k) ⟨0, x.s.L, x.s.cL, x.i.L, x.i.cL, F⟩ ⟨rfl, rfl, rfl, rfl, trivial⟩ ⟨Nat.zero_le _, Fh.refl _ _ _, fun q hq => hq, fun q hq => .inl hq, by unfold flX; dsimp only; rw [List.take_zero, List.map_nil, List.map_nil, List.append_nil, List.append_nil]; exact T, O⟩ ?_
  rintro ⟨k, L, cL, M, cM, F1⟩ wr ⟨hk, f1, a1, b1, T1, O1⟩
  dsimp only at hk f1 a1 b1 T1 O1 ⊢
  have zw : w.heap.size ≤ wr.heap.size := Fx.size f1
  by_cases hkl : k < rs.length
  case pos =>
    obtain ⟨r, hri⟩ : ∃ r, rs[k]? = some r := ⟨_, List.getElem?_eq_getElem hkl⟩
    have hrm := List.mem_of_getElem? hri
    obtain ⟨gB, hgB, _⟩ := O1.own.cell len_eRw hri
    subst hgB
    have hsP : (x.s.P ++ (rs.take k).map slR).length = x.s.P.length + k := by rw [List.length_append, List.length_map, List.length_take]; omega
    have hiP : (x.i.P ++ (rs.take k).map inR).length = x.i.P.length + k := by rw [List.length_append, List.length_map, List.length_take]; omega
    repeat ((conv => whnf); first | (refine VCmp.tt (by omega) ?_) | (refine VCmp.ff (by omega) ?_) | (refine VIn.mk (IntWalk.i64_in _ (by omega)) ?_) | (refine VIdx.mk _ rfl (by omega) ?_) | (refine VIdx.mk 0 rfl (by omega) ?_))
    try (conv => whnf)
    -- kind s
    have bd : Below wr.heap.size wr wr.drew := (Below.refl _ _).drew
    have Td := T1.below bd
    have hbz := Td.B.z
    have Od := O1.own.keep bd fun k hk => (O1.own.lo k hk).2
    obtain ⟨g', e', hcB⟩ := Od.cell len_eRw hri
    injection e' with e'
    injection e' with e'
    subst e'
    have L1 : Ld Try.prog 100 hb 4 (D2 hb gB 4 (k * 7 + 5) (.slice L (x.s.P ++ (rs.take k).map slR).length cL) (.slice r.X r.f.slots.length r.cX)) (.slice L (x.s.P ++ (rs.take k).map slR).length cL) := ⟨fun W hW => load_cell (by kernel_rfl) hW.1⟩
    have L2 : Ld Try.prog 36 gB (0 + k * 7 + 5) (D2 hb gB 4 (k * 7 + 5) (.slice L (x.s.P ++ (rs.take k).map slR).length cL) (.slice r.X r.f.slots.length r.cX)) (.slice r.X r.f.slots.length r.cX) := ⟨fun W hW => by rw [Nat.zero_add]; exact load_cell (by kernel_rfl) hW.2⟩
    have hCd : D2 hb gB 4 (k * 7 + 5) (.slice L (x.s.P ++ (rs.take k).map slR).length cL) (.slice r.X r.f.slots.length r.cX) wr.drew := ⟨Td.B.r 4 _ rfl, hcB 5 _ rfl⟩
    have gBlo := O1.own.lo gB rfl
    refine VDraw.mk 14 [([0, 1, 2, 3, 4, 5, 6, 7, 8, 9], 10), ([], 11), ([12, 13], 14)] [] (D2 hb gB 4 (k * 7 + 5) (.slice L (x.s.P ++ (rs.take k).map slR).length cL) (.slice r.X r.f.slots.length r.cX)) (by kernel_rfl) (by kernel_rfl) (hCd) ?_
    repeat ((conv => whnf); first | (refine VLoad.mk _ L1 ?_) | (refine VLoad.mk _ L2 ?_) | (refine VCmp.tt (by omega) ?_) | (refine VCmp.ff (by omega) ?_) | (refine VIn.mk (IntWalk.i64_in _ (by omega)) ?_) | (refine VIdx.mk _ rfl (by omega) ?_) | (refine VIdx.mk 0 rfl (by omega) ?_))
    try (conv => whnf)
    refine VBs.mk _ _ (bs100 wr.drew r.X r.f.slots.length r.cX) ?_
    have c1 : Below wr.drew.heap.size wr.drew (wr.drew.alloc (.cells #[.slice r.X r.f.slots.length r.cX] 36)) := (Below.refl _ _).alloc (Nat.le_refl _) _
    have hr1 := row_new wr.drew 36 1 eTr (rowT (slR r)) #[.slice r.X r.f.slots.length r.cX] rfl
    have zd : wr.drew.heap.size = wr.heap.size := rfl
    generalize wr.drew.alloc (.cells #[.slice r.X r.f.slots.length r.cX] 36) = w1 at c1 hr1 ⊢
    have z1 := c1.size
    have hl1 := Td.B.s.l.keep c1 fun k hk => (Td.B.s.l.lo k hk).2
    have hC1 : D2 hb gB 4 (k * 7 + 5) (.slice L (x.s.P ++ (rs.take k).map slR).length cL) (.slice r.X r.f.slots.length r.cX) w1 := ⟨(c1.cell (p := ⟨hb, 4, none⟩) (by show hb < _; omega)).trans hCd.1, (c1.cell (p := ⟨gB, k * 7 + 5, none⟩) (by show gB < _; omega)).trans hCd.2⟩
    repeat ((conv => whnf); first | (refine VS.mk hC1 ?_) | (refine VCmp.tt (by omega) ?_) | (refine VCmp.ff (by omega) ?_) | (refine VIn.mk (IntWalk.i64_in _ (by omega)) ?_) | (refine VIdx.mk _ rfl (by omega) ?_) | (refine VIdx.mk 0 rfl (by omega) ?_))
    try (conv => whnf)
    refine VApp.rows base 1 24 _ Try.underlying100 info36z rfl (by decide) eTr len_eTr one_eTr ((x.s.P ++ (rs.take k).map slR).map rowT) [rowT (slR r)] (by rw [List.length_map]) rfl hl1 hr1 (by omega) (by omega) (by omega) fun Ls cLs w2 ho2 hg2 hk2 => ?_
    have hs2 : ∀ q, q < wr.heap.size → blk L ≠ some q → w2.heap[q]? = wr.heap[q]? := fun q h1 h2 => (hg2.block q (by omega) (fun e => h2 e.symm)).trans (c1.block q (by omega))
    have hne : blk L ≠ some gB := fun e => by
      rcases Td.B.s.l.ne Od (by decide) with e1 | e1
      · exact absurd (e1.symm.trans e) (by simp)
      · exact e1 e
    have hnb : blk L ≠ some hb := fun e => by have := (Td.B.s.l.lo hb e).1; omega
    have hC2 : D2 hb gB 4 (k * 7 + 5) (.slice L (x.s.P ++ (rs.take k).map slR).length cL) (.slice r.X r.f.slots.length r.cX) w2 := ⟨(World.cell?_of_block (a := ⟨hb, 4, none⟩) (hs2 hb (by omega) hnb)).trans hCd.1, (World.cell?_of_block (a := ⟨gB, k * 7 + 5, none⟩) (hs2 gB gBlo.2 hne)).trans hCd.2⟩
    have t2 := there_same T1.B.t (hs2 hb (by omega) hnb)
    repeat ((conv => whnf); first | (refine VS.mk hC2 ?_) | (refine VCmp.tt (by omega) ?_) | (refine VCmp.ff (by omega) ?_) | (refine VIn.mk (IntWalk.i64_in _ (by omega)) ?_) | (refine VIdx.mk _ rfl (by omega) ?_) | (refine VIdx.mk 0 rfl (by omega) ?_))
    try (conv => whnf)
    refine VStore.cell (by kernel_rfl) (t2 4 (by omega)).1 (t2 4 (by omega)).2 rfl rfl fun w3 hw3 => ?_
    have g3 : w2.grownBy w3 (some hb) := by rw [hw3.out]; exact grown_cell _ _ _ _
    have bd1 : Below wr.heap.size wr w1 := bd.trans c1
    obtain ⟨F3, f3, i3, j3, T3⟩ := Td.push_s (r := slR r) c1 ((O1.each r hrm).1.keep bd fun k hk => ((O1.each r hrm).1.lo k hk).2) (fun q hq => by
      have h2 : blk r.X = some q := hq
      exact a1 q (hF q (.inr ⟨r, hrm, (.inl h2)⟩)).1) (fun y hy q h1 h2 => by
      rcases List.mem_append.1 hy with hy | hy
      · have h2 : blk r.X = some q := h2
        exact (hF q (.inr ⟨r, hrm, (.inl h2)⟩)).2 (bkS_s (kxS_P hy h1))
      · obtain ⟨s, hs, rfl⟩ := List.mem_map.1 hy
        exact (ownFs_apart O1 hri hs).1 q h1 h2) rfl ho2 hg2 hk2 hw3.out
    have O3 := O1.past bd1 hl1 (by decide) (by decide) (by decide) hg2 g3 hz
    repeat ((conv => whnf); first | (refine VS.last rfl ?_) | (refine VCmp.tt (by omega) ?_) | (refine VCmp.ff (by omega) ?_) | (refine VIn.mk (IntWalk.i64_in _ (by omega)) ?_) | (refine VIdx.mk _ rfl (by omega) ?_) | (refine VIdx.mk 0 rfl (by omega) ?_))
    try (conv => whnf)
    clear hC2 hC1 hCd hw3 t2 hs2 ho2 hg2 hk2 hl1 hr1 c1 L1 L2 bd bd1 Od g3 hne hnb hcB Td
    have z3 := Fx.size f3
    have z3' : wr.drew.heap.size = wr.heap.size := rfl
    repeat ((conv => whnf); first | (refine VCmp.tt (by omega) ?_) | (refine VCmp.ff (by omega) ?_) | (refine VIn.mk (IntWalk.i64_in _ (by omega)) ?_) | (refine VIdx.mk _ rfl (by omega) ?_) | (refine VIdx.mk 0 rfl (by omega) ?_))
    try (conv => whnf)
    -- kind i
    have bd : Below w3.heap.size w3 w3.drew := (Below.refl _ _).drew
    have Td := T3.below bd
    have hbz := Td.B.z
    have Od := O3.own.keep bd fun k hk => (O3.own.lo k hk).2
    obtain ⟨g', e', hcB⟩ := Od.cell len_eRw hri
    injection e' with e'
    injection e' with e'
    subst e'
    have L1 : Ld Try.prog 99 hb 2 (D2 hb gB 2 (k * 7 + 6) (.slice M (x.i.P ++ (rs.take k).map inR).length cM) (.slice r.Y r.f.have_.length r.cY)) (.slice M (x.i.P ++ (rs.take k).map inR).length cM) := ⟨fun W hW => load_cell (by kernel_rfl) hW.1⟩
    have L2 : Ld Try.prog 37 gB (0 + k * 7 + 6) (D2 hb gB 2 (k * 7 + 6) (.slice M (x.i.P ++ (rs.take k).map inR).length cM) (.slice r.Y r.f.have_.length r.cY)) (.slice r.Y r.f.have_.length r.cY) := ⟨fun W hW => by rw [Nat.zero_add]; exact load_cell (by kernel_rfl) hW.2⟩
    have hCd : D2 hb gB 2 (k * 7 + 6) (.slice M (x.i.P ++ (rs.take k).map inR).length cM) (.slice r.Y r.f.have_.length r.cY) w3.drew := ⟨Td.B.r 2 _ rfl, hcB 6 _ rfl⟩
    have gBlo := O3.own.lo gB rfl
    refine VDraw.mk 14 [([0, 1, 2, 3, 4, 5, 6, 7, 8, 9], 10), ([], 11), ([12, 13], 14)] [] (D2 hb gB 2 (k * 7 + 6) (.slice M (x.i.P ++ (rs.take k).map inR).length cM) (.slice r.Y r.f.have_.length r.cY)) (by kernel_rfl) (by kernel_rfl) (hCd) ?_
    repeat ((conv => whnf); first | (refine VLoad.mk _ L1 ?_) | (refine VLoad.mk _ L2 ?_) | (refine VCmp.tt (by omega) ?_) | (refine VCmp.ff (by omega) ?_) | (refine VIn.mk (IntWalk.i64_in _ (by omega)) ?_) | (refine VIdx.mk _ rfl (by omega) ?_) | (refine VIdx.mk 0 rfl (by omega) ?_))
    try (conv => whnf)
    refine VBs.mk _ _ (bs99 w3.drew r.Y r.f.have_.length r.cY) ?_
    have c1 : Below w3.drew.heap.size w3.drew (w3.drew.alloc (.cells #[.slice r.Y r.f.have_.length r.cY] 37)) := (Below.refl _ _).alloc (Nat.le_refl _) _
    have hr1 := row_new w3.drew 37 1 eTr (rowT (inR r)) #[.slice r.Y r.f.have_.length r.cY] rfl
    have zd : w3.drew.heap.size = w3.heap.size := rfl
    generalize w3.drew.alloc (.cells #[.slice r.Y r.f.have_.length r.cY] 37) = w1 at c1 hr1 ⊢
    have z1 := c1.size
    have hl1 := Td.B.i.l.keep c1 fun k hk => (Td.B.i.l.lo k hk).2
    have hC1 : D2 hb gB 2 (k * 7 + 6) (.slice M (x.i.P ++ (rs.take k).map inR).length cM) (.slice r.Y r.f.have_.length r.cY) w1 := ⟨(c1.cell (p := ⟨hb, 2, none⟩) (by show hb < _; omega)).trans hCd.1, (c1.cell (p := ⟨gB, k * 7 + 6, none⟩) (by show gB < _; omega)).trans hCd.2⟩
    repeat ((conv => whnf); first | (refine VS.mk hC1 ?_) | (refine VCmp.tt (by omega) ?_) | (refine VCmp.ff (by omega) ?_) | (refine VIn.mk (IntWalk.i64_in _ (by omega)) ?_) | (refine VIdx.mk _ rfl (by omega) ?_) | (refine VIdx.mk 0 rfl (by omega) ?_))
    try (conv => whnf)
    refine VApp.rows base 1 24 _ Try.underlying99 info37z rfl (by decide) eTr len_eTr one_eTr ((x.i.P ++ (rs.take k).map inR).map rowT) [rowT (inR r)] (by rw [List.length_map]) rfl hl1 hr1 (by omega) (by omega) (by omega) fun Li cLi w2 ho2 hg2 hk2 => ?_
    have hs2 : ∀ q, q < w3.heap.size → blk M ≠ some q → w2.heap[q]? = w3.heap[q]? := fun q h1 h2 => (hg2.block q (by omega) (fun e => h2 e.symm)).trans (c1.block q (by omega))
    have hne : blk M ≠ some gB := fun e => by
      rcases Td.B.i.l.ne Od (by decide) with e1 | e1
      · exact absurd (e1.symm.trans e) (by simp)
      · exact e1 e
    have hnb : blk M ≠ some hb := fun e => by have := (Td.B.i.l.lo hb e).1; omega
    have hC2 : D2 hb gB 2 (k * 7 + 6) (.slice M (x.i.P ++ (rs.take k).map inR).length cM) (.slice r.Y r.f.have_.length r.cY) w2 := ⟨(World.cell?_of_block (a := ⟨hb, 2, none⟩) (hs2 hb (by omega) hnb)).trans hCd.1, (World.cell?_of_block (a := ⟨gB, k * 7 + 6, none⟩) (hs2 gB gBlo.2 hne)).trans hCd.2⟩
    have t2 := there_same T3.B.t (hs2 hb (by omega) hnb)
    repeat ((conv => whnf); first | (refine VS.mk hC2 ?_) | (refine VCmp.tt (by omega) ?_) | (refine VCmp.ff (by omega) ?_) | (refine VIn.mk (IntWalk.i64_in _ (by omega)) ?_) | (refine VIdx.mk _ rfl (by omega) ?_) | (refine VIdx.mk 0 rfl (by omega) ?_))
    try (conv => whnf)
    refine VStore.cell (by kernel_rfl) (t2 2 (by omega)).1 (t2 2 (by omega)).2 rfl rfl fun w5 hw3 => ?_
    have g3 : w2.grownBy w5 (some hb) := by rw [hw3.out]; exact grown_cell _ _ _ _
    have bd1 : Below w3.heap.size w3 w1 := bd.trans c1
    obtain ⟨F5, f5, i5, j5, T5⟩ := Td.push_i (r := inR r) c1 ((O3.each r hrm).2.keep bd fun k hk => ((O3.each r hrm).2.lo k hk).2) (fun q hq => by
      have h2 : blk r.Y = some q := hq
      exact (fun q hq => i3 q (a1 q hq)) q (hF q (.inr ⟨r, hrm, (.inr h2)⟩)).1) (fun y hy q h1 h2 => by
      rcases List.mem_append.1 hy with hy | hy
      · have h2 : blk r.Y = some q := h2
        exact (hF q (.inr ⟨r, hrm, (.inr h2)⟩)).2 (bkS_i (kxS_P hy h1))
      · obtain ⟨s, hs, rfl⟩ := List.mem_map.1 hy
        exact (ownFs_apart O3 hri hs).2 q h1 h2) rfl ho2 hg2 hk2 hw3.out
    have O5 := O3.past bd1 hl1 (by decide) (by decide) (by decide) hg2 g3 hz
    repeat ((conv => whnf); first | (refine VS.last rfl ?_) | (refine VCmp.tt (by omega) ?_) | (refine VCmp.ff (by omega) ?_) | (refine VIn.mk (IntWalk.i64_in _ (by omega)) ?_) | (refine VIdx.mk _ rfl (by omega) ?_) | (refine VIdx.mk 0 rfl (by omega) ?_))
    try (conv => whnf)
    have z5 := Fx.size f5
    obtain ⟨f15, i15, j15⟩ := fh2 f1 ((Fh.below (hb := hb) (F := F1) ((Below.refl wr.heap.size wr).drew)).trans f3 fun q hq => .inl hq) a1 i3 b1 (fun q hq => j3 q hq)
    obtain ⟨f16, i16, j16⟩ := fh2 f15 ((Fh.below (hb := hb) (F := F3) ((Below.refl w3.heap.size w3).drew)).trans f5 fun q hq => .inl hq) i15 i5 j15 (fun q hq => j5 q hq)
    refine .mk ⟨k + 1, Ls, cLs, Li, cLi, F5⟩ ⟨rfl, rfl, rfl, rfl, trivial⟩ ⟨hkl, f16, i16, j16, ?_, O5⟩ (by show _ - (k + 1) < _ - k; omega)
    unfold flX
    dsimp only
    rw [← mapTake hri, ← mapTake hri, ← List.append_assoc, ← List.append_assoc]
    exact T5
  case neg =>
    have hke : k = rs.length := by omega
    subst hke
    -- region: rows of kind K get one more
    have L1 : Ld Try.prog 101 hb 6 (Eq wr) (.slice x.f.L x.f.P.length x.f.cL) := .of (load_cell (by kernel_rfl) (T1.B.r 6 _ rfl))
    repeat ((conv => whnf); first | (refine VLoad.mk _ L1 ?_) | (refine VCmp.tt (by omega) ?_) | (refine VCmp.ff (by omega) ?_) | (refine VIn.mk (IntWalk.i64_in _ (by omega)) ?_) | (refine VIdx.mk _ rfl (by omega) ?_) | (refine VIdx.mk 0 rfl (by omega) ?_))
    try (conv => whnf)
    refine VBs.mk _ _ (bs101 wr (⟨B, cB, rs⟩ : RowX Rw).A (⟨B, cB, rs⟩ : RowX Rw).l.length (⟨B, cB, rs⟩ : RowX Rw).c) ?_
    have c1 : Below wr.heap.size wr (wr.alloc (.cells #[.slice (⟨B, cB, rs⟩ : RowX Rw).A (⟨B, cB, rs⟩ : RowX Rw).l.length (⟨B, cB, rs⟩ : RowX Rw).c] 22)) := (Below.refl _ _).alloc (Nat.le_refl _) _
    have hr1 := row_new wr 22 1 eTr (rowT (⟨B, cB, rs⟩ : RowX Rw)) #[.slice (⟨B, cB, rs⟩ : RowX Rw).A (⟨B, cB, rs⟩ : RowX Rw).l.length (⟨B, cB, rs⟩ : RowX Rw).c] rfl
    generalize wr.alloc (.cells #[.slice (⟨B, cB, rs⟩ : RowX Rw).A (⟨B, cB, rs⟩ : RowX Rw).l.length (⟨B, cB, rs⟩ : RowX Rw).c] 22) = w1 at c1 hr1 ⊢
    have z1 := c1.size
    have hz := T1.B.hz
    have hbz := T1.B.z
    have hl1 := T1.B.f.l.keep c1 fun k hk => (T1.B.f.l.lo k hk).2
    repeat ((conv => whnf); first | (refine VCmp.tt (by omega) ?_) | (refine VCmp.ff (by omega) ?_) | (refine VIn.mk (IntWalk.i64_in _ (by omega)) ?_) | (refine VIdx.mk _ rfl (by omega) ?_) | (refine VIdx.mk 0 rfl (by omega) ?_))
    try (conv => whnf)
    refine VApp.rows base 1 24 _ Try.underlying101 info22z rfl (by decide) eTr len_eTr one_eTr (x.f.P.map rowT) [rowT (⟨B, cB, rs⟩ : RowX Rw)] (by rw [List.length_map]) rfl hl1 hr1 (by omega) (by omega) (by omega) fun L2 cL2 w2 ho2 hg2 hk2 => ?_
    have hs2 : w2.heap[hb]? = wr.heap[hb]? := (hg2.block hb (by omega) (fun e => by have := (hl1.lo hb e.symm).1; omega)).trans (c1.block hb (by omega))
    have t2 := there_same T1.B.t hs2
    repeat ((conv => whnf); first | (refine VCmp.tt (by omega) ?_) | (refine VCmp.ff (by omega) ?_) | (refine VIn.mk (IntWalk.i64_in _ (by omega)) ?_) | (refine VIdx.mk _ rfl (by omega) ?_) | (refine VIdx.mk 0 rfl (by omega) ?_))
    try (conv => whnf)
    refine VStore.cell (by kernel_rfl) (t2 6 (by omega)).1 (t2 6 (by omega)).2 rfl rfl fun w3 hw3 => ?_
    obtain ⟨F3, f3, i3, j3, T3⟩ := T1.push_f (r := ⟨B, cB, rs⟩) (fun y hy => by
      unfold flX
      dsimp only
      rw [List.take_length]
      exact ⟨List.mem_append.2 (.inr (List.mem_map.2 ⟨y, hy, rfl⟩)), List.mem_append.2 (.inr (List.mem_map.2 ⟨y, hy, rfl⟩))⟩) c1 O1.own (fun q hq => a1 q (hF q (.inl hq)).1) (fun y hy q h1 h2 => (hF q (.inl h2)).2 (bkS_f (kxS_P hy h1))) rfl ho2 hg2 hk2 hw3.out
    have hw1 : WasF wr (F1 ++ K) U ws := (hw.more (moreK b1)).fx f1 (fun q hq => List.mem_append.2 (.inl (a1 q (List.mem_filter.1 hq).1)))
    have hw3' : WasF w3 (F3 ++ K) U ws := (hw1.more (moreK j3)).fx f3 (fun q hq => List.mem_append.2 (.inl (i3 q (List.mem_filter.1 hq).1)))
    clear hw3 t2 hs2 ho2 hg2 hk2 hl1 hr1 c1 L1 z1 hz hbz
    have hws : ws.length = rs.length := by have := congrArg List.length he; simpa using this
    -- region: what the document said gets one more
    have L1 : Ld Try.prog 101 hb 12 (Eq w3) (.slice t.WF t.fw.length t.cWF) := .of (load_cell (by kernel_rfl) (T3.B.r 12 _ rfl))
    repeat ((conv => whnf); first | (refine VLoad.mk _ L1 ?_) | (refine VCmp.tt (by omega) ?_) | (refine VCmp.ff (by omega) ?_) | (refine VIn.mk (IntWalk.i64_in _ (by omega)) ?_) | (refine VIdx.mk _ rfl (by omega) ?_) | (refine VIdx.mk 0 rfl (by omega) ?_))
    try (conv => whnf)
    refine VBs.mk _ _ (bs101 w3 U ws.length cU) ?_
    have c1 : Below w3.heap.size w3 (w3.alloc (.cells #[.slice U ws.length cU] 22)) := (Below.refl _ _).alloc (Nat.le_refl _) _
    have hr1 := row_new w3 22 1 eTr (U, ws.length, cU) #[.slice U ws.length cU] rfl
    generalize w3.alloc (.cells #[.slice U ws.length cU] 22) = w1 at c1 hr1 ⊢
    have z1 := c1.size
    have hz := T3.B.hz
    have hbz := T3.B.z
    have hl1 := T3.W.wf.keep c1 fun k hk => (T3.W.wf.lo k hk).2
    repeat ((conv => whnf); first | (refine VCmp.tt (by omega) ?_) | (refine VCmp.ff (by omega) ?_) | (refine VIn.mk (IntWalk.i64_in _ (by omega)) ?_) | (refine VIdx.mk _ rfl (by omega) ?_) | (refine VIdx.mk 0 rfl (by omega) ?_))
    try (conv => whnf)
    refine VApp.rows base 1 24 _ Try.underlying101 info22z rfl (by decide) eTr len_eTr one_eTr t.fw [(U, ws.length, cU)] rfl rfl hl1 hr1 (by omega) (by omega) (by omega) fun L2 cL2 w2 ho2 hg2 hk2 => ?_
    have hs2 : w2.heap[hb]? = w3.heap[hb]? := (hg2.block hb (by omega) (fun e => by have := (hl1.lo hb e.symm).1; omega)).trans (c1.block hb (by omega))
    have t2 := there_same T3.B.t hs2
    repeat ((conv => whnf); first | (refine VCmp.tt (by omega) ?_) | (refine VCmp.ff (by omega) ?_) | (refine VIn.mk (IntWalk.i64_in _ (by omega)) ?_) | (refine VIdx.mk _ rfl (by omega) ?_) | (refine VIdx.mk 0 rfl (by omega) ?_))
    try (conv => whnf)
    refine VStore.cell (by kernel_rfl) (t2 12 (by omega)).1 (t2 12 (by omega)).2 rfl rfl fun w4 hw3 => ?_
    obtain ⟨F4, f4, i4, j4, T4⟩ := T3.put_WF (u := (U, ws.length, cU)) (r := ⟨B, cB, rs⟩) (ws := ws) (by show (x.f.P ++ [_])[t.fw.length]? = _; rw [hnf, List.getElem?_append_right (Nat.le_refl _), Nat.sub_self]; rfl) hw3' he rfl c1 rfl ho2 hg2 hk2 hw3.out
    repeat ((conv => whnf); first | (refine VCmp.tt (by omega) ?_) | (refine VCmp.ff (by omega) ?_) | (refine VIn.mk (IntWalk.i64_in _ (by omega)) ?_) | (refine VIdx.mk _ rfl (by omega) ?_) | (refine VIdx.mk 0 rfl (by omega) ?_))
    try (conv => whnf)
    obtain ⟨f13, i13, j13⟩ := fh2 f1 f3 a1 i3 b1 j3
    obtain ⟨f14, i14, j14⟩ := fh2 f13 f4 i13 i4 j13 j4
    have hlen : ∀ {α : Type} (l : List α) (g : Rw → α) , (l ++ (rs.take rs.length).map g).length = l.length + rs.length := fun l g => by rw [List.take_length, List.length_append, List.length_map]
    refine .mk ⟨rfl, ⟨_, _, _, f14, i14, j14, T4, ⟨Z.by', fun s hs => ?_, fun s hs => ?_, fun s hs => ?_, Z.bd, Nat.le_trans Z.ly (by omega), ?_, ?_, ?_, Nat.le_trans Z.ld (by omega), Nat.le_trans Z.lp (by omega), Z.m, ?_, Z.nd, Z.np⟩⟩⟩
    · have hs : s ∈ x.i.P ++ (rs.take rs.length).map inR := hs
      rw [List.take_length] at hs
      rcases List.mem_append.1 hs with h1 | h1
      · exact Z.bi s h1
      · obtain ⟨y, hy, rfl⟩ := List.mem_map.1 h1; exact (hsz y hy).2
    · have hs : s ∈ x.s.P ++ (rs.take rs.length).map slR := hs
      rw [List.take_length] at hs
      rcases List.mem_append.1 hs with h1 | h1
      · exact Z.bs s h1
      · obtain ⟨y, hy, rfl⟩ := List.mem_map.1 h1; exact (hsz y hy).1
    · have hs : s ∈ x.f.P ++ [⟨B, cB, rs⟩] := hs
      rcases List.mem_append.1 hs with h1 | h1
      · exact Z.bf s h1
      · obtain rfl := List.mem_singleton.1 h1; show rs.length ≤ _; omega
    · show (x.i.P ++ (rs.take rs.length).map inR).length ≤ _; rw [hlen]; omega
    · show (x.s.P ++ (rs.take rs.length).map slR).length ≤ _; rw [hlen]; omega
    · show (x.f.P ++ [_]).length ≤ _; rw [List.length_append]; show x.f.P.length + 1 ≤ _; omega
    · show (t.fw ++ [_]).length = (x.f.P ++ [_]).length; rw [List.length_append, List.length_append, hnf]; rfl
end Go.Proofs.Ytcffhfcjfjfokaa
