/- Sound Uni Joined, joined. -/
import Derived.Deep.LoopGhost
import Derived.StillTailTactics
import Derived.Test.YtcffhfcjfjfokaaSh3
import Derived.Test.YtcffhfcjfjfokaaSh5
import Derived.Test.YtcffhfcjfjfokaaSh15
set_option linter.unusedVariables false
set_option linter.unusedSimpArgs false
/- What the program's sound answers, for every content. -/
namespace Go.Proofs.Ytcffhfcjfjfokaa
open Go.RowKit
set_option maxHeartbeats 2000000 in
theorem isound_no (f : Fl) (A B : Option Addr) (cA cB : Nat) (w : World)
    (hl1 : f.slots.length ≤ 9223372036854775807) (hl2 : f.have_.length ≤ 9223372036854775807) (hd : ¬ SoundHead f) :
    Calls Try.prog 115 #[.agg (flc f.e f.l f.i f.c f.base A f.slots.length cA B f.have_.length cB)] w fun x w' => x = .returned (.bool (soundB f)) ∧ Below w.heap.size w w' := by
  replace hd := Lib.hid hd
  go_enter Try.func115, Try.ntmps115
  go_wp2_with (first | (go_at_call 118; refine (whole_any _ _ _ _ _).mono ?_; rintro e w' ⟨rfl, hbw⟩; rw [World.size_alloc] at hbw; obtain ⟨hb0, hc, -, hsz⟩ := box1_facts hbw))
  all_goals first | (go_ret; go_light; exact ⟨ret_bool (sound_head hd.out), hb0⟩) | (exfalso; exact hd.out ⟨by assumption, by assumption, by assumption, by omega, by assumption, by omega⟩)
/-- What the map of those seen holds behind k slots. -/
structure SeenTo (l : List (Int × Int)) (k : Nat) (F : Int × Int → Option Int) : Prop where
  pos : ∀ s v, F s = some v → 1 ≤ v ∧ ∃ j, j < k ∧ l[j]? = some s
  all : ∀ j s, j < k → l[j]? = some s → F s ≠ none
theorem seenTo_zero (l : List (Int × Int)) : SeenTo l 0 (fun _ => none) := ⟨(by intro s v h; cases h), (by intro j s hj; omega)⟩
theorem seenTo_succ {l : List (Int × Int)} {k : Nat} {F : Int × Int → Option Int} (h : SeenTo l k F) {s : Int × Int} (hs : l[k]? = some s) : SeenTo l (k + 1) (fun y => if y = s then some ((k : Int) + 1) else F y) := by
  constructor
  · intro y v hy
    by_cases hys : y = s
    · simp only [if_pos hys] at hy; cases hy; exact ⟨by omega, k, by omega, by rw [hys]; exact hs⟩
    · simp only [if_neg hys] at hy
      obtain ⟨a, j, hj, e⟩ := h.pos y v hy
      exact ⟨a, j, by omega, e⟩
  · intro j y hj hy
    by_cases hys : y = s
    · simp [if_pos hys]
    · simp only [if_neg hys]
      have : j ≠ k := by rintro rfl; rw [hs] at hy; cases hy; exact hys rfl
      exact h.all j y (by omega) hy
set_option maxRecDepth 100000 in
set_option maxHeartbeats 4000000 in
theorem isound_yes (f : Fl) (A B : Option Addr) (cA cB N : Nat) (w : World) (hN : N ≤ w.heap.size)
    (hA : RowAt w N 2 eSlot A f.slots) (hB : RowAt w N 1 eInt B f.have_) (hd : SoundHead f) :
    Calls Try.prog 115 #[.agg (flc f.e f.l f.i f.c f.base A f.slots.length cA B f.have_.length cB)] w fun x w' => x = .returned (.bool (soundB f)) ∧ Below w.heap.size w w' := by
  have hd' := Lib.hid hd
  have hmm := @run_makeMap Try.prog
  obtain ⟨h1, h2, h3, h4, h5, h6⟩ := hd
  go_enter Try.func115, Try.ntmps115
  go_wp2_with (first | (go_at_call 118; refine (whole_any _ _ _ _ _).mono ?_; rintro e w' ⟨rfl, hbw⟩; rw [World.size_alloc] at hbw; obtain ⟨hb0, hc, -, hsz⟩ := box1_facts hbw))
  go_loopw [45] (fun k wr => ∃ q : Nat, k = .int .i64 q ∧ q ≤ f.have_.length ∧ upto (fun x => 0 ≤ x ∧ x ≤ 4611686018427387904) f.have_ q ∧ w' = wr) (fun k _ => f.have_.length - (intOf k).toNat)
  case atStart => exact ⟨0, rfl, by omega, upto_zero _ _, rfl⟩
  case round =>
    obtain ⟨q, rfl, hq, hup, rfl⟩ := hrel
    by_cases hlt : q < f.have_.length
    · obtain ⟨g, o, x, rfl, hg, hx, hk⟩ := (hB.below hb0 hN).int hlt
      clear hA hB
      by_cases hbad : x < 0 ∨ 4611686018427387904 < x
      · have HB := Lib.hid hbad
        clear hbad
        go_wp2
        all_goals first | (go_ret; go_light; exact ⟨ret_bool (unsound_have hx.out HB.out), hb0⟩) | (exfalso; have := HB.out; omega)
      · have hb1 : 0 ≤ x := by omega
        have hb2 : x ≤ 4611686018427387904 := by omega
        clear hbad
        go_wp2
        go_roundw
        case rel => go_light; exact ⟨q + 1, by go_num, by omega, upto_succ hup (fun z hz => by rw [hx.out] at hz; cases hz; exact ⟨hb1, hb2⟩), trivial⟩
        case measure => go_light; simp [intOf]; omega
    · go_wp2
      have Hq : Hid (q = f.have_.length) := by show q = _; omega
      clear hlt hq
      have hm0 : MapsTo (w'.alloc (.map #[] 0)) Try.prog 66 w'.heap.size 0 vSlot vInt (fun _ => none) := mapsTo_made _ _ _ _ _
      have hB0 : Below (w.heap.size + 1) (box1 w (flc f.e f.l f.i f.c f.base A f.slots.length cA B f.have_.length cB) 39) (w'.alloc (.map #[] 0)) := hbw.alloc (by omega) _
      obtain ⟨bm, hbm⟩ : ∃ bm, bm = w'.heap.size := ⟨_, rfl⟩
      have hbl : w.heap.size + 1 ≤ bm := by omega
      rw [← hbm] at hm0 ⊢
      replace hbm := Lib.hid hbm
      clear hb0 hc hsz hbw
      go_loopw [60] (fun k wr => ∃ (p : Nat) (F : Int × Int → Option Int), k = .int .i64 p ∧ p ≤ f.slots.length ∧ upto (slotIn f.have_.length) f.slots p ∧ apartTo f.slots p ∧ SeenTo f.slots p F ∧ MapsTo wr Try.prog 66 bm p vSlot vInt F ∧ Below (w.heap.size + 1) (box1 w (flc f.e f.l f.i f.c f.base A f.slots.length cA B f.have_.length cB) 39) wr) (fun k _ => f.slots.length - (intOf k).toNat)
      case atStart => exact ⟨0, _, rfl, by omega, upto_zero _ _, apartTo_zero _, seenTo_zero _, hm0, hB0⟩
      case round =>
        obtain ⟨p, F, rfl, hp, hup2, hap, hseen, hm, hb⟩ := hrel
        obtain ⟨hb0, hc, -, hsz⟩ := box1_facts hb
        clear hm0 hB0
        by_cases hlt : p < f.slots.length
        · obtain ⟨g, o, x, y, rfl, hg, hx, hk, hk2⟩ := (hA.below hb0 hN).slot hlt
          have hgw : g < wr.heap.size := by omega
          have hbmw : bm < wr.heap.size := hm.lt
          by_cases hbad : slotIn f.have_.length (x, y)
          · have HB := Lib.hid hbad
            obtain ⟨i1, i2, i3, i4⟩ := hbad
            simp only at i1 i2 i3 i4
            have hkey : ∃ l, keyOf Try.prog 66 (vSlot (x, y)) = some l := key_slot x y (WalkArith.wf_i64 (by omega)) (WalkArith.wf_i64 (by omega))
            have hlook := (hm.alloc (.cells #[.int .i64 x, .int .i64 y] 66)).look lawSlot vSlot_inj Try.underlying121 (zero3 _) false (x, y) hkey
            clear hA hB
            cases hF : F (x, y) with
            | none =>
              rw [hF] at hlook
              simp only [vSlot] at hlook
              have HF := Lib.hid hF
              clear hF
              go_wp2_with (at_mapUpdate; refine wpList_put _ rfl (.tmp 90) (.tmp 91) (.tmp 93) 121 rfl 66 3 lawSlot Try.underlying121 bm p vSlot vInt vSlot_inj F rfl ?_ (x, y) ((p : Int) + 1) rfl rfl ?_ ?_)
              · exact hm.alloc _
              · exact hkey
              · intro w2 hm2 hg2
                have hb2 := (hb.alloc (by omega) (.cells #[.int .i64 x, .int .i64 y] 66)).grown hg2 (by simp only [World.size_alloc]; omega) (by intro k hk; cases hk; omega)
                clear hlook hm hb hb0 hc hk hk2 hg2
                go_wp2
                go_roundw
                case rel => go_light; exact ⟨p + 1, _, by go_num, by omega, upto_succ hup2 (fun z hz => by rw [hx.out] at hz; cases hz; exact HB.out), apartTo_succ hap (fun i z hi hz he => hseen.all i z hi hz (by rw [hx.out] at he; cases he; exact HF.out)), seenTo_succ hseen hx.out, hm2, hb2⟩
                case measure => go_light; simp [intOf]; omega
            | some v =>
              obtain ⟨hv1, j, hj, hjs⟩ := hseen.pos _ _ hF
              rw [hF] at hlook
              simp only [vSlot, vInt] at hlook
              have HF := Lib.hid hF
              have HJ := Lib.hid hjs
              clear hF hjs
              go_wp2
              go_ret
              go_light
              exact ⟨ret_bool (unsound_twice hx.out HJ.out hj (slotEq_iff.2 rfl)), hb0.alloc (by omega) _⟩
          · have HB := Lib.hid hbad
            clear hbad
            have HN : ∀ h : 0 ≤ x, x < (f.have_.length : Int) → 1 ≤ y → y ≤ 4611686018427387904 → False := fun a b c d => HB.out ⟨a, b, c, d⟩
            replace HN := Lib.hid HN
            clear hA hB
            go_wp2
            all_goals first | (go_ret; go_light; exact ⟨ret_bool (unsound_slot hx.out HB.out), (hb0.alloc (by omega) _)⟩) | (exfalso; exact HN.out (by assumption) (by assumption) (by assumption) (by omega))
        · go_wp2
          go_ret
          go_light
          exact ⟨ret_bool (sound_all hd'.out (by have := Hq.out; omega) (by omega) hup hup2 hap), hb0⟩
end Go.Proofs.Ytcffhfcjfjfokaa
/- What the program's joined keeps while it goes through the contents: who knows which slot where, and the memory in which that stands. -/
namespace Go.Proofs.Ytcffhfcjfjfokaa
open Go.RowKit

/-- The slot is known at the position by the first q contents, or by the first j slots of the q-th. -/
def KnownUp (fs : List Fl) (q j : Nat) (pos : Int) (s : Int × Int) : Prop := ∃ (i : Nat) (g : Fl) (k : Nat), fs[i]? = some g ∧ g.slots[k]? = some s ∧ pos = g.base + 1 + k ∧ (i < q ∨ (i = q ∧ k < j))
/-- The two maps say just that. -/
def Inv (fs : List Fl) (q j : Nat) (F : Int → Option (Int × Int)) (G : Int × Int → Option Int) : Prop := ∀ pos s, (F pos = some s ↔ KnownUp fs q j pos s) ∧ (G s = some pos ↔ KnownUp fs q j pos s)

theorem inv_zero (fs : List Fl) : Inv fs 0 0 (fun _ => none) (fun _ => none) := by
  intro pos s
  have h : ¬ KnownUp fs 0 0 pos s := by rintro ⟨i, g, k, _, _, _, h⟩; omega
  exact ⟨⟨fun x => (by cases x), fun x => absurd x h⟩, ⟨fun x => (by cases x), fun x => absurd x h⟩⟩
theorem up_next {fs : List Fl} {q : Nat} {f : Fl} (hf : fs[q]? = some f) {pos : Int} {s : Int × Int} : KnownUp fs q f.slots.length pos s ↔ KnownUp fs (q + 1) 0 pos s := by
  constructor
  · rintro ⟨i, g, k, h1, h2, h3, h4⟩; exact ⟨i, g, k, h1, h2, h3, by omega⟩
  · rintro ⟨i, g, k, h1, h2, h3, h4⟩
    refine ⟨i, g, k, h1, h2, h3, ?_⟩
    by_cases hi : i = q
    · subst hi; rw [hf] at h1; cases h1
      right; exact ⟨rfl, (List.getElem?_eq_some_iff.1 h2).1⟩
    · left; omega
theorem inv_next {fs : List Fl} {q : Nat} {f : Fl} (hf : fs[q]? = some f) {F : Int → Option (Int × Int)} {G : Int × Int → Option Int} (h : Inv fs q f.slots.length F G) : Inv fs (q + 1) 0 F G :=
  fun pos s => ⟨(h pos s).1.trans (up_next hf), (h pos s).2.trans (up_next hf)⟩
theorem up_put {fs : List Fl} {q j : Nat} {f : Fl} (hf : fs[q]? = some f) {s : Int × Int} (hs : f.slots[j]? = some s) {p : Int} {t : Int × Int} : KnownUp fs q (j + 1) p t ↔ KnownUp fs q j p t ∨ (p = f.base + 1 + j ∧ t = s) := by
  constructor
  · rintro ⟨i, g, k, h1, h2, h3, h4⟩
    by_cases hk : i = q ∧ k = j
    · obtain ⟨rfl, rfl⟩ := hk
      rw [hf] at h1; cases h1; rw [hs] at h2; cases h2
      right; exact ⟨h3, rfl⟩
    · left; exact ⟨i, g, k, h1, h2, h3, by omega⟩
  · rintro (⟨i, g, k, h1, h2, h3, h4⟩ | ⟨rfl, rfl⟩)
    · exact ⟨i, g, k, h1, h2, h3, by omega⟩
    · exact ⟨q, f, j, hf, hs, rfl, by omega⟩
theorem inv_put {fs : List Fl} {q j : Nat} {f : Fl} {F : Int → Option (Int × Int)} {G : Int × Int → Option Int} (h : Inv fs q j F G) (hf : fs[q]? = some f) {s : Int × Int} (hs : f.slots[j]? = some s) {pos : Int} (hp : pos = f.base + 1 + j)
    (hF : F pos = none ∨ F pos = some s) (hG : G s = none ∨ G s = some pos) : Inv fs q (j + 1) (fun y => if y = pos then some s else F y) (fun y => if y = s then some pos else G y) := by
  subst hp
  intro p t
  rw [up_put hf hs]
  constructor
  · constructor
    · intro hx
      by_cases hpp : p = f.base + 1 + j
      · simp only [if_pos hpp] at hx; cases hx; exact .inr ⟨hpp, rfl⟩
      · simp only [if_neg hpp] at hx; exact .inl ((h p t).1.1 hx)
    · rintro (hx | ⟨rfl, rfl⟩)
      · have := (h p t).1.2 hx
        by_cases hpp : p = f.base + 1 + j
        · subst hpp
          simp only [if_true]
          rcases hF with e | e <;> rw [e] at this <;> cases this
          rfl
        · simp only [if_neg hpp]; exact this
      · simp
  · constructor
    · intro hx
      by_cases hts : t = s
      · simp only [if_pos hts] at hx; cases hx; exact .inr ⟨rfl, hts⟩
      · simp only [if_neg hts] at hx; exact .inl ((h p t).2.1 hx)
    · rintro (hx | ⟨rfl, rfl⟩)
      · have := (h p t).2.2 hx
        by_cases hts : t = s
        · subst hts
          simp only [if_true]
          rcases hG with e | e <;> rw [e] at this <;> cases this
          rfl
        · simp only [if_neg hts]; exact this
      · simp

theorem clash_pos {fs : List Fl} {q j : Nat} {f : Fl} {F : Int → Option (Int × Int)} {G : Int × Int → Option Int} (h : Inv fs q j F G) (hf : fs[q]? = some f) {s t : Int × Int} (hs : f.slots[j]? = some s)
    (hF : F (f.base + 1 + j) = some t) (hne : t ≠ s) : ClashIn fs := by
  obtain ⟨i, g, k, h1, h2, h3, h4⟩ := (h _ t).1.1 hF
  rcases h4 with h4 | ⟨rfl, h4⟩
  · exact ⟨q, i, f, g, h4, hf, h1, j, k, s, t, hs, h2, fun e => hne (e.1 (by omega)).symm⟩
  · rw [hf] at h1; cases h1; omega
theorem clash_slot {fs : List Fl} (hall : ∀ f ∈ fs, Sound f) {q j : Nat} {f : Fl} {F : Int → Option (Int × Int)} {G : Int × Int → Option Int} (h : Inv fs q j F G) (hf : fs[q]? = some f) {s : Int × Int} (hs : f.slots[j]? = some s) {p : Int}
    (hG : G s = some p) (hne : p ≠ f.base + 1 + j) : ClashIn fs := by
  obtain ⟨i, g, k, h1, h2, h3, h4⟩ := (h p s).2.1 hG
  rcases h4 with h4 | ⟨rfl, h4⟩
  · exact ⟨q, i, f, g, h4, hf, h1, j, k, s, s, hs, h2, fun e => hne (by have := e.2 rfl; omega)⟩
  · rw [hf] at h1; cases h1
    exact absurd hs (apart_of_nodup (hall f (List.mem_of_getElem? hf)).nodup (by omega : k ≠ j) h2)
theorem up_all {fs : List Fl} {q : Nat} (hq : fs.length ≤ q) {p : Int} {s : Int × Int} : KnownUp fs q 0 p s ↔ Known fs p s := by
  constructor
  · rintro ⟨i, g, k, h1, h2, h3, _⟩; exact ⟨i, g, k, h1, h2, h3⟩
  · rintro ⟨i, g, k, h1, h2, h3⟩; exact ⟨i, g, k, h1, h2, h3, .inl (by have := (List.getElem?_eq_some_iff.1 h1).1; omega)⟩
theorem calm_of {fs : List Fl} {q : Nat} (hq : fs.length ≤ q) {F : Int → Option (Int × Int)} {G : Int × Int → Option Int} (h : Inv fs q 0 F G) : ¬ ClashIn fs := by
  rintro ⟨i, j, f, g, _, hf, hg, a, b, s, t, hs, ht, hn⟩
  have k1 := (up_all hq).2 ⟨i, f, a, hf, hs, rfl⟩
  have k2 := (up_all hq).2 ⟨j, g, b, hg, ht, rfl⟩
  apply hn
  constructor
  · intro e
    have e1 := (h _ s).1.2 k1
    have e2 := (h _ t).1.2 k2
    rw [show f.base + 1 + (a : Int) = g.base + 1 + (b : Int) by omega, e2] at e1
    exact (Option.some.inj e1).symm
  · intro e
    subst e
    have e1 := (h _ s).2.2 k1
    have e2 := (h _ s).2.2 k2
    rw [e1] at e2
    have := Option.some.inj e2; omega

/-- The memory in which it stands: the union's block, its two maps. -/
structure JW (w wr : World) (args : Array Value) (bu bs bp : Nat) (base cut : Int) (F : Int → Option (Int × Int)) (G : Int × Int → Option Int) : Prop where
  bel : Below (w.heap.size + 1) (box1 w args 22) wr
  ub : wr.heap[bs]? = some (.cells #[.int .i64 base, .int .i64 cut, .map (some bu)] 119 (0, 0))
  mu : ∃ n, MapsTo wr Try.prog 3 bu n vInt vSlot F
  mp : ∃ n, MapsTo wr Try.prog 66 bp n vSlot vInt G
  lou : w.heap.size + 1 ≤ bu
  los : w.heap.size + 1 ≤ bs
  lop : w.heap.size + 1 ≤ bp
  nup : bu ≠ bp
section
variable {w wr w' : World} {args : Array Value} {bu bs bp : Nat} {base cut : Int} {F : Int → Option (Int × Int)} {G : Int × Int → Option Int}
theorem JW.lts (h : JW w wr args bu bs bp base cut F G) : bs < wr.heap.size := (Array.getElem?_eq_some_iff.1 h.ub).1
theorem JW.ltu (h : JW w wr args bu bs bp base cut F G) : bu < wr.heap.size := by obtain ⟨n, m⟩ := h.mu; exact m.lt
theorem JW.ltp (h : JW w wr args bu bs bp base cut F G) : bp < wr.heap.size := by obtain ⟨n, m⟩ := h.mp; exact m.lt
theorem JW.nus (h : JW w wr args bu bs bp base cut F G) : bu ≠ bs := by
  obtain ⟨n, es, clock, m, _⟩ := h.mu
  rintro rfl
  have := h.ub; rw [m] at this; cases this
theorem JW.nps (h : JW w wr args bu bs bp base cut F G) : bp ≠ bs := by
  obtain ⟨n, es, clock, m, _⟩ := h.mp
  rintro rfl
  have := h.ub; rw [m] at this; cases this
theorem JW.cells (h : JW w wr args bu bs bp base cut F G) : ∀ i, wr.cell? ⟨bs, i, none⟩ = (#[.int .i64 base, .int .i64 cut, .map (some bu)] : Array Value)[i]? := fun i => by
  simp only [World.cell?, h.ub]; rfl
theorem JW.frozen (h : JW w wr args bu bs bp base cut F G) : ∀ i, wr.frozen? ⟨bs, i, none⟩ = false := fun i => by
  simp [World.frozen?, h.ub]
theorem JW.below (h : JW w wr args bu bs bp base cut F G) (hb : Below wr.heap.size wr w') : JW w w' args bu bs bp base cut F G := by
  have hs := h.bel.size
  simp only [World.size_alloc] at hs
  refine ⟨h.bel.trans (hb.mono hs), (hb.block bs h.lts).trans h.ub, ?_, ?_, h.lou, h.los, h.lop, h.nup⟩
  · obtain ⟨n, m⟩ := h.mu; exact ⟨n, m.keep hb m.lt⟩
  · obtain ⟨n, m⟩ := h.mp; exact ⟨n, m.keep hb m.lt⟩
theorem JW.alloc (h : JW w wr args bu bs bp base cut F G) (o : Obj) : JW w (wr.alloc o) args bu bs bp base cut F G := h.below ((Below.refl _ _).alloc (Nat.le_refl _) o)
theorem JW.drew (h : JW w wr args bu bs bp base cut F G) : JW w wr.drew args bu bs bp base cut F G := h.below (Below.drew (Below.refl _ _))
theorem JW.drewN (h : JW w wr args bu bs bp base cut F G) (n : Nat) : JW w (wr.drewN n) args bu bs bp base cut F G := h.below (below_drewN (Below.refl _ _) n)
theorem JW.setBase (h : JW w wr args bu bs bp base cut F G) (b : Int) : JW w (wr.setCell ⟨bs, 0, none⟩ (.int .i64 b)) args bu bs bp b cut F G := by
  refine ⟨h.bel.setCell h.los _, ?_, ?_, ?_, h.lou, h.los, h.lop, h.nup⟩
  · rw [heap_setCell_same wr bs 0 _ 119 _ h.ub]; rfl
  · obtain ⟨n, m⟩ := h.mu; exact ⟨n, m.setCell (by exact fun e => h.nus e.symm) _⟩
  · obtain ⟨n, m⟩ := h.mp; exact ⟨n, m.setCell (by exact fun e => h.nps e.symm) _⟩
theorem JW.setCut (h : JW w wr args bu bs bp base cut F G) (b : Int) : JW w (wr.setCell ⟨bs, 1, none⟩ (.int .i64 b)) args bu bs bp base b F G := by
  refine ⟨h.bel.setCell h.los _, ?_, ?_, ?_, h.lou, h.los, h.lop, h.nup⟩
  · rw [heap_setCell_same wr bs 1 _ 119 _ h.ub]; rfl
  · obtain ⟨n, m⟩ := h.mu; exact ⟨n, m.setCell (by exact fun e => h.nus e.symm) _⟩
  · obtain ⟨n, m⟩ := h.mp; exact ⟨n, m.setCell (by exact fun e => h.nps e.symm) _⟩
theorem JW.putF (h : JW w wr args bu bs bp base cut F G) (hg : wr.grownBy w' (some bu)) {n : Nat} {F' : Int → Option (Int × Int)} (hm : MapsTo w' Try.prog 3 bu n vInt vSlot F') : JW w w' args bu bs bp base cut F' G := by
  have hs := h.bel.size
  simp only [World.size_alloc] at hs
  refine ⟨h.bel.grown hg hs (fun k hk => by cases hk; exact h.lou), (hg.block bs h.lts (fun e => h.nus (by injection e with e; exact e.symm))).trans h.ub, ⟨n, hm⟩, ?_, h.lou, h.los, h.lop, h.nup⟩
  obtain ⟨n, m⟩ := h.mp; exact ⟨n, m.kept hg (fun e => h.nup (by injection e with e; exact e.symm))⟩
theorem JW.putG (h : JW w wr args bu bs bp base cut F G) (hg : wr.grownBy w' (some bp)) {n : Nat} {G' : Int × Int → Option Int} (hm : MapsTo w' Try.prog 66 bp n vSlot vInt G') : JW w w' args bu bs bp base cut F G' := by
  have hs := h.bel.size
  simp only [World.size_alloc] at hs
  refine ⟨h.bel.grown hg hs (fun k hk => by cases hk; exact h.lop), (hg.block bs h.lts (fun e => h.nps (by injection e with e; exact e.symm))).trans h.ub, ?_, ⟨n, hm⟩, h.lou, h.los, h.lop, h.nup⟩
  obtain ⟨n, m⟩ := h.mu; exact ⟨n, m.kept hg (fun e => h.nup (by injection e))⟩
end
theorem jw_start {w wo : World} {args : Array Value} (hb : Below (w.heap.size + 1) (box1 w args 22) wo) :
    JW w (((wo.alloc (.map #[] 0)).alloc (.cells #[.int .i64 0, .int .i64 0, .map (some wo.heap.size)] 119)).alloc (.map #[] 0)) args wo.heap.size (wo.heap.size + 1) (wo.heap.size + 1 + 1) 0 0 (fun _ => none) (fun _ => none) := by
  have hs := hb.size
  simp only [World.size_alloc] at hs
  refine ⟨((hb.alloc hs _).alloc (by simp only [World.size_alloc]; omega) _).alloc (by simp only [World.size_alloc]; omega) _, ?_, ⟨0, ?_⟩, ⟨0, ?_⟩, hs, by omega, by omega, by omega⟩
  · rw [Below.heap_alloc _ _ _ (by simp only [World.size_alloc]; omega)]
    have := heap_alloc_new (wo.alloc (.map #[] 0)) (.cells #[.int .i64 0, .int .i64 0, .map (some wo.heap.size)] 119)
    rw [World.size_alloc] at this; exact this
  · exact ((mapsTo_made wo Try.prog 3 vInt vSlot).alloc _).alloc _
  · have := mapsTo_made ((wo.alloc (.map #[] 0)).alloc (.cells #[.int .i64 0, .int .i64 0, .map (some wo.heap.size)] 119)) Try.prog 66 vSlot vInt
    simp only [World.size_alloc] at this; exact this

end Go.Proofs.Ytcffhfcjfjfokaa
/- What the program's joined answers: the first error, or the union of the contents with its cut. -/
namespace Go.Proofs.Ytcffhfcjfjfokaa
open Go.RowKit
theorem isound_any (f : Fl) (A B : Option Addr) (cA cB N : Nat) (w : World) (hN : N ≤ w.heap.size) (hr : FlRows w N f A cA B cB) :
    Calls Try.prog 115 #[.agg (flc f.e f.l f.i f.c f.base A f.slots.length cA B f.have_.length cB)] w fun x w' => x = .returned (.bool (soundB f)) ∧ Below w.heap.size w w' := by
  have h1 := hr.lenS; have h2 := hr.capS; have h3 := hr.lenH; have h4 := hr.capH
  by_cases hd : SoundHead f
  · exact isound_yes f A B cA cB N w hN hr.slots hr.have_ hd
  · exact isound_no f A B cA cB w (by omega) (by omega) hd
theorem RowAt.keepN {α : Type} {w w' : World} {N sz : Nat} {enc : α → List Value} {A : Option Addr} {l : List α} (h : RowAt w N sz enc A l) (hb : ∀ k, k < N → w'.heap[k]? = w.heap[k]?) : RowAt w' N sz enc A l :=
  h.keep fun b o hlt => World.cell?_of_block (a := ⟨b, o, none⟩) (hb b hlt)
theorem FlRows.keepN {w w' : World} {N : Nat} {f : Fl} {X Y : Option Addr} {cX cY : Nat} (h : FlRows w N f X cX Y cY) (hb : ∀ k, k < N → w'.heap[k]? = w.heap[k]?) : FlRows w' N f X cX Y cY :=
  ⟨h.slots.keepN hb, h.have_.keepN hb, h.lenS, h.capS, h.lenH, h.capH⟩
/-- What joined answers: an error, or where the union stands and what it says. -/
def JoinedPost (fs : List Fl) (w : World) (e : Ending) (w' : World) : Prop := Below w.heap.size w w' ∧
  ((∃ n, e = .returned (.tuple #[.pointer none, .int .i64 n]) ∧ n ≠ 0 ∧ Together fs n) ∨
   (∃ bs bu cut F n, e = .returned (.tuple #[.pointer (some ⟨bs, 0, none⟩), .int .i64 0]) ∧ Together fs 0 ∧ IsCut fs cut ∧ w.heap.size ≤ bs ∧ w.heap.size ≤ bu ∧
     w'.heap[bs]? = some (.cells #[.int .i64 (baseOf fs), .int .i64 cut, .map (some bu)] 119 (0, 0)) ∧ MapsTo w' Try.prog 3 bu n vInt vSlot F ∧ ∀ pos s, F pos = some s ↔ Known fs pos s))
theorem joined_err {fs : List Fl} {w w' : World} {n : Int} (hb : Below w.heap.size w w') (h0 : n ≠ 0) (ht : Together fs n) : JoinedPost fs w (.returned (.tuple #[.pointer none, .int .i64 n])) w' := ⟨hb, .inl ⟨n, rfl, h0, ht⟩⟩
theorem max_int (a b : Int) : (if a < b then b else a) = max a b := by omega
set_option maxRecDepth 100000 in
set_option maxHeartbeats 8000000 in
theorem joined_any (A : Option Addr) (cA N : Nat) (fs : List Fl) (w : World) (hN : N ≤ w.heap.size) (hA : Fls w N A fs) (hl : fs.length ≤ 9223372036854775807) (hne : 0 < fs.length) :
    Calls Try.prog 97 #[.slice A fs.length cA] w (JoinedPost fs w) := by
  have hnv := run_neq_vid
  have hns := run_neq_slot
  have hmm := @run_makeMap Try.prog
  go_enter Try.func97, Try.ntmps97
  go_wp2
  go_loopw [24] (fun k wr => ∃ q : Nat, k = .int .i64 q ∧ q ≤ fs.length ∧ upto Sound fs q ∧ Below (w.heap.size + 1) (box1 w #[.slice A fs.length cA] 22) wr) (fun k _ => fs.length - (intOf k).toNat)
  case atStart => exact ⟨0, rfl, by omega, upto_zero _ _, Below.refl _ _⟩
  case round =>
    obtain ⟨q, rfl, hq, hup, hb⟩ := hrel
    obtain ⟨hb0, hc, -, hsz⟩ := box1_facts hb
    by_cases hlt : q < fs.length
    · obtain ⟨g, o, f, X, cX, Y, cY, rfl, hg, hf, ⟨c0, c1, c2, c3, c4, c5, c6⟩, hr⟩ := (hA.below hb0 hN).at_ hlt
      have hgw : g < wr.heap.size := by omega
      clear hA
      by_cases hs : Sound f
      · have hsb : soundB f = true := soundB_iff.2 hs
        have HS := Lib.hid hs
        clear hs
        go_wp2_with (go_at_call 115; refine (isound_any _ _ _ _ _ N _ (by simp only [World.size_alloc]; omega) (by exact hr.below ((Below.refl N wr).alloc (by omega) _) (Nat.le_refl _))).mono ?_; rintro e w' ⟨rfl, hbw⟩; rw [World.size_alloc] at hbw)
        go_roundw
        case rel => go_light; exact ⟨q + 1, by go_num, by omega, upto_succ hup (fun z hz => by rw [hf.out] at hz; cases hz; exact HS.out), (hb.alloc (by omega) _).trans (hbw.mono (by omega))⟩
        case measure => go_light; simp [intOf]; omega
      · have hsb : soundB f = false := soundB_no.2 hs
        have HS := Lib.hid hs
        clear hs
        go_wp2_with (go_at_call 115; refine (isound_any _ _ _ _ _ N _ (by simp only [World.size_alloc]; omega) (by exact hr.below ((Below.refl N wr).alloc (by omega) _) (Nat.le_refl _))).mono ?_; rintro e w' ⟨rfl, hbw⟩; rw [World.size_alloc] at hbw)
        go_ret2
        go_light
        exact joined_err ((hb0.alloc (by omega) _).trans (hbw.mono (by omega))) (by decide) (.arg ⟨f, List.mem_of_getElem? hf.out, HS.out⟩)
    · go_wp2
      have Hall : ∀ f ∈ fs, Sound f := upto_all hup (by omega)
      replace Hall := Lib.hid Hall
      clear hlt hq hup hb0 hc hsz
      obtain ⟨wo, rfl⟩ : ∃ wo : World, wo = wr := ⟨_, rfl⟩
      go_loopw [34] (fun k wr => ∃ q : Nat, k = .int .i64 q ∧ q ≤ fs.length ∧ upto (fun f => ∀ g, fs[0]? = some g → kinB f g = true) fs q ∧ Below (w.heap.size + 1) (box1 w #[.slice A fs.length cA] 22) wr) (fun k _ => fs.length - (intOf k).toNat)
      case atStart => exact ⟨0, rfl, by omega, upto_zero _ _, hb⟩
      case round =>
        obtain ⟨q, rfl, hq, hup, hb⟩ := hrel
        obtain ⟨hb0, hc, -, hsz⟩ := box1_facts hb
        by_cases hlt : q < fs.length
        · obtain ⟨g, o, f, X, cX, Y, cY, rfl, hg, hf, ⟨c0, c1, c2, c3, c4, c5, c6⟩, hr⟩ := (hA.below hb0 hN).at_ hlt
          obtain ⟨g', o', f0, X0, cX0, Y0, cY0, hgo, hg', hf0, ⟨d0, d1, d2, d3, d4, d5, d6⟩, hr0⟩ := (hA.below hb0 hN).at_ (k := 0) (by omega)
          obtain ⟨rfl, rfl⟩ : g = g' ∧ o = o' := by simpa using hgo
          simp only [Nat.zero_mul, Nat.add_zero] at d0 d1 d2 d3 d4 d5 d6
          have hposi : (0 : Int) < (fs.length : Int) := by omega
          have hgw : g < wr.heap.size := by omega
          clear hA hgo
          by_cases hv : vidEq f.e f.l f.i f.c f0.e f0.l f0.i f0.c = true
          · go_wp2
            go_quiet (fail)
            go_wp2
            · go_ret2
              go_light
              exact joined_err (below_drewN (hb0.alloc (by omega) _) _) (by decide) (.prev Hall.out ⟨f, f0, hf0.out, List.mem_of_getElem? hf.out, by have hh := ‹((f.have_.length : Int) != (f0.have_.length : Int)) = true›; simp at hh; simp [kinB]; intro _; omega⟩)
            · go_roundw
              case rel => go_light; exact ⟨q + 1, by go_num, by omega, upto_succ hup (fun z hz => by rw [hf.out] at hz; cases hz; intro g2 hg2; rw [hf0.out] at hg2; cases hg2; have hh := ‹((f.have_.length : Int) != (f0.have_.length : Int)) = false›; simp at hh; simp [kinB, hv]; omega), below_drewN (hb.alloc (by omega) _) _⟩
              case measure => go_light; simp [intOf]; omega
          · have hv' : vidEq f.e f.l f.i f.c f0.e f0.l f0.i f0.c = false := by simpa using hv
            clear hv
            go_wp2
            go_quiet (fail)
            go_wp2
            go_ret2
            go_light
            exact joined_err (below_drewN (hb0.alloc (by omega) _) _) (by decide) (.prev Hall.out ⟨f, f0, hf0.out, List.mem_of_getElem? hf.out, by simp [kinB, hv']⟩)
        · have Hkin : ∀ f ∈ fs, ∀ g, fs[0]? = some g → kinB f g = true := upto_all hup (by omega)
          replace Hkin := Lib.hid Hkin
          have hz1 : w.heap.size < wr.heap.size + 1 := by omega
          have hz2 : w.heap.size < wr.heap.size + 1 + 1 := by omega
          go_wp2
          have hJ := jw_start hb
          obtain ⟨bu, hbu⟩ : ∃ bu, bu = wr.heap.size := ⟨_, rfl⟩
          obtain ⟨bs, hbs⟩ : ∃ bs, bs = wr.heap.size + 1 := ⟨_, rfl⟩
          obtain ⟨bp, hbp⟩ : ∃ bp, bp = wr.heap.size + 1 + 1 := ⟨_, rfl⟩
          rw [← hbp, ← hbs, ← hbu] at hJ
          rw [← hbp, ← hbs, ← hbu]
          clear hb hb0 hc hsz hlt hq hup hz1 hz2 hbu hbs hbp
          obtain ⟨wo, rfl⟩ : ∃ wo : World, wo = wr := ⟨_, rfl⟩
          go_loopw [63] (fun k wr => ∃ (q : Nat) (F : Int → Option (Int × Int)) (G : Int × Int → Option Int), k = .int .i64 q ∧ q ≤ fs.length ∧ Inv fs q 0 F G ∧ JW w wr #[.slice A fs.length cA] bu bs bp (baseTo fs q) 0 F G) (fun k _ => fs.length - (intOf k).toNat)
          case atStart => exact ⟨0, _, _, rfl, by omega, inv_zero fs, by simpa [baseTo] using hJ⟩
          case round =>
            obtain ⟨q, F, G, rfl, hq, hI, hJ⟩ := hrel
            obtain ⟨hb0, hc, -, hsz⟩ := box1_facts hJ.bel
            have hcs := hJ.cells
            have hfz := hJ.frozen
            have hls := hJ.lts
            have hn0 := baseTo_nonneg fs q
            by_cases hlt : q < fs.length
            · obtain ⟨g, o, f, X, cX, Y, cY, rfl, hg, hf, ⟨c0, c1, c2, c3, c4, c5, c6⟩, hr⟩ := (hA.below hb0 hN).at_ hlt
              have hgw : g < wr.heap.size := by omega
              clear hA
              have hJ1 := hJ.alloc (.cells (flc f.e f.l f.i f.c f.base X f.slots.length cX Y f.have_.length cY) 39)
              have hblk : ∀ i, (wr.alloc (.cells (flc f.e f.l f.i f.c f.base X f.slots.length cX Y f.have_.length cY) 39)).cell? ⟨wr.heap.size, i, none⟩ = (flc f.e f.l f.i f.c f.base X f.slots.length cX Y f.have_.length cY)[i]? := fun i => World.cell?_alloc_at _ _ _ _ rfl
              have hr1 := hr.below ((Below.refl N wr).alloc (by omega) (.cells (flc f.e f.l f.i f.c f.base X f.slots.length cX Y f.have_.length cY) 39)) (Nat.le_refl _)
              have hs1 : wr.heap.size < (wr.alloc (.cells (flc f.e f.l f.i f.c f.base X f.slots.length cX Y f.have_.length cY) 39)).heap.size := by simp
              have hbf : Below wr.heap.size wr (wr.alloc (.cells (flc f.e f.l f.i f.c f.base X f.slots.length cX Y f.have_.length cY) 39)) := (Below.refl _ _).alloc (Nat.le_refl _) _
              have hmx : (if baseTo fs q < f.base then f.base else baseTo fs q) = baseTo fs (q + 1) := (baseTo_succ hf.out).symm
              go_wp2
              generalize wr.alloc (.cells (flc f.e f.l f.i f.c f.base X f.slots.length cX Y f.have_.length cY) 39) = W at hJ1 hblk hr1 hs1 hbf ⊢
              obtain ⟨bf, hbfe⟩ : ∃ bf, bf = wr.heap.size := ⟨_, rfl⟩
              rw [← hbfe] at hblk hs1 ⊢
              replace hbfe := Lib.hid hbfe
              clear hcs hfz hJ hc hr c0 c1 c2 c3 c4 c5 c6
              have hcs := hJ1.cells
              have hfz := hJ1.frozen
              go_still_tail 10, (by kernel_rfl)
              change wpList _ _ _ _ _ W.drew
              go_wp2
              have hJ2 := (hJ1.setBase (baseTo fs (q + 1))).drew
              have hf2 : ∀ i, (W.setCell ⟨bs, 0, none⟩ (.int .i64 (baseTo fs (q + 1)))).drew.cell? ⟨bf, i, none⟩ = (flc f.e f.l f.i f.c f.base X f.slots.length cX Y f.have_.length cY)[i]? := fun i => by
                rw [World.cell?_drew, World.cell?_setCell_other _ _ _ _ (by intro e; injection e with e; have := hls; have := hbfe.out; omega)]; exact hblk i
              have hb2 : Below N W (W.setCell ⟨bs, 0, none⟩ (.int .i64 (baseTo fs (q + 1)))).drew := Below.drew ((Below.refl _ _).setCell (by have := hJ1.los; show N ≤ bs; omega) _)
              have hr2 := hr1.below hb2 (Nat.le_refl _)
              have hs2 : bf < (W.setCell ⟨bs, 0, none⟩ (.int .i64 (baseTo fs (q + 1)))).drew.heap.size := by rw [World.size_drew, World.size_setCell]; exact hs1
              generalize (W.setCell ⟨bs, 0, none⟩ (.int .i64 (baseTo fs (q + 1)))).drew = W2 at hJ2 hf2 hr2 hs2 ⊢
              clear hcs hfz hJ1 hblk hr1 hs1 hb2 hmx hb0 hsz hls
              have hSf := Hall.out f (List.mem_of_getElem? hf.out)
              have hbb0 := hSf.base0
              have hbb1 := hSf.base
              have hbl := hSf.held
              have HSf := Lib.hid hSf
              clear hSf
              go_loopw [80] (fun k wr => ∃ (j : Nat) (F : Int → Option (Int × Int)) (G : Int × Int → Option Int), k = .int .i64 j ∧ j ≤ f.slots.length ∧ Inv fs q j F G ∧ JW w wr #[.slice (some ⟨g, o, none⟩) fs.length cA] bu bs bp (baseTo fs (q + 1)) 0 F G ∧ (∀ i, wr.cell? ⟨bf, i, none⟩ = (flc f.e f.l f.i f.c f.base X f.slots.length cX Y f.have_.length cY)[i]?) ∧ FlRows wr N f X cX Y cY ∧ bf < wr.heap.size) (fun k _ => f.slots.length - (intOf k).toNat)
              case atStart => exact ⟨0, F, G, rfl, by omega, hI, hJ2, hf2, hr2, hs2⟩
              case round =>
                obtain ⟨j, F, G, rfl, hj, hI, hJ, hfc, hr, hbfl⟩ := hrel
                clear hJ2 hf2 hr2 hs2
                by_cases hltj : j < f.slots.length
                · obtain ⟨g1, o1, x, y, rfl, hg1, hx, k1, k2⟩ := hr.slots.slot hltj
                  have hbh := HSf.out.high
                  have hsl := HSf.out.slot (x, y) (List.mem_of_getElem? hx.out)
                  obtain ⟨i1, i2, i3, i4⟩ := hsl
                  simp only at i1 i2 i3 i4
                  have hkey : ∃ l, keyOf Try.prog 66 (vSlot (x, y)) = some l := key_slot x y (WalkArith.wf_i64 (by omega)) (WalkArith.wf_i64 (by omega))
                  have hkeyp : ∃ l, keyOf Try.prog 3 (vInt (f.base + 1 + (j : Int))) = some l := key_int _ (WalkArith.wf_i64 (by omega))
                  obtain ⟨n1, m1⟩ := (hJ.alloc (.cells #[.int .i64 x, .int .i64 y] 66)).mu
                  have hlook := m1.look lawInt vInt_inj Try.underlying117 (zero66 _) true (f.base + 1 + (j : Int)) hkeyp
                  clear m1
                  replace hkey := Lib.hid hkey
                  replace hkeyp := Lib.hid hkeyp
                  have hcw := hJ.cells
                  have hls := hJ.lts
                  have hgw1 : g1 < wr.heap.size := by have := hJ.bel.size; simp only [World.size_alloc] at this; omega
                  have hlou := hJ.lou
                  have hlos := hJ.los
                  have hlop := hJ.lop
                  obtain ⟨b13, hb13⟩ : ∃ b13, b13 = wr.heap.size := ⟨_, rfl⟩
                  replace hb13 := Lib.hid hb13
                  have hltu := hJ.ltu
                  have hltp := hJ.ltp
                  have hne1 : bf ≠ bu := by
                    rintro rfl
                    obtain ⟨n, es, clock, m, _⟩ := hJ.mu
                    have := hfc 0
                    simp [World.cell?, m] at this
                  have hne2 : bf ≠ bp := by
                    rintro rfl
                    obtain ⟨n, es, clock, m, _⟩ := hJ.mp
                    have := hfc 0
                    simp [World.cell?, m] at this
                  cases hF : F (f.base + 1 + (j : Int)) with
                  | none =>
                    have HF := Lib.hid hF
                    rw [hF] at hlook
                    simp only [vInt] at hlook
                    clear hF
                    cases hG : G (x, y) with
                    | none =>
                      have HG := Lib.hid hG
                      obtain ⟨n2, m2⟩ := ((hJ.alloc (.cells #[.int .i64 x, .int .i64 y] 66)).alloc (.cells #[.int .i64 0, .int .i64 0] 66)).mp
                      have hlook2 := m2.look lawSlot vSlot_inj Try.underlying121 (zero3 _) true (x, y) hkey.out
                      clear m2
                      rw [hG] at hlook2
                      simp only [vSlot] at hlook2
                      clear hG
                      have hJ5 := (hJ.alloc (.cells #[.int .i64 x, .int .i64 y] 66)).alloc (.cells #[.int .i64 0, .int .i64 0] 66)
                      have h13 : ∀ i, ((wr.alloc (.cells #[.int .i64 x, .int .i64 y] 66)).alloc (.cells #[.int .i64 0, .int .i64 0] 66)).cell? ⟨b13, i, none⟩ = (#[.int .i64 x, .int .i64 y] : Array Value)[i]? := fun i => by
                        rw [World.cell?_alloc_past _ _ _ (by simp only [World.size_alloc]; have := hb13.out; omega)]
                        exact World.cell?_alloc_at _ _ _ _ hb13.out
                      have hbb : Below wr.heap.size wr ((wr.alloc (.cells #[.int .i64 x, .int .i64 y] 66)).alloc (.cells #[.int .i64 0, .int .i64 0] 66)) := ((Below.refl _ _).alloc (Nat.le_refl _) _).alloc (by simp only [World.size_alloc]; omega) _
                      have hf5 : ∀ i, ((wr.alloc (.cells #[.int .i64 x, .int .i64 y] 66)).alloc (.cells #[.int .i64 0, .int .i64 0] 66)).cell? ⟨bf, i, none⟩ = (flc f.e f.l f.i f.c f.base (some ⟨g1, o1, none⟩) f.slots.length cX Y f.have_.length cY)[i]? := fun i => by
                        rw [hbb.cell (p := ⟨bf, i, none⟩) hbfl]; exact hfc i
                      have hr5 := hr.below hbb (by omega)
                      have hs5 : b13 < ((wr.alloc (.cells #[.int .i64 x, .int .i64 y] 66)).alloc (.cells #[.int .i64 0, .int .i64 0] 66)).heap.size := by simp only [World.size_alloc]; have := hb13.out; omega
                      have hs5' : bf < ((wr.alloc (.cells #[.int .i64 x, .int .i64 y] 66)).alloc (.cells #[.int .i64 0, .int .i64 0] 66)).heap.size := by simp only [World.size_alloc]; omega
                      clear hr hbb
                      go_wp2
                      generalize ((wr.alloc (.cells #[.int .i64 x, .int .i64 y] 66)).alloc (.cells #[.int .i64 0, .int .i64 0] 66)) = W5 at hJ5 h13 hf5 hr5 hs5 hs5' ⊢
                      rw [← hb13.out]
                      have hcs := hJ5.cells
                      clear hlook hlook2 hcw hfc k1 k2
                      go_still_tail 6, (by kernel_rfl)
                      change wpList _ _ _ _ _ W5.drew
                      obtain ⟨n5, m5⟩ := hJ5.drew.mu
                      go_wp2_with (at_mapUpdate; refine wpList_put _ rfl (.tmp 120) (.tmp 121) (.tmp 122) 117 rfl 3 66 lawInt Try.underlying117 bu n5 vInt vSlot vInt_inj F rfl m5 (f.base + 1 + (j : Int)) (x, y) rfl rfl hkeyp.out ?_)
                      intro w6 m6 hg6
                      have hJ6 := hJ5.drew.putF hg6 m6
                      have h6b : ∀ k, k < W5.heap.size → k ≠ bu → w6.heap[k]? = W5.heap[k]? := fun k h1 h2 => hg6.block k h1 (fun e => h2 (by injection e))
                      have h13' : ∀ i, w6.cell? ⟨b13, i, none⟩ = (#[.int .i64 x, .int .i64 y] : Array Value)[i]? := fun i => by
                        rw [World.cell?_of_block (a := ⟨b13, i, none⟩) (h6b b13 (by omega) (by have := hb13.out; omega))]; exact h13 i
                      have hs6 := hg6.size
                      rw [World.size_drew] at hs6
                      obtain ⟨n6, m6'⟩ := hJ6.mp
                      have H6b := Lib.hid h6b
                      clear hcs m5 hg6 m6 h6b
                      go_wp2_with (at_mapUpdate; refine wpList_put _ rfl (.tmp 123) (.tmp 124) (.tmp 125) 121 rfl 66 3 lawSlot Try.underlying121 bp n6 vSlot vInt vSlot_inj G rfl m6' (x, y) (f.base + 1 + (j : Int)) rfl rfl hkey.out ?_)
                      intro w7 m7 hg7
                      have hJ7 := hJ6.putG hg7 m7
                      have h7b : ∀ k, k < W5.heap.size → k ≠ bu → k ≠ bp → w7.heap[k]? = W5.heap[k]? := fun k h1 h2 h3 => (hg7.block k (by omega) (fun e => h3 (by injection e))).trans (H6b.out k h1 h2)
                      have hs7 := hg7.size
                      have H7b := Lib.hid h7b
                      clear m6' hg7 h13' m7 h7b
                      go_wp2
                      go_roundw
                      case rel =>
                        go_light
                        have e13 := hb13.out
                        have hlou := hJ7.lou
                        have hlop := hJ7.lop
                        refine ⟨j + 1, _, _, by go_num, by omega, inv_put hI hf.out hx.out rfl (.inl HF.out) (.inl HG.out), hJ7, fun i => ?_, ?_, by omega⟩
                        · rw [World.cell?_of_block (a := ⟨bf, i, none⟩) (H7b.out bf (by omega) (by omega) (by omega))]; exact hf5 i
                        · exact hr5.keepN (fun k hk => H7b.out k (by omega) (by omega) (by omega))
                      case measure => go_light; simp [intOf]; omega
                    | some p =>
                      have HG := Lib.hid hG
                      obtain ⟨n2, m2⟩ := ((hJ.alloc (.cells #[.int .i64 x, .int .i64 y] 66)).alloc (.cells #[.int .i64 0, .int .i64 0] 66)).mp
                      have hlook2 := m2.look lawSlot vSlot_inj Try.underlying121 (zero3 _) true (x, y) hkey.out
                      clear m2
                      rw [hG] at hlook2
                      simp only [vSlot, vInt] at hlook2
                      clear hG
                      have hpn : (p == f.base + 1 + (j : Int)) = false := by
                        rw [beq_eq_false_iff_ne]; intro e
                        have := (hI _ _).1.2 ((hI _ _).2.1 HG.out)
                        rw [e, HF.out] at this; cases this
                      have HP := Lib.hid hpn
                      have hpn' : ¬ p = f.base + 1 + (j : Int) := by simpa using hpn
                      clear hpn
                      go_wp2
                      go_ret2
                      go_light
                      exact joined_err (((box1_facts hJ.bel).1.alloc (by omega) _).alloc (by simp only [World.size_alloc]; omega) _) (by decide) (.fork Hall.out Hkin.out (clash_slot Hall.out hI hf.out hx.out HG.out hpn'))
                  | some t =>
                    obtain ⟨tx, ty⟩ := t
                    have HF := Lib.hid hF
                    rw [hF] at hlook
                    simp only [vInt, vSlot] at hlook
                    clear hF
                    by_cases ht : slotEq tx ty x y = true
                    · obtain ⟨rfl, rfl⟩ : tx = x ∧ ty = y := by simpa [slotEq] using ht
                      have HG : Hid (G (tx, ty) = some (f.base + 1 + (j : Int))) := (hI _ _).2.2 ((hI _ _).1.1 HF.out)
                      obtain ⟨n2, m2⟩ := ((hJ.alloc (.cells #[.int .i64 tx, .int .i64 ty] 66)).alloc (.cells #[.int .i64 tx, .int .i64 ty] 66)).mp
                      have hlook2 := m2.look lawSlot vSlot_inj Try.underlying121 (zero3 _) true (tx, ty) hkey.out
                      clear m2
                      rw [HG.out] at hlook2
                      simp only [vSlot, vInt] at hlook2
                      have hJ5 := (hJ.alloc (.cells #[.int .i64 tx, .int .i64 ty] 66)).alloc (.cells #[.int .i64 tx, .int .i64 ty] 66)
                      have h13 : ∀ i, ((wr.alloc (.cells #[.int .i64 tx, .int .i64 ty] 66)).alloc (.cells #[.int .i64 tx, .int .i64 ty] 66)).cell? ⟨b13, i, none⟩ = (#[.int .i64 tx, .int .i64 ty] : Array Value)[i]? := fun i => by
                        rw [World.cell?_alloc_past _ _ _ (by simp only [World.size_alloc]; have := hb13.out; omega)]
                        exact World.cell?_alloc_at _ _ _ _ hb13.out
                      have hbb : Below wr.heap.size wr ((wr.alloc (.cells #[.int .i64 tx, .int .i64 ty] 66)).alloc (.cells #[.int .i64 tx, .int .i64 ty] 66)) := ((Below.refl _ _).alloc (Nat.le_refl _) _).alloc (by simp only [World.size_alloc]; omega) _
                      have hf5 : ∀ i, ((wr.alloc (.cells #[.int .i64 tx, .int .i64 ty] 66)).alloc (.cells #[.int .i64 tx, .int .i64 ty] 66)).cell? ⟨bf, i, none⟩ = (flc f.e f.l f.i f.c f.base (some ⟨g1, o1, none⟩) f.slots.length cX Y f.have_.length cY)[i]? := fun i => by
                        rw [hbb.cell (p := ⟨bf, i, none⟩) hbfl]; exact hfc i
                      have hr5 := hr.below hbb (by omega)
                      have hs5 : b13 < ((wr.alloc (.cells #[.int .i64 tx, .int .i64 ty] 66)).alloc (.cells #[.int .i64 tx, .int .i64 ty] 66)).heap.size := by simp only [World.size_alloc]; have := hb13.out; omega
                      have hs5' : bf < ((wr.alloc (.cells #[.int .i64 tx, .int .i64 ty] 66)).alloc (.cells #[.int .i64 tx, .int .i64 ty] 66)).heap.size := by simp only [World.size_alloc]; omega
                      clear hr hbb
                      go_wp2
                      generalize ((wr.alloc (.cells #[.int .i64 tx, .int .i64 ty] 66)).alloc (.cells #[.int .i64 tx, .int .i64 ty] 66)) = W5 at hJ5 h13 hf5 hr5 hs5 hs5' ⊢
                      rw [← hb13.out]
                      have hcs := hJ5.cells
                      clear hlook hlook2 hcw hfc k1 k2
                      go_still_tail 6, (by kernel_rfl)
                      change wpList _ _ _ _ _ W5.drew
                      obtain ⟨n5, m5⟩ := hJ5.drew.mu
                      go_wp2_with (at_mapUpdate; refine wpList_put _ rfl (.tmp 120) (.tmp 121) (.tmp 122) 117 rfl 3 66 lawInt Try.underlying117 bu n5 vInt vSlot vInt_inj F rfl m5 (f.base + 1 + (j : Int)) (tx, ty) rfl rfl hkeyp.out ?_)
                      intro w6 m6 hg6
                      have hJ6 := hJ5.drew.putF hg6 m6
                      have h6b : ∀ k, k < W5.heap.size → k ≠ bu → w6.heap[k]? = W5.heap[k]? := fun k h1 h2 => hg6.block k h1 (fun e => h2 (by injection e))
                      have h13' : ∀ i, w6.cell? ⟨b13, i, none⟩ = (#[.int .i64 tx, .int .i64 ty] : Array Value)[i]? := fun i => by
                        rw [World.cell?_of_block (a := ⟨b13, i, none⟩) (h6b b13 (by omega) (by have := hb13.out; omega))]; exact h13 i
                      have hs6 := hg6.size
                      rw [World.size_drew] at hs6
                      obtain ⟨n6, m6'⟩ := hJ6.mp
                      have H6b := Lib.hid h6b
                      clear hcs m5 hg6 m6 h6b
                      go_wp2_with (at_mapUpdate; refine wpList_put _ rfl (.tmp 123) (.tmp 124) (.tmp 125) 121 rfl 66 3 lawSlot Try.underlying121 bp n6 vSlot vInt vSlot_inj G rfl m6' (tx, ty) (f.base + 1 + (j : Int)) rfl rfl hkey.out ?_)
                      intro w7 m7 hg7
                      have hJ7 := hJ6.putG hg7 m7
                      have h7b : ∀ k, k < W5.heap.size → k ≠ bu → k ≠ bp → w7.heap[k]? = W5.heap[k]? := fun k h1 h2 h3 => (hg7.block k (by omega) (fun e => h3 (by injection e))).trans (H6b.out k h1 h2)
                      have hs7 := hg7.size
                      have H7b := Lib.hid h7b
                      clear m6' hg7 h13' m7 h7b
                      go_wp2
                      go_roundw
                      case rel =>
                        go_light
                        have e13 := hb13.out
                        have hlou := hJ7.lou
                        have hlop := hJ7.lop
                        refine ⟨j + 1, _, _, by go_num, by omega, inv_put hI hf.out hx.out rfl (.inr HF.out) (.inr HG.out), hJ7, fun i => ?_, ?_, by omega⟩
                        · rw [World.cell?_of_block (a := ⟨bf, i, none⟩) (H7b.out bf (by omega) (by omega) (by omega))]; exact hf5 i
                        · exact hr5.keepN (fun k hk => H7b.out k (by omega) (by omega) (by omega))
                      case measure => go_light; simp [intOf]; omega
                    · have ht' : slotEq tx ty x y = false := by simpa using ht
                      have HT := Lib.hid ht'
                      clear ht
                      go_wp2
                      go_ret2
                      go_light
                      exact joined_err (((box1_facts hJ.bel).1.alloc (by omega) _).alloc (by simp only [World.size_alloc]; omega) _) (by decide) (.fork Hall.out Hkin.out (clash_pos hI hf.out hx.out HF.out ((slotEq_no (s := (tx, ty)) (t := (x, y))).1 HT.out)))
                · clear hr
                  go_wp2
                  go_roundw
                  case rel =>
                    go_light
                    have hjl : j = f.slots.length := by omega
                    rw [hjl] at hI
                    exact ⟨q + 1, F, G, by go_num, by omega, inv_next hf.out hI, hJ⟩
                  case measure => go_light; simp [intOf]; omega
            · have hql : fs.length ≤ q := by omega
              have hcalm := calm_of hql hI
              have hfit : Fit fs := ⟨Hall.out, Hkin.out, hcalm⟩
              have hFK : ∀ pos s, F pos = some s ↔ Known fs pos s := fun pos s => (hI pos s).1.trans (up_all hql)
              have HFit := Lib.hid hfit
              have HFK := Lib.hid hFK
              rw [baseTo_all fs hql] at hJ hcs
              have hb00 := base_nonneg fs
              have hb01 := base_le Hall.out
              have hJc := hJ.setCut (baseOf fs)
              clear hcalm hfit hFK hn0 hI
              go_wp2
              generalize wr.setCell ⟨bs, 1, none⟩ (.int .i64 (baseOf fs)) = W9 at hJc ⊢
              clear hJ hcs hfz hls hb0 hc hsz hq hlt hql
              go_loopg [21] 2049 (fun k _ wr => ∃ i : Nat, i + k = 2049 ∧ (∀ p, baseOf fs < p → p ≤ baseOf fs + i → wholeAtB fs (atOf fs p) = true) ∧ JW w wr #[.slice A fs.length cA] bu bs bp (baseOf fs) (baseOf fs + i) F G)
              case atStart => exact ⟨0, by omega, by intro p h1 h2; simp at h2; omega, by simpa using hJc⟩
              case round =>
                obtain ⟨i, hik, hall, hJ⟩ := hrel
                obtain ⟨hi1, hi2⟩ := cut_bound HFit.out hall
                have HAll := Lib.hid hall
                have HIK := Lib.hid hik
                clear hall hik hJc
                obtain ⟨hb0, hc, -, hsz⟩ := box1_facts hJ.bel
                have hcs := hJ.cells
                have hfz := hJ.frozen
                have hls := hJ.lts
                have hkeyp : ∃ l, keyOf Try.prog 3 (vInt (baseOf fs + (i : Int) + 1)) = some l := key_int _ (WalkArith.wf_i64 (by omega))
                obtain ⟨n1, m1⟩ := hJ.mu
                have mA : MapsTo wr.drew Try.prog 3 bu n1 vInt vSlot F := m1
                have mB : MapsTo (wr.alloc (.cells #[.int .i64 0, .int .i64 0] 66)).drew Try.prog 3 bu n1 vInt vSlot F := m1.alloc _
                have hlookA := mA.look lawInt vInt_inj Try.underlying117 (zero66 _) true (baseOf fs + (i : Int) + 1) hkeyp
                have hlookB := mB.look lawInt vInt_inj Try.underlying117 (zero66 _) true (baseOf fs + (i : Int) + 1) hkeyp
                clear m1 mA mB
                cases hF : F (baseOf fs + (i : Int) + 1) with
                | none =>
                  have HF := Lib.hid hF
                  rw [hF] at hlookA hlookB
                  simp only [vInt] at hlookA hlookB
                  clear hF
                  have hJn := (hJ.alloc (.cells #[.int .i64 0, .int .i64 0] 66)).drew
                  have hstop : wholeAtB fs (atOf fs (baseOf fs + (i : Int) + 1)) = false := by
                    rw [← Bool.not_eq_true, whole_iff HFit.out]
                    rintro ⟨s, hs, _⟩
                    rw [(HFK.out _ _).2 hs] at HF; exact absurd HF.out (by simp)
                  have HStop := Lib.hid hstop
                  clear hstop
                  go_wp2
                  go_region
                  all_goals
                    go_wp2
                    go_ret2
                    go_light
                    obtain ⟨n9, m9⟩ := hJn.mu
                    exact ⟨(box1_facts hJn.bel).1, .inr ⟨bs, bu, _, F, n9, rfl, .ok Hall.out Hkin.out HFit.out.calm, ⟨by omega, fun p h1 h2 => HAll.out p h1 h2, HStop.out⟩, by have := hJn.los; omega, by have := hJn.lou; omega, hJn.ub, m9, HFK.out⟩⟩
                | some s =>
                  obtain ⟨x, y⟩ := s
                  have HF := Lib.hid hF
                  rw [hF] at hlookA hlookB
                  simp only [vInt, vSlot] at hlookA hlookB
                  clear hF
                  have hJn := (hJ.alloc (.cells #[.int .i64 x, .int .i64 y] 66)).drew
                  have hKn := (HFK.out _ _).1 HF.out
                  have hsl : 0 ≤ x ∧ ∀ f ∈ fs, x < f.have_.length := by
                    obtain ⟨f, hf, a, b, _⟩ := known_slot HFit.out hKn
                    exact ⟨a, fun g hg => by have := one_len HFit.out hg hf; simp only at b; omega⟩
                  obtain ⟨hs0, hs1⟩ := hsl
                  have HKn := Lib.hid hKn
                  have HS1 := Lib.hid hs1
                  have hc9 : (wr.alloc (.cells #[.int .i64 x, .int .i64 y] 66)).drew.cell? ⟨w.heap.size, 0, none⟩ = some (.slice A fs.length cA) := by
                    rw [World.cell?_drew, World.cell?_alloc_past _ _ _ hsz, hc 0]; rfl
                  have hA9 : Fls (wr.alloc (.cells #[.int .i64 x, .int .i64 y] 66)).drew N A fs := (hA.below hb0 hN).below (Below.drew ((Below.refl N wr).alloc (by omega) _)) (Nat.le_refl _)
                  clear hKn hs1
                  cases hh : hadB fs (x, y) with
                  | true =>
                    have HH := Lib.hid hh
                    clear hh
                    go_wp2
                    go_region
                    all_goals
                      go_wp2_with (go_at_call 116; refine (had_any A cA N w.heap.size fs x y _ (by rw [World.size_drew, World.size_alloc]; omega) hA9 hl (by rw [World.size_drew, World.size_alloc]; omega) hc9 hs0 HS1.out).mono ?_; rintro e w2 ⟨rfl, hbw⟩; rw [HH.out]; have hJ2 := hJn.below hbw; have hcs2 := hJ2.cells; have hfz2 := hJ2.frozen; have hls2 := hJ2.lts)
                      go_roundg (2048 - i)
                      case measure => go_light; have := HIK.out; omega
                      case rel =>
                        go_light
                        have e1 := HIK.out
                        refine ⟨i + 1, by omega, fun p h1 h2 => ?_, by have := hJ2.setCut (baseOf fs + (i : Int) + 1); rw [show baseOf fs + ((i + 1 : Nat) : Int) = baseOf fs + (i : Int) + 1 by omega]; exact this⟩
                        by_cases hp : p ≤ baseOf fs + i
                        · exact HAll.out p h1 hp
                        · have : p = baseOf fs + i + 1 := by omega
                          rw [this]; exact (whole_iff HFit.out).2 ⟨_, HKn.out, HH.out⟩
                  | false =>
                    have HH := Lib.hid hh
                    clear hh
                    have hstop : wholeAtB fs (atOf fs (baseOf fs + (i : Int) + 1)) = false := by
                      rw [← Bool.not_eq_true, whole_iff HFit.out]
                      rintro ⟨s, hs, h2⟩
                      rw [← (known_one HFit.out HKn.out hs).1 rfl, HH.out] at h2; cases h2
                    have HStop := Lib.hid hstop
                    clear hstop
                    go_wp2
                    go_region
                    all_goals
                      go_wp2_with (go_at_call 116; refine (had_any A cA N w.heap.size fs x y _ (by rw [World.size_drew, World.size_alloc]; omega) hA9 hl (by rw [World.size_drew, World.size_alloc]; omega) hc9 hs0 HS1.out).mono ?_; rintro e w2 ⟨rfl, hbw⟩; rw [HH.out]; have hJ2 := hJn.below hbw)
                      go_ret2
                      go_light
                      obtain ⟨n9, m9⟩ := hJ2.mu
                      exact ⟨(box1_facts hJ2.bel).1, .inr ⟨bs, bu, _, F, n9, rfl, .ok Hall.out Hkin.out HFit.out.calm, ⟨by omega, fun p h1 h2 => HAll.out p h1 h2, HStop.out⟩, by have := hJ2.los; omega, by have := hJ2.lou; omega, hJ2.ub, m9, HFK.out⟩⟩
end Go.Proofs.Ytcffhfcjfjfokaa
