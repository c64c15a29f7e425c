/- What the program's sound answers, for every content. -/
import Derived.Test.YtcffhfcjfjfokaaKeys
namespace Go.Proofs.Ytcffhfcjfjfokaa
open Go.RowKit
set_option maxHeartbeats 2000000 in
theorem isound_no (f : Fl) (A B : Option Addr) (cA cB : Nat) (w : World)
    (hl1 : f.slots.length ≤ 9223372036854775807) (hl2 : f.have_.length ≤ 9223372036854775807) (hd : ¬ SoundHead f) :
    Calls Try.prog 115 #[.agg (flc f.e f.l f.i f.c f.base A f.slots.length cA B f.have_.length cB)] w fun x w' => x = .returned (.bool (soundB f)) ∧ Below w.heap.size w w' := by
  replace hd := Lib.hid hd
  go_enter Try.func115, Try.ntmps115
  go_wp2_with (first | (go_at_call 118; refine (whole_any _ _ _ _ _).mono ?_; rintro e w' ⟨rfl, hbw⟩; rw [World.size_alloc] at hbw; obtain ⟨hb0, hc, -, hsz⟩ := box1_facts hbw))
  all_goals first | (go_ret; go_light; exact ⟨ret_bool (sound_head hd.out), hb0⟩) | (exfalso; exact hd.out ⟨by assumption, by assumption, by assumption, by omega, by assumption, by omega⟩)
/-- What the map of those seen holds behind k slots. -/
structure SeenTo (l : List (Int × Int)) (k : Nat) (F : Int × Int → Option Int) : Prop where
  pos : ∀ s v, F s = some v → 1 ≤ v ∧ ∃ j, j < k ∧ l[j]? = some s
  all : ∀ j s, j < k → l[j]? = some s → F s ≠ none
theorem seenTo_zero (l : List (Int × Int)) : SeenTo l 0 (fun _ => none) := ⟨(by intro s v h; cases h), (by intro j s hj; omega)⟩
theorem seenTo_succ {l : List (Int × Int)} {k : Nat} {F : Int × Int → Option Int} (h : SeenTo l k F) {s : Int × Int} (hs : l[k]? = some s) : SeenTo l (k + 1) (fun y => if y = s then some ((k : Int) + 1) else F y) := by
  constructor
  · intro y v hy
    by_cases hys : y = s
    · simp only [if_pos hys] at hy; cases hy; exact ⟨by omega, k, by omega, by rw [hys]; exact hs⟩
    · simp only [if_neg hys] at hy
      obtain ⟨a, j, hj, e⟩ := h.pos y v hy
      exact ⟨a, j, by omega, e⟩
  · intro j y hj hy
    by_cases hys : y = s
    · simp [if_pos hys]
    · simp only [if_neg hys]
      have : j ≠ k := by rintro rfl; rw [hs] at hy; cases hy; exact hys rfl
      exact h.all j y (by omega) hy
set_option maxRecDepth 100000 in
set_option maxHeartbeats 4000000 in
theorem isound_yes (f : Fl) (A B : Option Addr) (cA cB N : Nat) (w : World) (hN : N ≤ w.heap.size)
    (hA : RowAt w N 2 eSlot A f.slots) (hB : RowAt w N 1 eInt B f.have_) (hd : SoundHead f) :
    Calls Try.prog 115 #[.agg (flc f.e f.l f.i f.c f.base A f.slots.length cA B f.have_.length cB)] w fun x w' => x = .returned (.bool (soundB f)) ∧ Below w.heap.size w w' := by
  have hd' := Lib.hid hd
  have hmm := @run_makeMap Try.prog
  obtain ⟨h1, h2, h3, h4, h5, h6⟩ := hd
  go_enter Try.func115, Try.ntmps115
  go_wp2_with (first | (go_at_call 118; refine (whole_any _ _ _ _ _).mono ?_; rintro e w' ⟨rfl, hbw⟩; rw [World.size_alloc] at hbw; obtain ⟨hb0, hc, -, hsz⟩ := box1_facts hbw))
  go_loopw [45] (fun k wr => ∃ q : Nat, k = .int .i64 q ∧ q ≤ f.have_.length ∧ upto (fun x => 0 ≤ x ∧ x ≤ 4611686018427387904) f.have_ q ∧ w' = wr) (fun k _ => f.have_.length - (intOf k).toNat)
  case atStart => exact ⟨0, rfl, by omega, upto_zero _ _, rfl⟩
  case round =>
    obtain ⟨q, rfl, hq, hup, rfl⟩ := hrel
    by_cases hlt : q < f.have_.length
    · obtain ⟨g, o, x, rfl, hg, hx, hk⟩ := (hB.below hb0 hN).int hlt
      clear hA hB
      by_cases hbad : x < 0 ∨ 4611686018427387904 < x
      · have HB := Lib.hid hbad
        clear hbad
        go_wp2
        all_goals first | (go_ret; go_light; exact ⟨ret_bool (unsound_have hx.out HB.out), hb0⟩) | (exfalso; have := HB.out; omega)
      · have hb1 : 0 ≤ x := by omega
        have hb2 : x ≤ 4611686018427387904 := by omega
        clear hbad
        go_wp2
        go_roundw
        case rel => go_light; exact ⟨q + 1, by go_num, by omega, upto_succ hup (fun z hz => by rw [hx.out] at hz; cases hz; exact ⟨hb1, hb2⟩), trivial⟩
        case measure => go_light; simp [intOf]; omega
    · go_wp2
      have Hq : Hid (q = f.have_.length) := by show q = _; omega
      clear hlt hq
      have hm0 : MapsTo (w'.alloc (.map #[] 0)) Try.prog 66 w'.heap.size 0 vSlot vInt (fun _ => none) := mapsTo_made _ _ _ _ _
      have hB0 : Below (w.heap.size + 1) (box1 w (flc f.e f.l f.i f.c f.base A f.slots.length cA B f.have_.length cB) 39) (w'.alloc (.map #[] 0)) := hbw.alloc (by omega) _
      obtain ⟨bm, hbm⟩ : ∃ bm, bm = w'.heap.size := ⟨_, rfl⟩
      have hbl : w.heap.size + 1 ≤ bm := by omega
      rw [← hbm] at hm0 ⊢
      replace hbm := Lib.hid hbm
      clear hb0 hc hsz hbw
      go_loopw [60] (fun k wr => ∃ (p : Nat) (F : Int × Int → Option Int), k = .int .i64 p ∧ p ≤ f.slots.length ∧ upto (slotIn f.have_.length) f.slots p ∧ apartTo f.slots p ∧ SeenTo f.slots p F ∧ MapsTo wr Try.prog 66 bm p vSlot vInt F ∧ Below (w.heap.size + 1) (box1 w (flc f.e f.l f.i f.c f.base A f.slots.length cA B f.have_.length cB) 39) wr) (fun k _ => f.slots.length - (intOf k).toNat)
      case atStart => exact ⟨0, _, rfl, by omega, upto_zero _ _, apartTo_zero _, seenTo_zero _, hm0, hB0⟩
      case round =>
        obtain ⟨p, F, rfl, hp, hup2, hap, hseen, hm, hb⟩ := hrel
        obtain ⟨hb0, hc, -, hsz⟩ := box1_facts hb
        clear hm0 hB0
        by_cases hlt : p < f.slots.length
        · obtain ⟨g, o, x, y, rfl, hg, hx, hk, hk2⟩ := (hA.below hb0 hN).slot hlt
          have hgw : g < wr.heap.size := by omega
          have hbmw : bm < wr.heap.size := hm.lt
          by_cases hbad : slotIn f.have_.length (x, y)
          · have HB := Lib.hid hbad
            obtain ⟨i1, i2, i3, i4⟩ := hbad
            simp only at i1 i2 i3 i4
            have hkey : ∃ l, keyOf Try.prog 66 (vSlot (x, y)) = some l := key_slot x y (WalkArith.wf_i64 (by omega)) (WalkArith.wf_i64 (by omega))
            have hlook := (hm.alloc (.cells #[.int .i64 x, .int .i64 y] 66)).look lawSlot vSlot_inj Try.underlying121 (zero3 _) false (x, y) hkey
            clear hA hB
            cases hF : F (x, y) with
            | none =>
              rw [hF] at hlook
              simp only [vSlot] at hlook
              have HF := Lib.hid hF
              clear hF
              go_wp2_with (at_mapUpdate; refine wpList_put _ rfl (.tmp 90) (.tmp 91) (.tmp 93) 121 rfl 66 3 lawSlot Try.underlying121 bm p vSlot vInt vSlot_inj F rfl ?_ (x, y) ((p : Int) + 1) rfl rfl ?_ ?_)
              · exact hm.alloc _
              · exact hkey
              · intro w2 hm2 hg2
                have hb2 := (hb.alloc (by omega) (.cells #[.int .i64 x, .int .i64 y] 66)).grown hg2 (by simp only [World.size_alloc]; omega) (by intro k hk; cases hk; omega)
                clear hlook hm hb hb0 hc hk hk2 hg2
                go_wp2
                go_roundw
                case rel => go_light; exact ⟨p + 1, _, by go_num, by omega, upto_succ hup2 (fun z hz => by rw [hx.out] at hz; cases hz; exact HB.out), apartTo_succ hap (fun i z hi hz he => hseen.all i z hi hz (by rw [hx.out] at he; cases he; exact HF.out)), seenTo_succ hseen hx.out, hm2, hb2⟩
                case measure => go_light; simp [intOf]; omega
            | some v =>
              obtain ⟨hv1, j, hj, hjs⟩ := hseen.pos _ _ hF
              rw [hF] at hlook
              simp only [vSlot, vInt] at hlook
              have HF := Lib.hid hF
              have HJ := Lib.hid hjs
              clear hF hjs
              go_wp2
              go_ret
              go_light
              exact ⟨ret_bool (unsound_twice hx.out HJ.out hj (slotEq_iff.2 rfl)), hb0.alloc (by omega) _⟩
          · have HB := Lib.hid hbad
            clear hbad
            have HN : ∀ h : 0 ≤ x, x < (f.have_.length : Int) → 1 ≤ y → y ≤ 4611686018427387904 → False := fun a b c d => HB.out ⟨a, b, c, d⟩
            replace HN := Lib.hid HN
            clear hA hB
            go_wp2
            all_goals first | (go_ret; go_light; exact ⟨ret_bool (unsound_slot hx.out HB.out), (hb0.alloc (by omega) _)⟩) | (exfalso; exact HN.out (by assumption) (by assumption) (by assumption) (by omega))
        · go_wp2
          go_ret
          go_light
          exact ⟨ret_bool (sound_all hd'.out (by have := Hq.out; omega) (by omega) hup hup2 hap), hb0⟩
end Go.Proofs.Ytcffhfcjfjfokaa
