/- Joined List Icut, joined. -/
import Derived.Deep.LoopGhost
import Derived.StillTailTactics
import Derived.Test.YtcffhfcjfjfokaaSv5
import Derived.Test.YtcffhfcjfjfokaaSv6
import Derived.Test.YtcffhfcjfjfokaaSv9
set_option linter.unusedVariables false
set_option linter.unusedSimpArgs false
/- What the program's joined answers: the first error, or the union of the contents with its cut. -/
namespace Go.Proofs.Ytcffhfcjfjfokaa
open Go.RowKit
theorem isound_any (f : Fl) (A B : Option Addr) (cA cB N : Nat) (w : World) (hN : N ≤ w.heap.size) (hr : FlRows w N f A cA B cB) :
    Calls Try.prog 115 #[.agg (flc f.e f.l f.i f.c f.base A f.slots.length cA B f.have_.length cB)] w fun x w' => x = .returned (.bool (soundB f)) ∧ Below w.heap.size w w' := by
  have h1 := hr.lenS; have h2 := hr.capS; have h3 := hr.lenH; have h4 := hr.capH
  by_cases hd : SoundHead f
  · exact isound_yes f A B cA cB N w hN hr.slots hr.have_ hd
  · exact isound_no f A B cA cB w (by omega) (by omega) hd
theorem RowAt.keepN {α : Type} {w w' : World} {N sz : Nat} {enc : α → List Value} {A : Option Addr} {l : List α} (h : RowAt w N sz enc A l) (hb : ∀ k, k < N → w'.heap[k]? = w.heap[k]?) : RowAt w' N sz enc A l :=
  h.keep fun b o hlt => World.cell?_of_block (a := ⟨b, o, none⟩) (hb b hlt)
theorem FlRows.keepN {w w' : World} {N : Nat} {f : Fl} {X Y : Option Addr} {cX cY : Nat} (h : FlRows w N f X cX Y cY) (hb : ∀ k, k < N → w'.heap[k]? = w.heap[k]?) : FlRows w' N f X cX Y cY :=
  ⟨h.slots.keepN hb, h.have_.keepN hb, h.lenS, h.capS, h.lenH, h.capH⟩
/-- What joined answers: an error, or where the union stands and what it says. -/
def JoinedPost (fs : List Fl) (w : World) (e : Ending) (w' : World) : Prop := Below w.heap.size w w' ∧
  ((∃ n, e = .returned (.tuple #[.pointer none, .int .i64 n]) ∧ n ≠ 0 ∧ Together fs n) ∨
   (∃ bs bu cut F n, e = .returned (.tuple #[.pointer (some ⟨bs, 0, none⟩), .int .i64 0]) ∧ Together fs 0 ∧ IsCut fs cut ∧ w.heap.size ≤ bs ∧ w.heap.size ≤ bu ∧
     w'.heap[bs]? = some (.cells #[.int .i64 (baseOf fs), .int .i64 cut, .map (some bu)] 119 (0, 0)) ∧ MapsTo w' Try.prog 3 bu n vInt vSlot F ∧ ∀ pos s, F pos = some s ↔ Known fs pos s))
theorem joined_err {fs : List Fl} {w w' : World} {n : Int} (hb : Below w.heap.size w w') (h0 : n ≠ 0) (ht : Together fs n) : JoinedPost fs w (.returned (.tuple #[.pointer none, .int .i64 n])) w' := ⟨hb, .inl ⟨n, rfl, h0, ht⟩⟩
theorem max_int (a b : Int) : (if a < b then b else a) = max a b := by omega
set_option maxRecDepth 100000 in
set_option maxHeartbeats 8000000 in
theorem joined_any (A : Option Addr) (cA N : Nat) (fs : List Fl) (w : World) (hN : N ≤ w.heap.size) (hA : Fls w N A fs) (hl : fs.length ≤ 9223372036854775807) (hne : 0 < fs.length) :
    Calls Try.prog 97 #[.slice A fs.length cA] w (JoinedPost fs w) := by
  have hnv := run_neq_vid
  have hns := run_neq_slot
  have hmm := @run_makeMap Try.prog
  go_enter Try.func97, Try.ntmps97
  go_wp2
  go_loopw [24] (fun k wr => ∃ q : Nat, k = .int .i64 q ∧ q ≤ fs.length ∧ upto Sound fs q ∧ Below (w.heap.size + 1) (box1 w #[.slice A fs.length cA] 22) wr) (fun k _ => fs.length - (intOf k).toNat)
  case atStart => exact ⟨0, rfl, by omega, upto_zero _ _, Below.refl _ _⟩
  case round =>
    obtain ⟨q, rfl, hq, hup, hb⟩ := hrel
    obtain ⟨hb0, hc, -, hsz⟩ := box1_facts hb
    by_cases hlt : q < fs.length
    · obtain ⟨g, o, f, X, cX, Y, cY, rfl, hg, hf, ⟨c0, c1, c2, c3, c4, c5, c6⟩, hr⟩ := (hA.below hb0 hN).at_ hlt
      have hgw : g < wr.heap.size := by omega
      clear hA
      by_cases hs : Sound f
      · have hsb : soundB f = true := soundB_iff.2 hs
        have HS := Lib.hid hs
        clear hs
        go_wp2_with (go_at_call 115; refine (isound_any _ _ _ _ _ N _ (by simp only [World.size_alloc]; omega) (by exact hr.below ((Below.refl N wr).alloc (by omega) _) (Nat.le_refl _))).mono ?_; rintro e w' ⟨rfl, hbw⟩; rw [World.size_alloc] at hbw)
        go_roundw
        case rel => go_light; exact ⟨q + 1, by go_num, by omega, upto_succ hup (fun z hz => by rw [hf.out] at hz; cases hz; exact HS.out), (hb.alloc (by omega) _).trans (hbw.mono (by omega))⟩
        case measure => go_light; simp [intOf]; omega
      · have hsb : soundB f = false := soundB_no.2 hs
        have HS := Lib.hid hs
        clear hs
        go_wp2_with (go_at_call 115; refine (isound_any _ _ _ _ _ N _ (by simp only [World.size_alloc]; omega) (by exact hr.below ((Below.refl N wr).alloc (by omega) _) (Nat.le_refl _))).mono ?_; rintro e w' ⟨rfl, hbw⟩; rw [World.size_alloc] at hbw)
        go_ret2
        go_light
        exact joined_err ((hb0.alloc (by omega) _).trans (hbw.mono (by omega))) (by decide) (.arg ⟨f, List.mem_of_getElem? hf.out, HS.out⟩)
    · go_wp2
      have Hall : ∀ f ∈ fs, Sound f := upto_all hup (by omega)
      replace Hall := Lib.hid Hall
      clear hlt hq hup hb0 hc hsz
      obtain ⟨wo, rfl⟩ : ∃ wo : World, wo = wr := ⟨_, rfl⟩
      go_loopw [34] (fun k wr => ∃ q : Nat, k = .int .i64 q ∧ q ≤ fs.length ∧ upto (fun f => ∀ g, fs[0]? = some g → kinB f g = true) fs q ∧ Below (w.heap.size + 1) (box1 w #[.slice A fs.length cA] 22) wr) (fun k _ => fs.length - (intOf k).toNat)
      case atStart => exact ⟨0, rfl, by omega, upto_zero _ _, hb⟩
      case round =>
        obtain ⟨q, rfl, hq, hup, hb⟩ := hrel
        obtain ⟨hb0, hc, -, hsz⟩ := box1_facts hb
        by_cases hlt : q < fs.length
        · obtain ⟨g, o, f, X, cX, Y, cY, rfl, hg, hf, ⟨c0, c1, c2, c3, c4, c5, c6⟩, hr⟩ := (hA.below hb0 hN).at_ hlt
          obtain ⟨g', o', f0, X0, cX0, Y0, cY0, hgo, hg', hf0, ⟨d0, d1, d2, d3, d4, d5, d6⟩, hr0⟩ := (hA.below hb0 hN).at_ (k := 0) (by omega)
          obtain ⟨rfl, rfl⟩ : g = g' ∧ o = o' := by simpa using hgo
          simp only [Nat.zero_mul, Nat.add_zero] at d0 d1 d2 d3 d4 d5 d6
          have hposi : (0 : Int) < (fs.length : Int) := by omega
          have hgw : g < wr.heap.size := by omega
          clear hA hgo
          by_cases hv : vidEq f.e f.l f.i f.c f0.e f0.l f0.i f0.c = true
          · go_wp2
            go_quiet (fail)
            go_wp2
            · go_ret2
              go_light
              exact joined_err (below_drewN (hb0.alloc (by omega) _) _) (by decide) (.prev Hall.out ⟨f, f0, hf0.out, List.mem_of_getElem? hf.out, by have hh := ‹((f.have_.length : Int) != (f0.have_.length : Int)) = true›; simp at hh; simp [kinB]; intro _; omega⟩)
            · go_roundw
              case rel => go_light; exact ⟨q + 1, by go_num, by omega, upto_succ hup (fun z hz => by rw [hf.out] at hz; cases hz; intro g2 hg2; rw [hf0.out] at hg2; cases hg2; have hh := ‹((f.have_.length : Int) != (f0.have_.length : Int)) = false›; simp at hh; simp [kinB, hv]; omega), below_drewN (hb.alloc (by omega) _) _⟩
              case measure => go_light; simp [intOf]; omega
          · have hv' : vidEq f.e f.l f.i f.c f0.e f0.l f0.i f0.c = false := by simpa using hv
            clear hv
            go_wp2
            go_quiet (fail)
            go_wp2
            go_ret2
            go_light
            exact joined_err (below_drewN (hb0.alloc (by omega) _) _) (by decide) (.prev Hall.out ⟨f, f0, hf0.out, List.mem_of_getElem? hf.out, by simp [kinB, hv']⟩)
        · have Hkin : ∀ f ∈ fs, ∀ g, fs[0]? = some g → kinB f g = true := upto_all hup (by omega)
          replace Hkin := Lib.hid Hkin
          have hz1 : w.heap.size < wr.heap.size + 1 := by omega
          have hz2 : w.heap.size < wr.heap.size + 1 + 1 := by omega
          go_wp2
          have hJ := jw_start hb
          obtain ⟨bu, hbu⟩ : ∃ bu, bu = wr.heap.size := ⟨_, rfl⟩
          obtain ⟨bs, hbs⟩ : ∃ bs, bs = wr.heap.size + 1 := ⟨_, rfl⟩
          obtain ⟨bp, hbp⟩ : ∃ bp, bp = wr.heap.size + 1 + 1 := ⟨_, rfl⟩
          rw [← hbp, ← hbs, ← hbu] at hJ
          rw [← hbp, ← hbs, ← hbu]
          clear hb hb0 hc hsz hlt hq hup hz1 hz2 hbu hbs hbp
          obtain ⟨wo, rfl⟩ : ∃ wo : World, wo = wr := ⟨_, rfl⟩
          go_loopw [63] (fun k wr => ∃ (q : Nat) (F : Int → Option (Int × Int)) (G : Int × Int → Option Int), k = .int .i64 q ∧ q ≤ fs.length ∧ Inv fs q 0 F G ∧ JW w wr #[.slice A fs.length cA] bu bs bp (baseTo fs q) 0 F G) (fun k _ => fs.length - (intOf k).toNat)
          case atStart => exact ⟨0, _, _, rfl, by omega, inv_zero fs, by simpa [baseTo] using hJ⟩
          case round =>
            obtain ⟨q, F, G, rfl, hq, hI, hJ⟩ := hrel
            obtain ⟨hb0, hc, -, hsz⟩ := box1_facts hJ.bel
            have hcs := hJ.cells
            have hfz := hJ.frozen
            have hls := hJ.lts
            have hn0 := baseTo_nonneg fs q
            by_cases hlt : q < fs.length
            · obtain ⟨g, o, f, X, cX, Y, cY, rfl, hg, hf, ⟨c0, c1, c2, c3, c4, c5, c6⟩, hr⟩ := (hA.below hb0 hN).at_ hlt
              have hgw : g < wr.heap.size := by omega
              clear hA
              have hJ1 := hJ.alloc (.cells (flc f.e f.l f.i f.c f.base X f.slots.length cX Y f.have_.length cY) 39)
              have hblk : ∀ i, (wr.alloc (.cells (flc f.e f.l f.i f.c f.base X f.slots.length cX Y f.have_.length cY) 39)).cell? ⟨wr.heap.size, i, none⟩ = (flc f.e f.l f.i f.c f.base X f.slots.length cX Y f.have_.length cY)[i]? := fun i => World.cell?_alloc_at _ _ _ _ rfl
              have hr1 := hr.below ((Below.refl N wr).alloc (by omega) (.cells (flc f.e f.l f.i f.c f.base X f.slots.length cX Y f.have_.length cY) 39)) (Nat.le_refl _)
              have hs1 : wr.heap.size < (wr.alloc (.cells (flc f.e f.l f.i f.c f.base X f.slots.length cX Y f.have_.length cY) 39)).heap.size := by simp
              have hbf : Below wr.heap.size wr (wr.alloc (.cells (flc f.e f.l f.i f.c f.base X f.slots.length cX Y f.have_.length cY) 39)) := (Below.refl _ _).alloc (Nat.le_refl _) _
              have hmx : (if baseTo fs q < f.base then f.base else baseTo fs q) = baseTo fs (q + 1) := (baseTo_succ hf.out).symm
              go_wp2
              generalize wr.alloc (.cells (flc f.e f.l f.i f.c f.base X f.slots.length cX Y f.have_.length cY) 39) = W at hJ1 hblk hr1 hs1 hbf ⊢
              obtain ⟨bf, hbfe⟩ : ∃ bf, bf = wr.heap.size := ⟨_, rfl⟩
              rw [← hbfe] at hblk hs1 ⊢
              replace hbfe := Lib.hid hbfe
              clear hcs hfz hJ hc hr c0 c1 c2 c3 c4 c5 c6
              have hcs := hJ1.cells
              have hfz := hJ1.frozen
              go_still_tail 10, (by kernel_rfl)
              change wpList _ _ _ _ _ W.drew
              go_wp2
              have hJ2 := (hJ1.setBase (baseTo fs (q + 1))).drew
              have hf2 : ∀ i, (W.setCell ⟨bs, 0, none⟩ (.int .i64 (baseTo fs (q + 1)))).drew.cell? ⟨bf, i, none⟩ = (flc f.e f.l f.i f.c f.base X f.slots.length cX Y f.have_.length cY)[i]? := fun i => by
                rw [World.cell?_drew, World.cell?_setCell_other _ _ _ _ (by intro e; injection e with e; have := hls; have := hbfe.out; omega)]; exact hblk i
              have hb2 : Below N W (W.setCell ⟨bs, 0, none⟩ (.int .i64 (baseTo fs (q + 1)))).drew := Below.drew ((Below.refl _ _).setCell (by have := hJ1.los; show N ≤ bs; omega) _)
              have hr2 := hr1.below hb2 (Nat.le_refl _)
              have hs2 : bf < (W.setCell ⟨bs, 0, none⟩ (.int .i64 (baseTo fs (q + 1)))).drew.heap.size := by rw [World.size_drew, World.size_setCell]; exact hs1
              generalize (W.setCell ⟨bs, 0, none⟩ (.int .i64 (baseTo fs (q + 1)))).drew = W2 at hJ2 hf2 hr2 hs2 ⊢
              clear hcs hfz hJ1 hblk hr1 hs1 hb2 hmx hb0 hsz hls
              have hSf := Hall.out f (List.mem_of_getElem? hf.out)
              have hbb0 := hSf.base0
              have hbb1 := hSf.base
              have hbl := hSf.held
              have HSf := Lib.hid hSf
              clear hSf
              go_loopw [80] (fun k wr => ∃ (j : Nat) (F : Int → Option (Int × Int)) (G : Int × Int → Option Int), k = .int .i64 j ∧ j ≤ f.slots.length ∧ Inv fs q j F G ∧ JW w wr #[.slice (some ⟨g, o, none⟩) fs.length cA] bu bs bp (baseTo fs (q + 1)) 0 F G ∧ (∀ i, wr.cell? ⟨bf, i, none⟩ = (flc f.e f.l f.i f.c f.base X f.slots.length cX Y f.have_.length cY)[i]?) ∧ FlRows wr N f X cX Y cY ∧ bf < wr.heap.size) (fun k _ => f.slots.length - (intOf k).toNat)
              case atStart => exact ⟨0, F, G, rfl, by omega, hI, hJ2, hf2, hr2, hs2⟩
              case round =>
                obtain ⟨j, F, G, rfl, hj, hI, hJ, hfc, hr, hbfl⟩ := hrel
                clear hJ2 hf2 hr2 hs2
                by_cases hltj : j < f.slots.length
                · obtain ⟨g1, o1, x, y, rfl, hg1, hx, k1, k2⟩ := hr.slots.slot hltj
                  have hbh := HSf.out.high
                  have hsl := HSf.out.slot (x, y) (List.mem_of_getElem? hx.out)
                  obtain ⟨i1, i2, i3, i4⟩ := hsl
                  simp only at i1 i2 i3 i4
                  have hkey : ∃ l, keyOf Try.prog 66 (vSlot (x, y)) = some l := key_slot x y (WalkArith.wf_i64 (by omega)) (WalkArith.wf_i64 (by omega))
                  have hkeyp : ∃ l, keyOf Try.prog 3 (vInt (f.base + 1 + (j : Int))) = some l := key_int _ (WalkArith.wf_i64 (by omega))
                  obtain ⟨n1, m1⟩ := (hJ.alloc (.cells #[.int .i64 x, .int .i64 y] 66)).mu
                  have hlook := m1.look lawInt vInt_inj Try.underlying117 (zero66 _) true (f.base + 1 + (j : Int)) hkeyp
                  clear m1
                  replace hkey := Lib.hid hkey
                  replace hkeyp := Lib.hid hkeyp
                  have hcw := hJ.cells
                  have hls := hJ.lts
                  have hgw1 : g1 < wr.heap.size := by have := hJ.bel.size; simp only [World.size_alloc] at this; omega
                  have hlou := hJ.lou
                  have hlos := hJ.los
                  have hlop := hJ.lop
                  obtain ⟨b13, hb13⟩ : ∃ b13, b13 = wr.heap.size := ⟨_, rfl⟩
                  replace hb13 := Lib.hid hb13
                  have hltu := hJ.ltu
                  have hltp := hJ.ltp
                  have hne1 : bf ≠ bu := by
                    rintro rfl
                    obtain ⟨n, es, clock, m, _⟩ := hJ.mu
                    have := hfc 0
                    simp [World.cell?, m] at this
                  have hne2 : bf ≠ bp := by
                    rintro rfl
                    obtain ⟨n, es, clock, m, _⟩ := hJ.mp
                    have := hfc 0
                    simp [World.cell?, m] at this
                  cases hF : F (f.base + 1 + (j : Int)) with
                  | none =>
                    have HF := Lib.hid hF
                    rw [hF] at hlook
                    simp only [vInt] at hlook
                    clear hF
                    cases hG : G (x, y) with
                    | none =>
                      have HG := Lib.hid hG
                      obtain ⟨n2, m2⟩ := ((hJ.alloc (.cells #[.int .i64 x, .int .i64 y] 66)).alloc (.cells #[.int .i64 0, .int .i64 0] 66)).mp
                      have hlook2 := m2.look lawSlot vSlot_inj Try.underlying121 (zero3 _) true (x, y) hkey.out
                      clear m2
                      rw [hG] at hlook2
                      simp only [vSlot] at hlook2
                      clear hG
                      have hJ5 := (hJ.alloc (.cells #[.int .i64 x, .int .i64 y] 66)).alloc (.cells #[.int .i64 0, .int .i64 0] 66)
                      have h13 : ∀ i, ((wr.alloc (.cells #[.int .i64 x, .int .i64 y] 66)).alloc (.cells #[.int .i64 0, .int .i64 0] 66)).cell? ⟨b13, i, none⟩ = (#[.int .i64 x, .int .i64 y] : Array Value)[i]? := fun i => by
                        rw [World.cell?_alloc_past _ _ _ (by simp only [World.size_alloc]; have := hb13.out; omega)]
                        exact World.cell?_alloc_at _ _ _ _ hb13.out
                      have hbb : Below wr.heap.size wr ((wr.alloc (.cells #[.int .i64 x, .int .i64 y] 66)).alloc (.cells #[.int .i64 0, .int .i64 0] 66)) := ((Below.refl _ _).alloc (Nat.le_refl _) _).alloc (by simp only [World.size_alloc]; omega) _
                      have hf5 : ∀ i, ((wr.alloc (.cells #[.int .i64 x, .int .i64 y] 66)).alloc (.cells #[.int .i64 0, .int .i64 0] 66)).cell? ⟨bf, i, none⟩ = (flc f.e f.l f.i f.c f.base (some ⟨g1, o1, none⟩) f.slots.length cX Y f.have_.length cY)[i]? := fun i => by
                        rw [hbb.cell (p := ⟨bf, i, none⟩) hbfl]; exact hfc i
                      have hr5 := hr.below hbb (by omega)
                      have hs5 : b13 < ((wr.alloc (.cells #[.int .i64 x, .int .i64 y] 66)).alloc (.cells #[.int .i64 0, .int .i64 0] 66)).heap.size := by simp only [World.size_alloc]; have := hb13.out; omega
                      have hs5' : bf < ((wr.alloc (.cells #[.int .i64 x, .int .i64 y] 66)).alloc (.cells #[.int .i64 0, .int .i64 0] 66)).heap.size := by simp only [World.size_alloc]; omega
                      clear hr hbb
                      go_wp2
                      generalize ((wr.alloc (.cells #[.int .i64 x, .int .i64 y] 66)).alloc (.cells #[.int .i64 0, .int .i64 0] 66)) = W5 at hJ5 h13 hf5 hr5 hs5 hs5' ⊢
                      rw [← hb13.out]
                      have hcs := hJ5.cells
                      clear hlook hlook2 hcw hfc k1 k2
                      go_still_tail 6, (by kernel_rfl)
                      change wpList _ _ _ _ _ W5.drew
                      obtain ⟨n5, m5⟩ := hJ5.drew.mu
                      go_wp2_with (at_mapUpdate; refine wpList_put _ rfl (.tmp 120) (.tmp 121) (.tmp 122) 117 rfl 3 66 lawInt Try.underlying117 bu n5 vInt vSlot vInt_inj F rfl m5 (f.base + 1 + (j : Int)) (x, y) rfl rfl hkeyp.out ?_)
                      intro w6 m6 hg6
                      have hJ6 := hJ5.drew.putF hg6 m6
                      have h6b : ∀ k, k < W5.heap.size → k ≠ bu → w6.heap[k]? = W5.heap[k]? := fun k h1 h2 => hg6.block k h1 (fun e => h2 (by injection e))
                      have h13' : ∀ i, w6.cell? ⟨b13, i, none⟩ = (#[.int .i64 x, .int .i64 y] : Array Value)[i]? := fun i => by
                        rw [World.cell?_of_block (a := ⟨b13, i, none⟩) (h6b b13 (by omega) (by have := hb13.out; omega))]; exact h13 i
                      have hs6 := hg6.size
                      rw [World.size_drew] at hs6
                      obtain ⟨n6, m6'⟩ := hJ6.mp
                      have H6b := Lib.hid h6b
                      clear hcs m5 hg6 m6 h6b
                      go_wp2_with (at_mapUpdate; refine wpList_put _ rfl (.tmp 123) (.tmp 124) (.tmp 125) 121 rfl 66 3 lawSlot Try.underlying121 bp n6 vSlot vInt vSlot_inj G rfl m6' (x, y) (f.base + 1 + (j : Int)) rfl rfl hkey.out ?_)
                      intro w7 m7 hg7
                      have hJ7 := hJ6.putG hg7 m7
                      have h7b : ∀ k, k < W5.heap.size → k ≠ bu → k ≠ bp → w7.heap[k]? = W5.heap[k]? := fun k h1 h2 h3 => (hg7.block k (by omega) (fun e => h3 (by injection e))).trans (H6b.out k h1 h2)
                      have hs7 := hg7.size
                      have H7b := Lib.hid h7b
                      clear m6' hg7 h13' m7 h7b
                      go_wp2
                      go_roundw
                      case rel =>
                        go_light
                        have e13 := hb13.out
                        have hlou := hJ7.lou
                        have hlop := hJ7.lop
                        refine ⟨j + 1, _, _, by go_num, by omega, inv_put hI hf.out hx.out rfl (.inl HF.out) (.inl HG.out), hJ7, fun i => ?_, ?_, by omega⟩
                        · rw [World.cell?_of_block (a := ⟨bf, i, none⟩) (H7b.out bf (by omega) (by omega) (by omega))]; exact hf5 i
                        · exact hr5.keepN (fun k hk => H7b.out k (by omega) (by omega) (by omega))
                      case measure => go_light; simp [intOf]; omega
                    | some p =>
                      have HG := Lib.hid hG
                      obtain ⟨n2, m2⟩ := ((hJ.alloc (.cells #[.int .i64 x, .int .i64 y] 66)).alloc (.cells #[.int .i64 0, .int .i64 0] 66)).mp
                      have hlook2 := m2.look lawSlot vSlot_inj Try.underlying121 (zero3 _) true (x, y) hkey.out
                      clear m2
                      rw [hG] at hlook2
                      simp only [vSlot, vInt] at hlook2
                      clear hG
                      have hpn : (p == f.base + 1 + (j : Int)) = false := by
                        rw [beq_eq_false_iff_ne]; intro e
                        have := (hI _ _).1.2 ((hI _ _).2.1 HG.out)
                        rw [e, HF.out] at this; cases this
                      have HP := Lib.hid hpn
                      have hpn' : ¬ p = f.base + 1 + (j : Int) := by simpa using hpn
                      clear hpn
                      go_wp2
                      go_ret2
                      go_light
                      exact joined_err (((box1_facts hJ.bel).1.alloc (by omega) _).alloc (by simp only [World.size_alloc]; omega) _) (by decide) (.fork Hall.out Hkin.out (clash_slot Hall.out hI hf.out hx.out HG.out hpn'))
                  | some t =>
                    obtain ⟨tx, ty⟩ := t
                    have HF := Lib.hid hF
                    rw [hF] at hlook
                    simp only [vInt, vSlot] at hlook
                    clear hF
                    by_cases ht : slotEq tx ty x y = true
                    · obtain ⟨rfl, rfl⟩ : tx = x ∧ ty = y := by simpa [slotEq] using ht
                      have HG : Hid (G (tx, ty) = some (f.base + 1 + (j : Int))) := (hI _ _).2.2 ((hI _ _).1.1 HF.out)
                      obtain ⟨n2, m2⟩ := ((hJ.alloc (.cells #[.int .i64 tx, .int .i64 ty] 66)).alloc (.cells #[.int .i64 tx, .int .i64 ty] 66)).mp
                      have hlook2 := m2.look lawSlot vSlot_inj Try.underlying121 (zero3 _) true (tx, ty) hkey.out
                      clear m2
                      rw [HG.out] at hlook2
                      simp only [vSlot, vInt] at hlook2
                      have hJ5 := (hJ.alloc (.cells #[.int .i64 tx, .int .i64 ty] 66)).alloc (.cells #[.int .i64 tx, .int .i64 ty] 66)
                      have h13 : ∀ i, ((wr.alloc (.cells #[.int .i64 tx, .int .i64 ty] 66)).alloc (.cells #[.int .i64 tx, .int .i64 ty] 66)).cell? ⟨b13, i, none⟩ = (#[.int .i64 tx, .int .i64 ty] : Array Value)[i]? := fun i => by
                        rw [World.cell?_alloc_past _ _ _ (by simp only [World.size_alloc]; have := hb13.out; omega)]
                        exact World.cell?_alloc_at _ _ _ _ hb13.out
                      have hbb : Below wr.heap.size wr ((wr.alloc (.cells #[.int .i64 tx, .int .i64 ty] 66)).alloc (.cells #[.int .i64 tx, .int .i64 ty] 66)) := ((Below.refl _ _).alloc (Nat.le_refl _) _).alloc (by simp only [World.size_alloc]; omega) _
                      have hf5 : ∀ i, ((wr.alloc (.cells #[.int .i64 tx, .int .i64 ty] 66)).alloc (.cells #[.int .i64 tx, .int .i64 ty] 66)).cell? ⟨bf, i, none⟩ = (flc f.e f.l f.i f.c f.base (some ⟨g1, o1, none⟩) f.slots.length cX Y f.have_.length cY)[i]? := fun i => by
                        rw [hbb.cell (p := ⟨bf, i, none⟩) hbfl]; exact hfc i
                      have hr5 := hr.below hbb (by omega)
                      have hs5 : b13 < ((wr.alloc (.cells #[.int .i64 tx, .int .i64 ty] 66)).alloc (.cells #[.int .i64 tx, .int .i64 ty] 66)).heap.size := by simp only [World.size_alloc]; have := hb13.out; omega
                      have hs5' : bf < ((wr.alloc (.cells #[.int .i64 tx, .int .i64 ty] 66)).alloc (.cells #[.int .i64 tx, .int .i64 ty] 66)).heap.size := by simp only [World.size_alloc]; omega
                      clear hr hbb
                      go_wp2
                      generalize ((wr.alloc (.cells #[.int .i64 tx, .int .i64 ty] 66)).alloc (.cells #[.int .i64 tx, .int .i64 ty] 66)) = W5 at hJ5 h13 hf5 hr5 hs5 hs5' ⊢
                      rw [← hb13.out]
                      have hcs := hJ5.cells
                      clear hlook hlook2 hcw hfc k1 k2
                      go_still_tail 6, (by kernel_rfl)
                      change wpList _ _ _ _ _ W5.drew
                      obtain ⟨n5, m5⟩ := hJ5.drew.mu
                      go_wp2_with (at_mapUpdate; refine wpList_put _ rfl (.tmp 120) (.tmp 121) (.tmp 122) 117 rfl 3 66 lawInt Try.underlying117 bu n5 vInt vSlot vInt_inj F rfl m5 (f.base + 1 + (j : Int)) (tx, ty) rfl rfl hkeyp.out ?_)
                      intro w6 m6 hg6
                      have hJ6 := hJ5.drew.putF hg6 m6
                      have h6b : ∀ k, k < W5.heap.size → k ≠ bu → w6.heap[k]? = W5.heap[k]? := fun k h1 h2 => hg6.block k h1 (fun e => h2 (by injection e))
                      have h13' : ∀ i, w6.cell? ⟨b13, i, none⟩ = (#[.int .i64 tx, .int .i64 ty] : Array Value)[i]? := fun i => by
                        rw [World.cell?_of_block (a := ⟨b13, i, none⟩) (h6b b13 (by omega) (by have := hb13.out; omega))]; exact h13 i
                      have hs6 := hg6.size
                      rw [World.size_drew] at hs6
                      obtain ⟨n6, m6'⟩ := hJ6.mp
                      have H6b := Lib.hid h6b
                      clear hcs m5 hg6 m6 h6b
                      go_wp2_with (at_mapUpdate; refine wpList_put _ rfl (.tmp 123) (.tmp 124) (.tmp 125) 121 rfl 66 3 lawSlot Try.underlying121 bp n6 vSlot vInt vSlot_inj G rfl m6' (tx, ty) (f.base + 1 + (j : Int)) rfl rfl hkey.out ?_)
                      intro w7 m7 hg7
                      have hJ7 := hJ6.putG hg7 m7
                      have h7b : ∀ k, k < W5.heap.size → k ≠ bu → k ≠ bp → w7.heap[k]? = W5.heap[k]? := fun k h1 h2 h3 => (hg7.block k (by omega) (fun e => h3 (by injection e))).trans (H6b.out k h1 h2)
                      have hs7 := hg7.size
                      have H7b := Lib.hid h7b
                      clear m6' hg7 h13' m7 h7b
                      go_wp2
                      go_roundw
                      case rel =>
                        go_light
                        have e13 := hb13.out
                        have hlou := hJ7.lou
                        have hlop := hJ7.lop
                        refine ⟨j + 1, _, _, by go_num, by omega, inv_put hI hf.out hx.out rfl (.inr HF.out) (.inr HG.out), hJ7, fun i => ?_, ?_, by omega⟩
                        · rw [World.cell?_of_block (a := ⟨bf, i, none⟩) (H7b.out bf (by omega) (by omega) (by omega))]; exact hf5 i
                        · exact hr5.keepN (fun k hk => H7b.out k (by omega) (by omega) (by omega))
                      case measure => go_light; simp [intOf]; omega
                    · have ht' : slotEq tx ty x y = false := by simpa using ht
                      have HT := Lib.hid ht'
                      clear ht
                      go_wp2
                      go_ret2
                      go_light
                      exact joined_err (((box1_facts hJ.bel).1.alloc (by omega) _).alloc (by simp only [World.size_alloc]; omega) _) (by decide) (.fork Hall.out Hkin.out (clash_pos hI hf.out hx.out HF.out ((slotEq_no (s := (tx, ty)) (t := (x, y))).1 HT.out)))
                · clear hr
                  go_wp2
                  go_roundw
                  case rel =>
                    go_light
                    have hjl : j = f.slots.length := by omega
                    rw [hjl] at hI
                    exact ⟨q + 1, F, G, by go_num, by omega, inv_next hf.out hI, hJ⟩
                  case measure => go_light; simp [intOf]; omega
            · have hql : fs.length ≤ q := by omega
              have hcalm := calm_of hql hI
              have hfit : Fit fs := ⟨Hall.out, Hkin.out, hcalm⟩
              have hFK : ∀ pos s, F pos = some s ↔ Known fs pos s := fun pos s => (hI pos s).1.trans (up_all hql)
              have HFit := Lib.hid hfit
              have HFK := Lib.hid hFK
              rw [baseTo_all fs hql] at hJ hcs
              have hb00 := base_nonneg fs
              have hb01 := base_le Hall.out
              have hJc := hJ.setCut (baseOf fs)
              clear hcalm hfit hFK hn0 hI
              go_wp2
              generalize wr.setCell ⟨bs, 1, none⟩ (.int .i64 (baseOf fs)) = W9 at hJc ⊢
              clear hJ hcs hfz hls hb0 hc hsz hq hlt hql
              go_loopg [21] 2049 (fun k _ wr => ∃ i : Nat, i + k = 2049 ∧ (∀ p, baseOf fs < p → p ≤ baseOf fs + i → wholeAtB fs (atOf fs p) = true) ∧ JW w wr #[.slice A fs.length cA] bu bs bp (baseOf fs) (baseOf fs + i) F G)
              case atStart => exact ⟨0, by omega, by intro p h1 h2; simp at h2; omega, by simpa using hJc⟩
              case round =>
                obtain ⟨i, hik, hall, hJ⟩ := hrel
                obtain ⟨hi1, hi2⟩ := cut_bound HFit.out hall
                have HAll := Lib.hid hall
                have HIK := Lib.hid hik
                clear hall hik hJc
                obtain ⟨hb0, hc, -, hsz⟩ := box1_facts hJ.bel
                have hcs := hJ.cells
                have hfz := hJ.frozen
                have hls := hJ.lts
                have hkeyp : ∃ l, keyOf Try.prog 3 (vInt (baseOf fs + (i : Int) + 1)) = some l := key_int _ (WalkArith.wf_i64 (by omega))
                obtain ⟨n1, m1⟩ := hJ.mu
                have mA : MapsTo wr.drew Try.prog 3 bu n1 vInt vSlot F := m1
                have mB : MapsTo (wr.alloc (.cells #[.int .i64 0, .int .i64 0] 66)).drew Try.prog 3 bu n1 vInt vSlot F := m1.alloc _
                have hlookA := mA.look lawInt vInt_inj Try.underlying117 (zero66 _) true (baseOf fs + (i : Int) + 1) hkeyp
                have hlookB := mB.look lawInt vInt_inj Try.underlying117 (zero66 _) true (baseOf fs + (i : Int) + 1) hkeyp
                clear m1 mA mB
                cases hF : F (baseOf fs + (i : Int) + 1) with
                | none =>
                  have HF := Lib.hid hF
                  rw [hF] at hlookA hlookB
                  simp only [vInt] at hlookA hlookB
                  clear hF
                  have hJn := (hJ.alloc (.cells #[.int .i64 0, .int .i64 0] 66)).drew
                  have hstop : wholeAtB fs (atOf fs (baseOf fs + (i : Int) + 1)) = false := by
                    rw [← Bool.not_eq_true, whole_iff HFit.out]
                    rintro ⟨s, hs, _⟩
                    rw [(HFK.out _ _).2 hs] at HF; exact absurd HF.out (by simp)
                  have HStop := Lib.hid hstop
                  clear hstop
                  go_wp2
                  go_region
                  all_goals
                    go_wp2
                    go_ret2
                    go_light
                    obtain ⟨n9, m9⟩ := hJn.mu
                    exact ⟨(box1_facts hJn.bel).1, .inr ⟨bs, bu, _, F, n9, rfl, .ok Hall.out Hkin.out HFit.out.calm, ⟨by omega, fun p h1 h2 => HAll.out p h1 h2, HStop.out⟩, by have := hJn.los; omega, by have := hJn.lou; omega, hJn.ub, m9, HFK.out⟩⟩
                | some s =>
                  obtain ⟨x, y⟩ := s
                  have HF := Lib.hid hF
                  rw [hF] at hlookA hlookB
                  simp only [vInt, vSlot] at hlookA hlookB
                  clear hF
                  have hJn := (hJ.alloc (.cells #[.int .i64 x, .int .i64 y] 66)).drew
                  have hKn := (HFK.out _ _).1 HF.out
                  have hsl : 0 ≤ x ∧ ∀ f ∈ fs, x < f.have_.length := by
                    obtain ⟨f, hf, a, b, _⟩ := known_slot HFit.out hKn
                    exact ⟨a, fun g hg => by have := one_len HFit.out hg hf; simp only at b; omega⟩
                  obtain ⟨hs0, hs1⟩ := hsl
                  have HKn := Lib.hid hKn
                  have HS1 := Lib.hid hs1
                  have hc9 : (wr.alloc (.cells #[.int .i64 x, .int .i64 y] 66)).drew.cell? ⟨w.heap.size, 0, none⟩ = some (.slice A fs.length cA) := by
                    rw [World.cell?_drew, World.cell?_alloc_past _ _ _ hsz, hc 0]; rfl
                  have hA9 : Fls (wr.alloc (.cells #[.int .i64 x, .int .i64 y] 66)).drew N A fs := (hA.below hb0 hN).below (Below.drew ((Below.refl N wr).alloc (by omega) _)) (Nat.le_refl _)
                  clear hKn hs1
                  cases hh : hadB fs (x, y) with
                  | true =>
                    have HH := Lib.hid hh
                    clear hh
                    go_wp2
                    go_region
                    all_goals
                      go_wp2_with (go_at_call 116; refine (had_any A cA N w.heap.size fs x y _ (by rw [World.size_drew, World.size_alloc]; omega) hA9 hl (by rw [World.size_drew, World.size_alloc]; omega) hc9 hs0 HS1.out).mono ?_; rintro e w2 ⟨rfl, hbw⟩; rw [HH.out]; have hJ2 := hJn.below hbw; have hcs2 := hJ2.cells; have hfz2 := hJ2.frozen; have hls2 := hJ2.lts)
                      go_roundg (2048 - i)
                      case measure => go_light; have := HIK.out; omega
                      case rel =>
                        go_light
                        have e1 := HIK.out
                        refine ⟨i + 1, by omega, fun p h1 h2 => ?_, by have := hJ2.setCut (baseOf fs + (i : Int) + 1); rw [show baseOf fs + ((i + 1 : Nat) : Int) = baseOf fs + (i : Int) + 1 by omega]; exact this⟩
                        by_cases hp : p ≤ baseOf fs + i
                        · exact HAll.out p h1 hp
                        · have : p = baseOf fs + i + 1 := by omega
                          rw [this]; exact (whole_iff HFit.out).2 ⟨_, HKn.out, HH.out⟩
                  | false =>
                    have HH := Lib.hid hh
                    clear hh
                    have hstop : wholeAtB fs (atOf fs (baseOf fs + (i : Int) + 1)) = false := by
                      rw [← Bool.not_eq_true, whole_iff HFit.out]
                      rintro ⟨s, hs, h2⟩
                      rw [← (known_one HFit.out HKn.out hs).1 rfl, HH.out] at h2; cases h2
                    have HStop := Lib.hid hstop
                    clear hstop
                    go_wp2
                    go_region
                    all_goals
                      go_wp2_with (go_at_call 116; refine (had_any A cA N w.heap.size fs x y _ (by rw [World.size_drew, World.size_alloc]; omega) hA9 hl (by rw [World.size_drew, World.size_alloc]; omega) hc9 hs0 HS1.out).mono ?_; rintro e w2 ⟨rfl, hbw⟩; rw [HH.out]; have hJ2 := hJn.below hbw)
                      go_ret2
                      go_light
                      obtain ⟨n9, m9⟩ := hJ2.mu
                      exact ⟨(box1_facts hJ2.bel).1, .inr ⟨bs, bu, _, F, n9, rfl, .ok Hall.out Hkin.out HFit.out.calm, ⟨by omega, fun p h1 h2 => HAll.out p h1 h2, HStop.out⟩, by have := hJ2.los; omega, by have := hJ2.lou; omega, hJ2.ub, m9, HFK.out⟩⟩
end Go.Proofs.Ytcffhfcjfjfokaa
/- What the program's list answers. -/
namespace Go.Proofs.Ytcffhfcjfjfokaa
open Go.RowKit
theorem Rws.below {w w' : World} {N N' : Nat} {A : Option Addr} {rs : List Rw} (h : Rws w N A rs) (hb : Below N' w w') (hN : N ≤ N') : Rws w' N A rs :=
  ⟨h.row.below hb hN, fun r hr => (h.each r hr).below hb hN⟩
/-- What list answers: what joined answers of all of them, if they are not too many. -/
def ListPost (fs gs : List Fl) (w : World) (e : Ending) (w' : World) : Prop :=
  if 1 ≤ fs.length ∧ fs.length ≤ 16 then JoinedPost (fs ++ gs) w e w' else e = .returned (.tuple #[.pointer none, .int .i64 1]) ∧ Below w.heap.size w w'
theorem joined_from {fs : List Fl} {w w1 w' : World} {e : Ending} (h : JoinedPost fs w1 e w') (hb : Below w.heap.size w w1) : JoinedPost fs w e w' := by
  have hs := hb.size
  obtain ⟨h1, h2⟩ := h
  refine ⟨hb.trans (h1.mono hs), ?_⟩
  rcases h2 with h2 | ⟨bs, bu, cut, F, n, a, b, c, d, d2, r⟩
  · exact .inl h2
  · exact .inr ⟨bs, bu, cut, F, n, a, b, c, by omega, by omega, r⟩
set_option maxRecDepth 100000 in
set_option maxHeartbeats 4000000 in
theorem list_any (A B : Option Addr) (cA cB N : Nat) (fs gs : List Fl) (w : World) (hN : N ≤ w.heap.size) (hA : Fls w N A fs) (hB : Fls w N B gs) (hl : fs.length ≤ 9223372036854775807) (hg : gs.length ≤ 1) :
    Calls Try.prog 52 #[.slice A fs.length cA, .slice B gs.length cB] w (ListPost fs gs w) := by
  by_cases h1 : fs.length < 1
  · have HL : Hid (∀ e w', e = .returned (.tuple #[.pointer none, .int .i64 1]) → Below w.heap.size w w' → ListPost fs gs w e w') := by intro e w' a b; show (if _ then _ else _); rw [if_neg (by omega)]; exact ⟨a, b⟩
    go_enter Try.func52, Try.ntmps52
    go_wp2
    go_ret2
    go_light
    exact HL.out _ _ rfl (Below.refl _ _)
  · by_cases h2 : 16 < fs.length
    · have HL : Hid (∀ e w', e = .returned (.tuple #[.pointer none, .int .i64 1]) → Below w.heap.size w w' → ListPost fs gs w e w') := by intro e w' a b; show (if _ then _ else _); rw [if_neg (by omega)]; exact ⟨a, b⟩
      go_enter Try.func52, Try.ntmps52
      go_wp2
      go_ret2
      go_light
      exact HL.out _ _ rfl (Below.refl _ _)
    · have HL : Hid (∀ e w', JoinedPost (fs ++ gs) w e w' → ListPost fs gs w e w') := by intro e w' a; show (if _ then _ else _); rw [if_pos (by omega)]; exact a
      obtain ⟨rs, hrs, hR⟩ := fls_rows hA
      obtain ⟨ss, hss, hS⟩ := fls_rows hB
      have hlr : rs.length = fs.length := by rw [← hrs, List.length_map]
      have hls : ss.length = gs.length := by rw [← hss, List.length_map]
      have Hlr := Lib.hid hlr
      have Hls := Lib.hid hls
      replace hrs := Lib.hid hrs
      replace hss := Lib.hid hss
      clear hlr hls hA hB
      go_enter Try.func52, Try.ntmps52
      go_wp2_with (at_builtin; refine wpList_append_rows _ rfl (.const (.slice none 0 0)) (.tmp 14) 22 rfl w.heap.size 39 7 88 _ Try.underlying22 info39 rfl (by decide) eRw len_eRw one_eRw none 0 [] A cA N 0 fs.length rs rfl rfl rfl ?_ ?_ ?_ ?_ ?_ ?_ ?_)
      · exact Hlr.out
      · exact owns_nil _ _ _ _ _
      · exact hR.row
      · omega
      · omega
      · omega
      · intro A1 c1 w1 ho1 hg1 hk1
        have hb1 : Below w.heap.size w w1 := (Below.refl _ _).grown hg1 (Nat.le_refl _) (by intro k hk; simp [blk] at hk)
        have hlo1 := ho1.lo
        clear hg1 hk1
        go_wp2_with (at_builtin; refine wpList_append_rows _ rfl (.tmp 15) (.tmp 16) 22 rfl w.heap.size 39 7 88 _ Try.underlying22 info39 rfl (by decide) eRw len_eRw one_eRw A1 c1 rs B cB N fs.length gs.length ss rfl rfl ?_ ?_ ?_ ?_ ?_ ?_ ?_ ?_)
        · exact Hlr.out
        · exact Hls.out
        · exact ho1
        · exact hS.row.below hb1 hN
        · omega
        · omega
        · exact hb1.size
        · intro A2 c2 w2 ho2 hg2 hk2
          have hb2 : Below w.heap.size w w2 := hb1.grown hg2 hb1.size (fun k hk => (hlo1 k hk).1)
          have hrow := ho2.row len_eRw
          have hs2 := hb2.size
          have hfl : Fls w2 w2.heap.size A2 (fs ++ gs) := by
            have hx : Rws w2 w2.heap.size A2 (rs ++ ss) := ⟨hrow, fun r hr => by
              rcases List.mem_append.1 hr with h | h
              · exact ((hR.each r h).below hb2 hN).more (by omega)
              · exact ((hS.each r h).below hb2 hN).more (by omega)⟩
            have := rows_fls hx
            rw [List.map_append, hrs.out, hss.out] at this; exact this
          have hlen : fs.length + gs.length = (fs ++ gs).length := by rw [List.length_append]
          have HFl := Lib.hid hfl
          have Hlen := Lib.hid hlen
          clear ho1 ho2 hg2 hk2 hrow hfl hlen hR hS hlo1
          go_wp2_with (go_at_call 97; rw [Hlen.out]; refine (joined_any A2 c2 w2.heap.size (fs ++ gs) w2 (Nat.le_refl _) HFl.out (by rw [← Hlen.out]; omega) (by rw [← Hlen.out]; omega)).mono ?_; intro e w' hj; obtain ⟨hjb, hj⟩ := joined_from hj hb2; rcases hj with ⟨n, rfl, hn1, hn2⟩ | ⟨bs, bu, cut, F, n, rfl, hn1⟩)
          · go_ret2
            go_light
            exact HL.out _ _ ⟨hjb, .inl ⟨n, rfl, hn1, hn2⟩⟩
          · go_ret2
            go_light
            exact HL.out _ _ ⟨hjb, .inr ⟨bs, bu, cut, F, n, rfl, hn1⟩⟩
/-- The error of contents and more contents. -/
def ListedMore (fs gs : List Fl) (n : Int) : Prop := if 1 ≤ fs.length ∧ fs.length ≤ 16 then Together (fs ++ gs) n else n = 1
theorem list_cases {fs gs : List Fl} {w w' : World} {e : Ending} (h : ListPost fs gs w e w') : Below w.heap.size w w' ∧
    ((∃ n, e = .returned (.tuple #[.pointer none, .int .i64 n]) ∧ n ≠ 0 ∧ ListedMore fs gs n) ∨
     (∃ bs bu cut F n, e = .returned (.tuple #[.pointer (some ⟨bs, 0, none⟩), .int .i64 0]) ∧ ListedMore fs gs 0 ∧ Fit (fs ++ gs) ∧ IsCut (fs ++ gs) cut ∧ w.heap.size ≤ bs ∧ w.heap.size ≤ bu ∧
       w'.heap[bs]? = some (.cells #[.int .i64 (baseOf (fs ++ gs)), .int .i64 cut, .map (some bu)] 119 (0, 0)) ∧ MapsTo w' Try.prog 3 bu n vInt vSlot F ∧ ∀ pos s, F pos = some s ↔ Known (fs ++ gs) pos s)) := by
  unfold ListPost at h
  by_cases hl : 1 ≤ fs.length ∧ fs.length ≤ 16
  · rw [if_pos hl] at h
    obtain ⟨hb, h⟩ := h
    refine ⟨hb, ?_⟩
    rcases h with ⟨n, a, b, c⟩ | ⟨bs, bu, cut, F, n, a, b, c, d⟩
    · exact .inl ⟨n, a, b, by unfold ListedMore; rw [if_pos hl]; exact c⟩
    · exact .inr ⟨bs, bu, cut, F, n, a, by unfold ListedMore; rw [if_pos hl]; exact b, fit_iff.1 b, c, d⟩
  · rw [if_neg hl] at h
    exact ⟨h.2, .inl ⟨1, h.1, by decide, by unfold ListedMore; rw [if_neg hl]⟩⟩
end Go.Proofs.Ytcffhfcjfjfokaa
namespace Go.Proofs.Ytcffhfcjfjfokaa
open Go.RowKit
theorem blk_cells {w : World} {g : Nat} {cs : Array Value} {t : TypeId} (h : w.heap[g]? = some (.cells cs t (0, 0))) : ∀ i, w.cell? ⟨g, i, none⟩ = cs[i]? := fun i => cell_of_row w g i cs t (0, 0) h
theorem more_nil {fs : List Fl} {n : Int} (h : ListedMore fs [] n) : Listed fs n := by
  unfold ListedMore at h
  unfold Listed
  rw [List.append_nil] at h; exact h
set_option maxHeartbeats 1000000 in
theorem icut_any (A : Option Addr) (cA N : Nat) (fs : List Fl) (w : World) (hN : N ≤ w.heap.size) (hA : Fls w N A fs) (hl : fs.length ≤ 9223372036854775807) :
    Calls Try.prog 14 #[.slice A fs.length cA] w fun x w' => (∃ k n, x = .returned (.tuple #[.int .i64 k, .int .i64 n]) ∧ CutIs fs k n) ∧ Below w.heap.size w w' := by
  have hB : Fls w N none [] := fun h => absurd h (by simp)
  go_enter Try.func14, Try.ntmps14
  go_wp2_with (go_at_call 52; refine (list_any A none cA 0 N fs [] _ hN hA hB hl (by simp)).mono ?_; intro e w' hp; obtain ⟨hbw, hp⟩ := list_cases hp; rw [List.append_nil] at hp; rcases hp with ⟨n, rfl, hn0, hL⟩ | ⟨bs, bu, cut, F, m, rfl, hL, hfit, hcut, hbs, hbu, hub, hF⟩; all_goals try have hcc := blk_cells hub)
  · go_ret2
    go_light
    exact ⟨⟨0, n, rfl, more_nil hL, fun e => absurd e hn0, fun _ => rfl⟩, hbw⟩
  · go_ret2
    go_light
    exact ⟨⟨cut, 0, rfl, more_nil hL, fun _ => hcut, fun e => absurd rfl e⟩, hbw⟩
end Go.Proofs.Ytcffhfcjfjfokaa
