/- Joined TwL Rows2 List Icut Shift ShiftTo, joined. -/
import Derived.Deep.LoopGhost
import Derived.StillTailTactics
import Derived.Laws.CopyRow
import Derived.Laws.IdiomCopy
import Derived.Laws.OwnMore
import Derived.Test.YtcffhfcjfjfokaaRows
import Derived.ProofKit
import Derived.WalkKit
import Derived.Test.YtcffhfcjfjfokaaAg1
import Derived.Test.YtcffhfcjfjfokaaAg2
set_option linter.unusedVariables false
set_option linter.unusedSimpArgs false
/- What the program's joined answers: the first error, or the union of the contents with its cut. -/
namespace Go.Proofs.Ytcffhfcjfjfokaa
open Go.RowKit
theorem isound_any (f : Fl) (A B : Option Addr) (cA cB N : Nat) (w : World) (hN : N ≤ w.heap.size) (hr : FlRows w N f A cA B cB) :
    Calls Try.prog 115 #[.agg (flc f.e f.l f.i f.c f.base A f.slots.length cA B f.have_.length cB)] w fun x w' => x = .returned (.bool (soundB f)) ∧ Below w.heap.size w w' := by
  have h1 := hr.lenS; have h2 := hr.capS; have h3 := hr.lenH; have h4 := hr.capH
  by_cases hd : SoundHead f
  · exact isound_yes f A B cA cB N w hN hr.slots hr.have_ hd
  · exact isound_no f A B cA cB w (by omega) (by omega) hd
theorem RowAt.keepN {α : Type} {w w' : World} {N sz : Nat} {enc : α → List Value} {A : Option Addr} {l : List α} (h : RowAt w N sz enc A l) (hb : ∀ k, k < N → w'.heap[k]? = w.heap[k]?) : RowAt w' N sz enc A l :=
  h.keep fun b o hlt => World.cell?_of_block (a := ⟨b, o, none⟩) (hb b hlt)
theorem FlRows.keepN {w w' : World} {N : Nat} {f : Fl} {X Y : Option Addr} {cX cY : Nat} (h : FlRows w N f X cX Y cY) (hb : ∀ k, k < N → w'.heap[k]? = w.heap[k]?) : FlRows w' N f X cX Y cY :=
  ⟨h.slots.keepN hb, h.have_.keepN hb, h.lenS, h.capS, h.lenH, h.capH⟩
/-- What joined answers: an error, or where the union stands and what it says. -/
def JoinedPost (fs : List Fl) (w : World) (e : Ending) (w' : World) : Prop := Below w.heap.size w w' ∧
  ((∃ n, e = .returned (.tuple #[.pointer none, .int .i64 n]) ∧ n ≠ 0 ∧ Together fs n) ∨
   (∃ bs bu cut F n, e = .returned (.tuple #[.pointer (some ⟨bs, 0, none⟩), .int .i64 0]) ∧ Together fs 0 ∧ IsCut fs cut ∧ w.heap.size ≤ bs ∧ w.heap.size ≤ bu ∧
     w'.heap[bs]? = some (.cells #[.int .i64 (baseOf fs), .int .i64 cut, .map (some bu)] 119 (0, 0)) ∧ MapsTo w' Try.prog 3 bu n vInt vSlot F ∧ ∀ pos s, F pos = some s ↔ Known fs pos s))
theorem joined_err {fs : List Fl} {w w' : World} {n : Int} (hb : Below w.heap.size w w') (h0 : n ≠ 0) (ht : Together fs n) : JoinedPost fs w (.returned (.tuple #[.pointer none, .int .i64 n])) w' := ⟨hb, .inl ⟨n, rfl, h0, ht⟩⟩
theorem max_int (a b : Int) : (if a < b then b else a) = max a b := by omega
set_option maxRecDepth 100000 in
set_option maxHeartbeats 8000000 in
theorem joined_any (A : Option Addr) (cA N : Nat) (fs : List Fl) (w : World) (hN : N ≤ w.heap.size) (hA : Fls w N A fs) (hl : fs.length ≤ 9223372036854775807) (hne : 0 < fs.length) :
    Calls Try.prog 97 #[.slice A fs.length cA] w (JoinedPost fs w) := by
  have hnv := run_neq_vid
  have hns := run_neq_slot
  have hmm := @run_makeMap Try.prog
  go_enter Try.func97, Try.ntmps97
  go_wp2
  go_loopw [24] (fun k wr => ∃ q : Nat, k = .int .i64 q ∧ q ≤ fs.length ∧ upto Sound fs q ∧ Below (w.heap.size + 1) (box1 w #[.slice A fs.length cA] 22) wr) (fun k _ => fs.length - (intOf k).toNat)
  case atStart => exact ⟨0, rfl, by omega, upto_zero _ _, Below.refl _ _⟩
  case round =>
    obtain ⟨q, rfl, hq, hup, hb⟩ := hrel
    obtain ⟨hb0, hc, -, hsz⟩ := box1_facts hb
    by_cases hlt : q < fs.length
    · obtain ⟨g, o, f, X, cX, Y, cY, rfl, hg, hf, ⟨c0, c1, c2, c3, c4, c5, c6⟩, hr⟩ := (hA.below hb0 hN).at_ hlt
      have hgw : g < wr.heap.size := by omega
      clear hA
      by_cases hs : Sound f
      · have hsb : soundB f = true := soundB_iff.2 hs
        have HS := Lib.hid hs
        clear hs
        go_wp2_with (go_at_call 115; refine (isound_any _ _ _ _ _ N _ (by simp only [World.size_alloc]; omega) (by exact hr.below ((Below.refl N wr).alloc (by omega) _) (Nat.le_refl _))).mono ?_; rintro e w' ⟨rfl, hbw⟩; rw [World.size_alloc] at hbw)
        go_roundw
        case rel => go_light; exact ⟨q + 1, by go_num, by omega, upto_succ hup (fun z hz => by rw [hf.out] at hz; cases hz; exact HS.out), (hb.alloc (by omega) _).trans (hbw.mono (by omega))⟩
        case measure => go_light; simp [intOf]; omega
      · have hsb : soundB f = false := soundB_no.2 hs
        have HS := Lib.hid hs
        clear hs
        go_wp2_with (go_at_call 115; refine (isound_any _ _ _ _ _ N _ (by simp only [World.size_alloc]; omega) (by exact hr.below ((Below.refl N wr).alloc (by omega) _) (Nat.le_refl _))).mono ?_; rintro e w' ⟨rfl, hbw⟩; rw [World.size_alloc] at hbw)
        go_ret2
        go_light
        exact joined_err ((hb0.alloc (by omega) _).trans (hbw.mono (by omega))) (by decide) (.arg ⟨f, List.mem_of_getElem? hf.out, HS.out⟩)
    · go_wp2
      have Hall : ∀ f ∈ fs, Sound f := upto_all hup (by omega)
      replace Hall := Lib.hid Hall
      clear hlt hq hup hb0 hc hsz
      obtain ⟨wo, rfl⟩ : ∃ wo : World, wo = wr := ⟨_, rfl⟩
      go_loopw [34] (fun k wr => ∃ q : Nat, k = .int .i64 q ∧ q ≤ fs.length ∧ upto (fun f => ∀ g, fs[0]? = some g → kinB f g = true) fs q ∧ Below (w.heap.size + 1) (box1 w #[.slice A fs.length cA] 22) wr) (fun k _ => fs.length - (intOf k).toNat)
      case atStart => exact ⟨0, rfl, by omega, upto_zero _ _, hb⟩
      case round =>
        obtain ⟨q, rfl, hq, hup, hb⟩ := hrel
        obtain ⟨hb0, hc, -, hsz⟩ := box1_facts hb
        by_cases hlt : q < fs.length
        · obtain ⟨g, o, f, X, cX, Y, cY, rfl, hg, hf, ⟨c0, c1, c2, c3, c4, c5, c6⟩, hr⟩ := (hA.below hb0 hN).at_ hlt
          obtain ⟨g', o', f0, X0, cX0, Y0, cY0, hgo, hg', hf0, ⟨d0, d1, d2, d3, d4, d5, d6⟩, hr0⟩ := (hA.below hb0 hN).at_ (k := 0) (by omega)
          obtain ⟨rfl, rfl⟩ : g = g' ∧ o = o' := by simpa using hgo
          simp only [Nat.zero_mul, Nat.add_zero] at d0 d1 d2 d3 d4 d5 d6
          have hposi : (0 : Int) < (fs.length : Int) := by omega
          have hgw : g < wr.heap.size := by omega
          clear hA hgo
          by_cases hv : vidEq f.e f.l f.i f.c f0.e f0.l f0.i f0.c = true
          · go_wp2
            go_quiet (fail)
            go_wp2
            · go_ret2
              go_light
              exact joined_err (below_drewN (hb0.alloc (by omega) _) _) (by decide) (.prev Hall.out ⟨f, f0, hf0.out, List.mem_of_getElem? hf.out, by have hh := ‹((f.have_.length : Int) != (f0.have_.length : Int)) = true›; simp at hh; simp [kinB]; intro _; omega⟩)
            · go_roundw
              case rel => go_light; exact ⟨q + 1, by go_num, by omega, upto_succ hup (fun z hz => by rw [hf.out] at hz; cases hz; intro g2 hg2; rw [hf0.out] at hg2; cases hg2; have hh := ‹((f.have_.length : Int) != (f0.have_.length : Int)) = false›; simp at hh; simp [kinB, hv]; omega), below_drewN (hb.alloc (by omega) _) _⟩
              case measure => go_light; simp [intOf]; omega
          · have hv' : vidEq f.e f.l f.i f.c f0.e f0.l f0.i f0.c = false := by simpa using hv
            clear hv
            go_wp2
            go_quiet (fail)
            go_wp2
            go_ret2
            go_light
            exact joined_err (below_drewN (hb0.alloc (by omega) _) _) (by decide) (.prev Hall.out ⟨f, f0, hf0.out, List.mem_of_getElem? hf.out, by simp [kinB, hv']⟩)
        · have Hkin : ∀ f ∈ fs, ∀ g, fs[0]? = some g → kinB f g = true := upto_all hup (by omega)
          replace Hkin := Lib.hid Hkin
          have hz1 : w.heap.size < wr.heap.size + 1 := by omega
          have hz2 : w.heap.size < wr.heap.size + 1 + 1 := by omega
          go_wp2
          have hJ := jw_start hb
          obtain ⟨bu, hbu⟩ : ∃ bu, bu = wr.heap.size := ⟨_, rfl⟩
          obtain ⟨bs, hbs⟩ : ∃ bs, bs = wr.heap.size + 1 := ⟨_, rfl⟩
          obtain ⟨bp, hbp⟩ : ∃ bp, bp = wr.heap.size + 1 + 1 := ⟨_, rfl⟩
          rw [← hbp, ← hbs, ← hbu] at hJ
          rw [← hbp, ← hbs, ← hbu]
          clear hb hb0 hc hsz hlt hq hup hz1 hz2 hbu hbs hbp
          obtain ⟨wo, rfl⟩ : ∃ wo : World, wo = wr := ⟨_, rfl⟩
          go_loopw [63] (fun k wr => ∃ (q : Nat) (F : Int → Option (Int × Int)) (G : Int × Int → Option Int), k = .int .i64 q ∧ q ≤ fs.length ∧ Inv fs q 0 F G ∧ JW w wr #[.slice A fs.length cA] bu bs bp (baseTo fs q) 0 F G) (fun k _ => fs.length - (intOf k).toNat)
          case atStart => exact ⟨0, _, _, rfl, by omega, inv_zero fs, by simpa [baseTo] using hJ⟩
          case round =>
            obtain ⟨q, F, G, rfl, hq, hI, hJ⟩ := hrel
            obtain ⟨hb0, hc, -, hsz⟩ := box1_facts hJ.bel
            have hcs := hJ.cells
            have hfz := hJ.frozen
            have hls := hJ.lts
            have hn0 := baseTo_nonneg fs q
            by_cases hlt : q < fs.length
            · obtain ⟨g, o, f, X, cX, Y, cY, rfl, hg, hf, ⟨c0, c1, c2, c3, c4, c5, c6⟩, hr⟩ := (hA.below hb0 hN).at_ hlt
              have hgw : g < wr.heap.size := by omega
              clear hA
              have hJ1 := hJ.alloc (.cells (flc f.e f.l f.i f.c f.base X f.slots.length cX Y f.have_.length cY) 39)
              have hblk : ∀ i, (wr.alloc (.cells (flc f.e f.l f.i f.c f.base X f.slots.length cX Y f.have_.length cY) 39)).cell? ⟨wr.heap.size, i, none⟩ = (flc f.e f.l f.i f.c f.base X f.slots.length cX Y f.have_.length cY)[i]? := fun i => World.cell?_alloc_at _ _ _ _ rfl
              have hr1 := hr.below ((Below.refl N wr).alloc (by omega) (.cells (flc f.e f.l f.i f.c f.base X f.slots.length cX Y f.have_.length cY) 39)) (Nat.le_refl _)
              have hs1 : wr.heap.size < (wr.alloc (.cells (flc f.e f.l f.i f.c f.base X f.slots.length cX Y f.have_.length cY) 39)).heap.size := by simp
              have hbf : Below wr.heap.size wr (wr.alloc (.cells (flc f.e f.l f.i f.c f.base X f.slots.length cX Y f.have_.length cY) 39)) := (Below.refl _ _).alloc (Nat.le_refl _) _
              have hmx : (if baseTo fs q < f.base then f.base else baseTo fs q) = baseTo fs (q + 1) := (baseTo_succ hf.out).symm
              go_wp2
              generalize wr.alloc (.cells (flc f.e f.l f.i f.c f.base X f.slots.length cX Y f.have_.length cY) 39) = W at hJ1 hblk hr1 hs1 hbf ⊢
              obtain ⟨bf, hbfe⟩ : ∃ bf, bf = wr.heap.size := ⟨_, rfl⟩
              rw [← hbfe] at hblk hs1 ⊢
              replace hbfe := Lib.hid hbfe
              clear hcs hfz hJ hc hr c0 c1 c2 c3 c4 c5 c6
              have hcs := hJ1.cells
              have hfz := hJ1.frozen
              go_still_tail 10, (by kernel_rfl)
              change wpList _ _ _ _ _ W.drew
              go_wp2
              have hJ2 := (hJ1.setBase (baseTo fs (q + 1))).drew
              have hf2 : ∀ i, (W.setCell ⟨bs, 0, none⟩ (.int .i64 (baseTo fs (q + 1)))).drew.cell? ⟨bf, i, none⟩ = (flc f.e f.l f.i f.c f.base X f.slots.length cX Y f.have_.length cY)[i]? := fun i => by
                rw [World.cell?_drew, World.cell?_setCell_other _ _ _ _ (by intro e; injection e with e; have := hls; have := hbfe.out; omega)]; exact hblk i
              have hb2 : Below N W (W.setCell ⟨bs, 0, none⟩ (.int .i64 (baseTo fs (q + 1)))).drew := Below.drew ((Below.refl _ _).setCell (by have := hJ1.los; show N ≤ bs; omega) _)
              have hr2 := hr1.below hb2 (Nat.le_refl _)
              have hs2 : bf < (W.setCell ⟨bs, 0, none⟩ (.int .i64 (baseTo fs (q + 1)))).drew.heap.size := by rw [World.size_drew, World.size_setCell]; exact hs1
              generalize (W.setCell ⟨bs, 0, none⟩ (.int .i64 (baseTo fs (q + 1)))).drew = W2 at hJ2 hf2 hr2 hs2 ⊢
              clear hcs hfz hJ1 hblk hr1 hs1 hb2 hmx hb0 hsz hls
              have hSf := Hall.out f (List.mem_of_getElem? hf.out)
              have hbb0 := hSf.base0
              have hbb1 := hSf.base
              have hbl := hSf.held
              have HSf := Lib.hid hSf
              clear hSf
              go_loopw [80] (fun k wr => ∃ (j : Nat) (F : Int → Option (Int × Int)) (G : Int × Int → Option Int), k = .int .i64 j ∧ j ≤ f.slots.length ∧ Inv fs q j F G ∧ JW w wr #[.slice (some ⟨g, o, none⟩) fs.length cA] bu bs bp (baseTo fs (q + 1)) 0 F G ∧ (∀ i, wr.cell? ⟨bf, i, none⟩ = (flc f.e f.l f.i f.c f.base X f.slots.length cX Y f.have_.length cY)[i]?) ∧ FlRows wr N f X cX Y cY ∧ bf < wr.heap.size) (fun k _ => f.slots.length - (intOf k).toNat)
              case atStart => exact ⟨0, F, G, rfl, by omega, hI, hJ2, hf2, hr2, hs2⟩
              case round =>
                obtain ⟨j, F, G, rfl, hj, hI, hJ, hfc, hr, hbfl⟩ := hrel
                clear hJ2 hf2 hr2 hs2
                by_cases hltj : j < f.slots.length
                · obtain ⟨g1, o1, x, y, rfl, hg1, hx, k1, k2⟩ := hr.slots.slot hltj
                  have hbh := HSf.out.high
                  have hsl := HSf.out.slot (x, y) (List.mem_of_getElem? hx.out)
                  obtain ⟨i1, i2, i3, i4⟩ := hsl
                  simp only at i1 i2 i3 i4
                  have hkey : ∃ l, keyOf Try.prog 66 (vSlot (x, y)) = some l := key_slot x y (WalkArith.wf_i64 (by omega)) (WalkArith.wf_i64 (by omega))
                  have hkeyp : ∃ l, keyOf Try.prog 3 (vInt (f.base + 1 + (j : Int))) = some l := key_int _ (WalkArith.wf_i64 (by omega))
                  obtain ⟨n1, m1⟩ := (hJ.alloc (.cells #[.int .i64 x, .int .i64 y] 66)).mu
                  have hlook := m1.look lawInt vInt_inj Try.underlying117 (zero66 _) true (f.base + 1 + (j : Int)) hkeyp
                  clear m1
                  replace hkey := Lib.hid hkey
                  replace hkeyp := Lib.hid hkeyp
                  have hcw := hJ.cells
                  have hls := hJ.lts
                  have hgw1 : g1 < wr.heap.size := by have := hJ.bel.size; simp only [World.size_alloc] at this; omega
                  have hlou := hJ.lou
                  have hlos := hJ.los
                  have hlop := hJ.lop
                  obtain ⟨b13, hb13⟩ : ∃ b13, b13 = wr.heap.size := ⟨_, rfl⟩
                  replace hb13 := Lib.hid hb13
                  have hltu := hJ.ltu
                  have hltp := hJ.ltp
                  have hne1 : bf ≠ bu := by
                    rintro rfl
                    obtain ⟨n, es, clock, m, _⟩ := hJ.mu
                    have := hfc 0
                    simp [World.cell?, m] at this
                  have hne2 : bf ≠ bp := by
                    rintro rfl
                    obtain ⟨n, es, clock, m, _⟩ := hJ.mp
                    have := hfc 0
                    simp [World.cell?, m] at this
                  cases hF : F (f.base + 1 + (j : Int)) with
                  | none =>
                    have HF := Lib.hid hF
                    rw [hF] at hlook
                    simp only [vInt] at hlook
                    clear hF
                    cases hG : G (x, y) with
                    | none =>
                      have HG := Lib.hid hG
                      obtain ⟨n2, m2⟩ := ((hJ.alloc (.cells #[.int .i64 x, .int .i64 y] 66)).alloc (.cells #[.int .i64 0, .int .i64 0] 66)).mp
                      have hlook2 := m2.look lawSlot vSlot_inj Try.underlying121 (zero3 _) true (x, y) hkey.out
                      clear m2
                      rw [hG] at hlook2
                      simp only [vSlot] at hlook2
                      clear hG
                      have hJ5 := (hJ.alloc (.cells #[.int .i64 x, .int .i64 y] 66)).alloc (.cells #[.int .i64 0, .int .i64 0] 66)
                      have h13 : ∀ i, ((wr.alloc (.cells #[.int .i64 x, .int .i64 y] 66)).alloc (.cells #[.int .i64 0, .int .i64 0] 66)).cell? ⟨b13, i, none⟩ = (#[.int .i64 x, .int .i64 y] : Array Value)[i]? := fun i => by
                        rw [World.cell?_alloc_past _ _ _ (by simp only [World.size_alloc]; have := hb13.out; omega)]
                        exact World.cell?_alloc_at _ _ _ _ hb13.out
                      have hbb : Below wr.heap.size wr ((wr.alloc (.cells #[.int .i64 x, .int .i64 y] 66)).alloc (.cells #[.int .i64 0, .int .i64 0] 66)) := ((Below.refl _ _).alloc (Nat.le_refl _) _).alloc (by simp only [World.size_alloc]; omega) _
                      have hf5 : ∀ i, ((wr.alloc (.cells #[.int .i64 x, .int .i64 y] 66)).alloc (.cells #[.int .i64 0, .int .i64 0] 66)).cell? ⟨bf, i, none⟩ = (flc f.e f.l f.i f.c f.base (some ⟨g1, o1, none⟩) f.slots.length cX Y f.have_.length cY)[i]? := fun i => by
                        rw [hbb.cell (p := ⟨bf, i, none⟩) hbfl]; exact hfc i
                      have hr5 := hr.below hbb (by omega)
                      have hs5 : b13 < ((wr.alloc (.cells #[.int .i64 x, .int .i64 y] 66)).alloc (.cells #[.int .i64 0, .int .i64 0] 66)).heap.size := by simp only [World.size_alloc]; have := hb13.out; omega
                      have hs5' : bf < ((wr.alloc (.cells #[.int .i64 x, .int .i64 y] 66)).alloc (.cells #[.int .i64 0, .int .i64 0] 66)).heap.size := by simp only [World.size_alloc]; omega
                      clear hr hbb
                      go_wp2
                      generalize ((wr.alloc (.cells #[.int .i64 x, .int .i64 y] 66)).alloc (.cells #[.int .i64 0, .int .i64 0] 66)) = W5 at hJ5 h13 hf5 hr5 hs5 hs5' ⊢
                      rw [← hb13.out]
                      have hcs := hJ5.cells
                      clear hlook hlook2 hcw hfc k1 k2
                      go_still_tail 6, (by kernel_rfl)
                      change wpList _ _ _ _ _ W5.drew
                      obtain ⟨n5, m5⟩ := hJ5.drew.mu
                      go_wp2_with (at_mapUpdate; refine wpList_put _ rfl (.tmp 120) (.tmp 121) (.tmp 122) 117 rfl 3 66 lawInt Try.underlying117 bu n5 vInt vSlot vInt_inj F rfl m5 (f.base + 1 + (j : Int)) (x, y) rfl rfl hkeyp.out ?_)
                      intro w6 m6 hg6
                      have hJ6 := hJ5.drew.putF hg6 m6
                      have h6b : ∀ k, k < W5.heap.size → k ≠ bu → w6.heap[k]? = W5.heap[k]? := fun k h1 h2 => hg6.block k h1 (fun e => h2 (by injection e))
                      have h13' : ∀ i, w6.cell? ⟨b13, i, none⟩ = (#[.int .i64 x, .int .i64 y] : Array Value)[i]? := fun i => by
                        rw [World.cell?_of_block (a := ⟨b13, i, none⟩) (h6b b13 (by omega) (by have := hb13.out; omega))]; exact h13 i
                      have hs6 := hg6.size
                      rw [World.size_drew] at hs6
                      obtain ⟨n6, m6'⟩ := hJ6.mp
                      have H6b := Lib.hid h6b
                      clear hcs m5 hg6 m6 h6b
                      go_wp2_with (at_mapUpdate; refine wpList_put _ rfl (.tmp 123) (.tmp 124) (.tmp 125) 121 rfl 66 3 lawSlot Try.underlying121 bp n6 vSlot vInt vSlot_inj G rfl m6' (x, y) (f.base + 1 + (j : Int)) rfl rfl hkey.out ?_)
                      intro w7 m7 hg7
                      have hJ7 := hJ6.putG hg7 m7
                      have h7b : ∀ k, k < W5.heap.size → k ≠ bu → k ≠ bp → w7.heap[k]? = W5.heap[k]? := fun k h1 h2 h3 => (hg7.block k (by omega) (fun e => h3 (by injection e))).trans (H6b.out k h1 h2)
                      have hs7 := hg7.size
                      have H7b := Lib.hid h7b
                      clear m6' hg7 h13' m7 h7b
                      go_wp2
                      go_roundw
                      case rel =>
                        go_light
                        have e13 := hb13.out
                        have hlou := hJ7.lou
                        have hlop := hJ7.lop
                        refine ⟨j + 1, _, _, by go_num, by omega, inv_put hI hf.out hx.out rfl (.inl HF.out) (.inl HG.out), hJ7, fun i => ?_, ?_, by omega⟩
                        · rw [World.cell?_of_block (a := ⟨bf, i, none⟩) (H7b.out bf (by omega) (by omega) (by omega))]; exact hf5 i
                        · exact hr5.keepN (fun k hk => H7b.out k (by omega) (by omega) (by omega))
                      case measure => go_light; simp [intOf]; omega
                    | some p =>
                      have HG := Lib.hid hG
                      obtain ⟨n2, m2⟩ := ((hJ.alloc (.cells #[.int .i64 x, .int .i64 y] 66)).alloc (.cells #[.int .i64 0, .int .i64 0] 66)).mp
                      have hlook2 := m2.look lawSlot vSlot_inj Try.underlying121 (zero3 _) true (x, y) hkey.out
                      clear m2
                      rw [hG] at hlook2
                      simp only [vSlot, vInt] at hlook2
                      clear hG
                      have hpn : (p == f.base + 1 + (j : Int)) = false := by
                        rw [beq_eq_false_iff_ne]; intro e
                        have := (hI _ _).1.2 ((hI _ _).2.1 HG.out)
                        rw [e, HF.out] at this; cases this
                      have HP := Lib.hid hpn
                      have hpn' : ¬ p = f.base + 1 + (j : Int) := by simpa using hpn
                      clear hpn
                      go_wp2
                      go_ret2
                      go_light
                      exact joined_err (((box1_facts hJ.bel).1.alloc (by omega) _).alloc (by simp only [World.size_alloc]; omega) _) (by decide) (.fork Hall.out Hkin.out (clash_slot Hall.out hI hf.out hx.out HG.out hpn'))
                  | some t =>
                    obtain ⟨tx, ty⟩ := t
                    have HF := Lib.hid hF
                    rw [hF] at hlook
                    simp only [vInt, vSlot] at hlook
                    clear hF
                    by_cases ht : slotEq tx ty x y = true
                    · obtain ⟨rfl, rfl⟩ : tx = x ∧ ty = y := by simpa [slotEq] using ht
                      have HG : Hid (G (tx, ty) = some (f.base + 1 + (j : Int))) := (hI _ _).2.2 ((hI _ _).1.1 HF.out)
                      obtain ⟨n2, m2⟩ := ((hJ.alloc (.cells #[.int .i64 tx, .int .i64 ty] 66)).alloc (.cells #[.int .i64 tx, .int .i64 ty] 66)).mp
                      have hlook2 := m2.look lawSlot vSlot_inj Try.underlying121 (zero3 _) true (tx, ty) hkey.out
                      clear m2
                      rw [HG.out] at hlook2
                      simp only [vSlot, vInt] at hlook2
                      have hJ5 := (hJ.alloc (.cells #[.int .i64 tx, .int .i64 ty] 66)).alloc (.cells #[.int .i64 tx, .int .i64 ty] 66)
                      have h13 : ∀ i, ((wr.alloc (.cells #[.int .i64 tx, .int .i64 ty] 66)).alloc (.cells #[.int .i64 tx, .int .i64 ty] 66)).cell? ⟨b13, i, none⟩ = (#[.int .i64 tx, .int .i64 ty] : Array Value)[i]? := fun i => by
                        rw [World.cell?_alloc_past _ _ _ (by simp only [World.size_alloc]; have := hb13.out; omega)]
                        exact World.cell?_alloc_at _ _ _ _ hb13.out
                      have hbb : Below wr.heap.size wr ((wr.alloc (.cells #[.int .i64 tx, .int .i64 ty] 66)).alloc (.cells #[.int .i64 tx, .int .i64 ty] 66)) := ((Below.refl _ _).alloc (Nat.le_refl _) _).alloc (by simp only [World.size_alloc]; omega) _
                      have hf5 : ∀ i, ((wr.alloc (.cells #[.int .i64 tx, .int .i64 ty] 66)).alloc (.cells #[.int .i64 tx, .int .i64 ty] 66)).cell? ⟨bf, i, none⟩ = (flc f.e f.l f.i f.c f.base (some ⟨g1, o1, none⟩) f.slots.length cX Y f.have_.length cY)[i]? := fun i => by
                        rw [hbb.cell (p := ⟨bf, i, none⟩) hbfl]; exact hfc i
                      have hr5 := hr.below hbb (by omega)
                      have hs5 : b13 < ((wr.alloc (.cells #[.int .i64 tx, .int .i64 ty] 66)).alloc (.cells #[.int .i64 tx, .int .i64 ty] 66)).heap.size := by simp only [World.size_alloc]; have := hb13.out; omega
                      have hs5' : bf < ((wr.alloc (.cells #[.int .i64 tx, .int .i64 ty] 66)).alloc (.cells #[.int .i64 tx, .int .i64 ty] 66)).heap.size := by simp only [World.size_alloc]; omega
                      clear hr hbb
                      go_wp2
                      generalize ((wr.alloc (.cells #[.int .i64 tx, .int .i64 ty] 66)).alloc (.cells #[.int .i64 tx, .int .i64 ty] 66)) = W5 at hJ5 h13 hf5 hr5 hs5 hs5' ⊢
                      rw [← hb13.out]
                      have hcs := hJ5.cells
                      clear hlook hlook2 hcw hfc k1 k2
                      go_still_tail 6, (by kernel_rfl)
                      change wpList _ _ _ _ _ W5.drew
                      obtain ⟨n5, m5⟩ := hJ5.drew.mu
                      go_wp2_with (at_mapUpdate; refine wpList_put _ rfl (.tmp 120) (.tmp 121) (.tmp 122) 117 rfl 3 66 lawInt Try.underlying117 bu n5 vInt vSlot vInt_inj F rfl m5 (f.base + 1 + (j : Int)) (tx, ty) rfl rfl hkeyp.out ?_)
                      intro w6 m6 hg6
                      have hJ6 := hJ5.drew.putF hg6 m6
                      have h6b : ∀ k, k < W5.heap.size → k ≠ bu → w6.heap[k]? = W5.heap[k]? := fun k h1 h2 => hg6.block k h1 (fun e => h2 (by injection e))
                      have h13' : ∀ i, w6.cell? ⟨b13, i, none⟩ = (#[.int .i64 tx, .int .i64 ty] : Array Value)[i]? := fun i => by
                        rw [World.cell?_of_block (a := ⟨b13, i, none⟩) (h6b b13 (by omega) (by have := hb13.out; omega))]; exact h13 i
                      have hs6 := hg6.size
                      rw [World.size_drew] at hs6
                      obtain ⟨n6, m6'⟩ := hJ6.mp
                      have H6b := Lib.hid h6b
                      clear hcs m5 hg6 m6 h6b
                      go_wp2_with (at_mapUpdate; refine wpList_put _ rfl (.tmp 123) (.tmp 124) (.tmp 125) 121 rfl 66 3 lawSlot Try.underlying121 bp n6 vSlot vInt vSlot_inj G rfl m6' (tx, ty) (f.base + 1 + (j : Int)) rfl rfl hkey.out ?_)
                      intro w7 m7 hg7
                      have hJ7 := hJ6.putG hg7 m7
                      have h7b : ∀ k, k < W5.heap.size → k ≠ bu → k ≠ bp → w7.heap[k]? = W5.heap[k]? := fun k h1 h2 h3 => (hg7.block k (by omega) (fun e => h3 (by injection e))).trans (H6b.out k h1 h2)
                      have hs7 := hg7.size
                      have H7b := Lib.hid h7b
                      clear m6' hg7 h13' m7 h7b
                      go_wp2
                      go_roundw
                      case rel =>
                        go_light
                        have e13 := hb13.out
                        have hlou := hJ7.lou
                        have hlop := hJ7.lop
                        refine ⟨j + 1, _, _, by go_num, by omega, inv_put hI hf.out hx.out rfl (.inr HF.out) (.inr HG.out), hJ7, fun i => ?_, ?_, by omega⟩
                        · rw [World.cell?_of_block (a := ⟨bf, i, none⟩) (H7b.out bf (by omega) (by omega) (by omega))]; exact hf5 i
                        · exact hr5.keepN (fun k hk => H7b.out k (by omega) (by omega) (by omega))
                      case measure => go_light; simp [intOf]; omega
                    · have ht' : slotEq tx ty x y = false := by simpa using ht
                      have HT := Lib.hid ht'
                      clear ht
                      go_wp2
                      go_ret2
                      go_light
                      exact joined_err (((box1_facts hJ.bel).1.alloc (by omega) _).alloc (by simp only [World.size_alloc]; omega) _) (by decide) (.fork Hall.out Hkin.out (clash_pos hI hf.out hx.out HF.out ((slotEq_no (s := (tx, ty)) (t := (x, y))).1 HT.out)))
                · clear hr
                  go_wp2
                  go_roundw
                  case rel =>
                    go_light
                    have hjl : j = f.slots.length := by omega
                    rw [hjl] at hI
                    exact ⟨q + 1, F, G, by go_num, by omega, inv_next hf.out hI, hJ⟩
                  case measure => go_light; simp [intOf]; omega
            · have hql : fs.length ≤ q := by omega
              have hcalm := calm_of hql hI
              have hfit : Fit fs := ⟨Hall.out, Hkin.out, hcalm⟩
              have hFK : ∀ pos s, F pos = some s ↔ Known fs pos s := fun pos s => (hI pos s).1.trans (up_all hql)
              have HFit := Lib.hid hfit
              have HFK := Lib.hid hFK
              rw [baseTo_all fs hql] at hJ hcs
              have hb00 := base_nonneg fs
              have hb01 := base_le Hall.out
              have hJc := hJ.setCut (baseOf fs)
              clear hcalm hfit hFK hn0 hI
              go_wp2
              generalize wr.setCell ⟨bs, 1, none⟩ (.int .i64 (baseOf fs)) = W9 at hJc ⊢
              clear hJ hcs hfz hls hb0 hc hsz hq hlt hql
              go_loopg [21] 2049 (fun k _ wr => ∃ i : Nat, i + k = 2049 ∧ (∀ p, baseOf fs < p → p ≤ baseOf fs + i → wholeAtB fs (atOf fs p) = true) ∧ JW w wr #[.slice A fs.length cA] bu bs bp (baseOf fs) (baseOf fs + i) F G)
              case atStart => exact ⟨0, by omega, by intro p h1 h2; simp at h2; omega, by simpa using hJc⟩
              case round =>
                obtain ⟨i, hik, hall, hJ⟩ := hrel
                obtain ⟨hi1, hi2⟩ := cut_bound HFit.out hall
                have HAll := Lib.hid hall
                have HIK := Lib.hid hik
                clear hall hik hJc
                obtain ⟨hb0, hc, -, hsz⟩ := box1_facts hJ.bel
                have hcs := hJ.cells
                have hfz := hJ.frozen
                have hls := hJ.lts
                have hkeyp : ∃ l, keyOf Try.prog 3 (vInt (baseOf fs + (i : Int) + 1)) = some l := key_int _ (WalkArith.wf_i64 (by omega))
                obtain ⟨n1, m1⟩ := hJ.mu
                have mA : MapsTo wr.drew Try.prog 3 bu n1 vInt vSlot F := m1
                have mB : MapsTo (wr.alloc (.cells #[.int .i64 0, .int .i64 0] 66)).drew Try.prog 3 bu n1 vInt vSlot F := m1.alloc _
                have hlookA := mA.look lawInt vInt_inj Try.underlying117 (zero66 _) true (baseOf fs + (i : Int) + 1) hkeyp
                have hlookB := mB.look lawInt vInt_inj Try.underlying117 (zero66 _) true (baseOf fs + (i : Int) + 1) hkeyp
                clear m1 mA mB
                cases hF : F (baseOf fs + (i : Int) + 1) with
                | none =>
                  have HF := Lib.hid hF
                  rw [hF] at hlookA hlookB
                  simp only [vInt] at hlookA hlookB
                  clear hF
                  have hJn := (hJ.alloc (.cells #[.int .i64 0, .int .i64 0] 66)).drew
                  have hstop : wholeAtB fs (atOf fs (baseOf fs + (i : Int) + 1)) = false := by
                    rw [← Bool.not_eq_true, whole_iff HFit.out]
                    rintro ⟨s, hs, _⟩
                    rw [(HFK.out _ _).2 hs] at HF; exact absurd HF.out (by simp)
                  have HStop := Lib.hid hstop
                  clear hstop
                  go_wp2
                  go_region
                  all_goals
                    go_wp2
                    go_ret2
                    go_light
                    obtain ⟨n9, m9⟩ := hJn.mu
                    exact ⟨(box1_facts hJn.bel).1, .inr ⟨bs, bu, _, F, n9, rfl, .ok Hall.out Hkin.out HFit.out.calm, ⟨by omega, fun p h1 h2 => HAll.out p h1 h2, HStop.out⟩, by have := hJn.los; omega, by have := hJn.lou; omega, hJn.ub, m9, HFK.out⟩⟩
                | some s =>
                  obtain ⟨x, y⟩ := s
                  have HF := Lib.hid hF
                  rw [hF] at hlookA hlookB
                  simp only [vInt, vSlot] at hlookA hlookB
                  clear hF
                  have hJn := (hJ.alloc (.cells #[.int .i64 x, .int .i64 y] 66)).drew
                  have hKn := (HFK.out _ _).1 HF.out
                  have hsl : 0 ≤ x ∧ ∀ f ∈ fs, x < f.have_.length := by
                    obtain ⟨f, hf, a, b, _⟩ := known_slot HFit.out hKn
                    exact ⟨a, fun g hg => by have := one_len HFit.out hg hf; simp only at b; omega⟩
                  obtain ⟨hs0, hs1⟩ := hsl
                  have HKn := Lib.hid hKn
                  have HS1 := Lib.hid hs1
                  have hc9 : (wr.alloc (.cells #[.int .i64 x, .int .i64 y] 66)).drew.cell? ⟨w.heap.size, 0, none⟩ = some (.slice A fs.length cA) := by
                    rw [World.cell?_drew, World.cell?_alloc_past _ _ _ hsz, hc 0]; rfl
                  have hA9 : Fls (wr.alloc (.cells #[.int .i64 x, .int .i64 y] 66)).drew N A fs := (hA.below hb0 hN).below (Below.drew ((Below.refl N wr).alloc (by omega) _)) (Nat.le_refl _)
                  clear hKn hs1
                  cases hh : hadB fs (x, y) with
                  | true =>
                    have HH := Lib.hid hh
                    clear hh
                    go_wp2
                    go_region
                    all_goals
                      go_wp2_with (go_at_call 116; refine (had_any A cA N w.heap.size fs x y _ (by rw [World.size_drew, World.size_alloc]; omega) hA9 hl (by rw [World.size_drew, World.size_alloc]; omega) hc9 hs0 HS1.out).mono ?_; rintro e w2 ⟨rfl, hbw⟩; rw [HH.out]; have hJ2 := hJn.below hbw; have hcs2 := hJ2.cells; have hfz2 := hJ2.frozen; have hls2 := hJ2.lts)
                      go_roundg (2048 - i)
                      case measure => go_light; have := HIK.out; omega
                      case rel =>
                        go_light
                        have e1 := HIK.out
                        refine ⟨i + 1, by omega, fun p h1 h2 => ?_, by have := hJ2.setCut (baseOf fs + (i : Int) + 1); rw [show baseOf fs + ((i + 1 : Nat) : Int) = baseOf fs + (i : Int) + 1 by omega]; exact this⟩
                        by_cases hp : p ≤ baseOf fs + i
                        · exact HAll.out p h1 hp
                        · have : p = baseOf fs + i + 1 := by omega
                          rw [this]; exact (whole_iff HFit.out).2 ⟨_, HKn.out, HH.out⟩
                  | false =>
                    have HH := Lib.hid hh
                    clear hh
                    have hstop : wholeAtB fs (atOf fs (baseOf fs + (i : Int) + 1)) = false := by
                      rw [← Bool.not_eq_true, whole_iff HFit.out]
                      rintro ⟨s, hs, h2⟩
                      rw [← (known_one HFit.out HKn.out hs).1 rfl, HH.out] at h2; cases h2
                    have HStop := Lib.hid hstop
                    clear hstop
                    go_wp2
                    go_region
                    all_goals
                      go_wp2_with (go_at_call 116; refine (had_any A cA N w.heap.size fs x y _ (by rw [World.size_drew, World.size_alloc]; omega) hA9 hl (by rw [World.size_drew, World.size_alloc]; omega) hc9 hs0 HS1.out).mono ?_; rintro e w2 ⟨rfl, hbw⟩; rw [HH.out]; have hJ2 := hJn.below hbw)
                      go_ret2
                      go_light
                      obtain ⟨n9, m9⟩ := hJ2.mu
                      exact ⟨(box1_facts hJ2.bel).1, .inr ⟨bs, bu, _, F, n9, rfl, .ok Hall.out Hkin.out HFit.out.calm, ⟨by omega, fun p h1 h2 => HAll.out p h1 h2, HStop.out⟩, by have := hJ2.los; omega, by have := hJ2.lou; omega, hJ2.ub, m9, HFK.out⟩⟩
end Go.Proofs.Ytcffhfcjfjfokaa
/- What the law's twins answers: every content twice over, in lists of its own. -/
namespace Go.Proofs.Ytcffhfcjfjfokaa
open Go.RowKit
theorem info39 : (Try.prog.info? 39).map (fun i => (i.zero, i.size, i.bytes)) = some (some (.agg #[.int .i64 0, .int .i64 0, .int .i64 0, .int .i64 0, .int .i64 0, .slice none 0 0, .slice none 0 0]), 7, 88) := by kernel_rfl
theorem info57 : (Try.prog.info? 57).map (fun i => (i.zero, i.size, i.bytes)) = some (some (.agg #[.int .i64 0, .int .i64 0, .int .i64 0, .int .i64 0, .int .i64 0, .slice none 0 0, .slice none 0 0, .slice none 0 0, .slice none 0 0]), 9, 136) := by kernel_rfl
theorem len_flTw (x : Tw) : (flTw x).length = 7 := rfl
theorem len_eTw (x : Tw) : (eTw x).length = 9 := rfl
theorem one_flTw (x : Tw) : ∀ u ∈ flTw x, u.oneCell' = true := by intro u hu; simp [flTw] at hu; rcases hu with rfl | rfl | rfl | rfl | rfl | rfl | rfl <;> rfl
theorem one_eTw (x : Tw) : ∀ u ∈ eTw x, u.oneCell' = true := by intro u hu; simp [eTw] at hu; rcases hu with rfl | rfl | rfl | rfl | rfl | rfl | rfl | rfl | rfl <;> rfl
theorem TwOwn.keep {w w' : World} {base B : Nat} {t : Tw} (h : TwOwn w base t) (hb : Below B w w') (h2 : t.g2 < B) (h4 : t.g4 < B) : TwOwn w' base t :=
  ⟨h.s.keep hb (by intro k hk; simp [blk] at hk; omega), h.h.keep hb (by intro k hk; simp [blk] at hk; omega)⟩
theorem TwOwn.lt {w : World} {base : Nat} {t : Tw} (h : TwOwn w base t) : t.g2 < w.heap.size ∧ t.g4 < w.heap.size :=
  ⟨(h.s.lo t.g2 rfl).2, (h.h.lo t.g4 rfl).2⟩
theorem TwOwn.alloc {w : World} {base : Nat} {t : Tw} (h : TwOwn w base t) (o : Obj) : TwOwn (w.alloc o) base t := ⟨h.s.alloc o, h.h.alloc o⟩
theorem TwOwn.kept {w w' : World} {base : Nat} {t : Tw} {row : Option Nat} (h : TwOwn w base t) (hg : w.grownBy w' row) (h2 : some t.g2 ≠ row) (h4 : some t.g4 ≠ row) : TwOwn w' base t :=
  ⟨h.s.kept hg (.inr h2), h.h.kept hg (.inr h4)⟩
theorem TwOwn.lower {w : World} {base base' : Nat} {t : Tw} (h : TwOwn w base t) (hb : base' ≤ base) : TwOwn w base' t := ⟨h.s.lower hb, h.h.lower hb⟩
theorem TwOwn.beside {w w' : World} {base base' e sz : Nat} {α : Type} {enc : α → List Value} {T : Option Addr} {c : Nat} {l : List α} {t : Tw} (h : TwOwn w base t) (ho : Owns w base' e sz enc T c l) (hg : w.grownBy w' (blk T)) (h1 : 66 ≠ e) (h2 : 3 ≠ e) : TwOwn w' base t :=
  ⟨h.s.kept hg (h.s.ne ho h1), h.h.kept hg (h.h.ne ho h2)⟩
theorem row_new_at {α : Type} (w : World) (e : TypeId) (sz : Nat) (enc : α → List Value) (x : α) (cs : Array Value) (hcs : cs.toList = enc x) {g : Nat} (hg : g = w.heap.size) : RowAt (w.alloc (.cells cs e)) (g + 1) sz enc (some ⟨g, 0, none⟩) [x] := by
  subst hg; exact row_new w e sz enc x cs hcs
/-- The contents' lists are small enough. -/
def Small (fs : List Fl) : Prop := fs.length ≤ 1048576 ∧ ∀ f ∈ fs, f.slots.length ≤ 1048576 ∧ f.have_.length ≤ 1048576
structure TwRel (w wr : World) (fs : List Fl) (q : Nat) (ts : List Tw) (T : Option Addr) (cT : Nat) (I : Option Addr) (cI : Nat) : Prop where
  len : ts.length = q
  fst : ts.map Tw.f = fs.take q
  own : Owns wr w.heap.size 57 9 eTw T cT ts
  inn : Owns wr w.heap.size 39 7 flTw I cI ts
  each : ∀ t ∈ ts, TwOwn wr w.heap.size t
  bel : Below w.heap.size w wr
def TwinsPost (fs : List Fl) (w : World) (e : Ending) (w' : World) : Prop := ∃ (ts : List Tw) (T : Option Addr) (cT : Nat) (I : Option Addr) (cI : Nat), e = .returned (.tuple #[.slice T fs.length cT, .slice I fs.length cI]) ∧ ts.map Tw.f = fs ∧ TwRel w w' fs fs.length ts T cT I cI
set_option maxRecDepth 100000 in
set_option maxHeartbeats 4000000 in
theorem twins_any (A : Option Addr) (cA N : Nat) (fs : List Fl) (w : World) (hN : N ≤ w.heap.size) (hA : Fls w N A fs) (hsm : Small fs) :
    Calls Try.prog 13 #[.slice A fs.length cA] w (TwinsPost fs w) := by
  obtain ⟨hl, hsm⟩ := hsm
  go_enter Try.func13, Try.ntmps13
  go_wp2
  go_loopw [4, 5, 6] (fun t n k wr => ∃ (q : Nat) (ts : List Tw) (T : Option Addr) (cT : Nat) (I : Option Addr) (cI : Nat), k = .int .i64 q ∧ q ≤ fs.length ∧ t = .slice T q cT ∧ n = .slice I q cI ∧ TwRel w wr fs q ts T cT I cI) (fun _ _ k _ => fs.length - (intOf k).toNat)
  case atStart => exact ⟨0, [], none, 0, some ⟨w.heap.size, 0, none⟩, 0, rfl, by omega, rfl, rfl, ⟨rfl, by simp, owns_nil _ _ _ _ _, owns_empty _ _ _ _ _ (Nat.le_refl _), by simp, (Below.refl _ _).alloc (Nat.le_refl _) _⟩⟩
  case round =>
    obtain ⟨q, ts, T, cT, I, cI, rfl, hq, rfl, rfl, hR⟩ := hrel
    have hb := hR.bel
    have hsz := hb.size
    by_cases hlt : q < fs.length
    · obtain ⟨g, o, f, X, cX, Y, cY, rfl, hg, hf, ⟨c0, c1, c2, c3, c4, c5, c6⟩, hr⟩ := (hA.below hb hN).at_ hlt
      obtain ⟨s1, s2⟩ := hsm f (List.mem_of_getElem? hf.out)
      have hgw : g < wr.heap.size := by omega
      clear hsm hA
      have hTb := hR.own.lo
      have hIb := hR.inn.lo
      go_wp2_with (first | (go_at_call 23; refine (twin_any f X Y cX cY N _ (by omega) hr (by omega) (by omega)).mono ?_; rintro e w' ⟨t, rfl, rfl, htw, hbw⟩; have hbs := hbw.size; have ho1 := ((hR.own.keep hbw (fun k hk => (hTb k hk).2)).alloc (.cells (eTw t).toArray 57)).alloc (.cells (eTw t).toArray 57); have hi1 := ((hR.inn.keep hbw (fun k hk => (hIb k hk).2)).alloc (.cells (eTw t).toArray 57)).alloc (.cells (eTw t).toArray 57); have he1 : ∀ x ∈ ts, TwOwn ((w'.alloc (.cells (eTw t).toArray 57)).alloc (.cells (eTw t).toArray 57)) w.heap.size x := fun x hx => (((hR.each x hx).keep hbw (hR.each x hx).lt.1 (hR.each x hx).lt.2).alloc _).alloc _; have ht1 : TwOwn ((w'.alloc (.cells (eTw t).toArray 57)).alloc (.cells (eTw t).toArray 57)) w.heap.size t := ((htw.lower hsz).alloc _).alloc _; have hb1 : Below w.heap.size w ((w'.alloc (.cells (eTw t).toArray 57)).alloc (.cells (eTw t).toArray 57)) := ((hb.trans (hbw.mono hsz)).alloc (by omega) _).alloc (by simp only [World.size_alloc]; omega) _; unfold eTw) | (at_builtin; refine wpList_append_rows _ rfl (.tmp 20) (.tmp 22) 23 rfl w.heap.size 57 9 136 _ Try.underlying23 info57 rfl (by decide) eTw len_eTw one_eTw T cT ts (some ⟨w'.heap.size + 1, 0, none⟩) 1 (w'.heap.size + 2) q 1 [t] rfl rfl ?_ rfl ?_ ?_ ?_ ?_ ?_ ?_))
      · exact hR.len
      · exact ho1
      · refine row_new_at _ _ _ eTw t _ rfl ?_
        rw [World.size_alloc]
      · omega
      · omega
      · simp only [World.size_alloc]; omega
      · intro T2 cT2 w2 ho2 hg2 hk2
        have hgs := hg2.size
        simp only [World.size_alloc] at hgs
        have hcell : ∀ i, w2.cell? ⟨w'.heap.size, i, none⟩ = (eTw t).toArray[i]? := fun i => by
          rw [World.cell?_of_block (a := ⟨w'.heap.size, i, none⟩) (hg2.block w'.heap.size (by simp only [World.size_alloc]; omega) (fun e => by have := (hTb _ e.symm).2; omega))]
          rw [World.cell?_alloc_past _ _ _ (by simp only [World.size_alloc]; omega)]
          exact World.cell?_alloc_at _ _ _ _ rfl
        unfold eTw at hcell
        have hi2 := hi1.kept hg2 (hi1.ne ho1 (by decide))
        have he2 : ∀ x ∈ ts, TwOwn w2 w.heap.size x := fun x hx => (he1 x hx).beside ho1 hg2 (by decide) (by decide)
        have ht2 := ht1.beside ho1 hg2 (by decide) (by decide)
        have hb2 := hb1.grown hg2 (by simp only [World.size_alloc]; omega) (fun k hk => (hTb k hk).1)
        have hw2 : w'.heap.size < w2.heap.size := by omega
        have hR0 := Lib.hid hR.fst
        have hRl := Lib.hid hR.len
        clear ho1 hi1 he1 ht1 hb1 hg2 hk2 hR htw hbw hb
        go_wp2_with (at_builtin; refine wpList_append_rows _ rfl (.tmp 24) (.tmp 27) 22 rfl w.heap.size 39 7 88 _ Try.underlying22 info39 rfl (by decide) flTw len_flTw one_flTw I cI ts (some ⟨w2.heap.size, 0, none⟩) 1 (w2.heap.size + 1) q 1 [t] rfl rfl ?_ rfl ?_ ?_ ?_ ?_ ?_ ?_)
        · exact hRl.out
        · exact hi2.alloc _
        · exact row_new _ _ _ flTw t _ rfl
        · omega
        · omega
        · simp only [World.size_alloc]; omega
        · intro I2 cI2 w3 hi3 hg3 hk3
          have ho3 := (ho2.alloc (.cells (flTw t).toArray 39)).kept hg3 ((ho2.alloc (.cells (flTw t).toArray 39)).ne (hi2.alloc (.cells (flTw t).toArray 39)) (by decide))
          have he3 : ∀ x ∈ ts ++ [t], TwOwn w3 w.heap.size x := fun x hx => by
            rcases List.mem_append.1 hx with h | h
            · exact ((he2 x h).alloc _).beside (hi2.alloc (.cells (flTw t).toArray 39)) hg3 (by decide) (by decide)
            · simp at h; subst h; exact (ht2.alloc _).beside (hi2.alloc (.cells (flTw x).toArray 39)) hg3 (by decide) (by decide)
          have hb3 := (hb2.alloc (by omega) (.cells (flTw t).toArray 39)).grown hg3 (by simp only [World.size_alloc]; omega) (fun k hk => (hIb k hk).1)
          clear ho2 hi2 he2 ht2 hb2 hcell hg3 hk3
          go_wp2
          go_roundw
          case rel =>
            go_light
            exact ⟨q + 1, ts ++ [t], T2, cT2, I2, cI2, by go_num, by omega, rfl, rfl, ⟨by simp [hRl.out], by rw [List.map_append, hR0.out, List.take_add_one, hf.out]; rfl, ho3, hi3, he3, hb3⟩⟩
          case measure => go_light; simp [intOf]; omega
    · obtain rfl : q = fs.length := by omega
      go_wp2
      go_ret2
      go_light
      exact ⟨ts, T, cT, I, cI, rfl, by rw [hR.fst, List.take_length], hR⟩
end Go.Proofs.Ytcffhfcjfjfokaa
/- Contents as they lie in memory. -/
namespace Go.Proofs.Ytcffhfcjfjfokaa
open Go.RowKit
/-- A content as it lies in memory: with its lists' places. -/
structure Rw where
  f : Fl
  X : Option Addr
  cX : Nat
  Y : Option Addr
  cY : Nat
def eRw (r : Rw) : List Value := [.int .i64 r.f.e, .int .i64 r.f.l, .int .i64 r.f.i, .int .i64 r.f.c, .int .i64 r.f.base, .slice r.X r.f.slots.length r.cX, .slice r.Y r.f.have_.length r.cY]
theorem len_eRw (x : Rw) : (eRw x).length = 7 := rfl
theorem one_eRw (x : Rw) : ∀ u ∈ eRw x, u.oneCell' = true := by intro u hu; simp [eRw] at hu; rcases hu with rfl | rfl | rfl | rfl | rfl | rfl | rfl <;> rfl
structure Rws (w : World) (N : Nat) (A : Option Addr) (rs : List Rw) : Prop where
  row : RowAt w N 7 eRw A rs
  each : ∀ r ∈ rs, FlRows w N r.f r.X r.cX r.Y r.cY
theorem fls_rows {w : World} {N : Nat} {A : Option Addr} {fs : List Fl} (h : Fls w N A fs) : ∃ rs : List Rw, rs.map Rw.f = fs ∧ Rws w N A rs := by
  by_cases h0 : 0 < fs.length
  · obtain ⟨b, off, hA, hb, hc⟩ := h h0
    have key : ∀ n, n ≤ fs.length → ∃ rs : List Rw, rs.map Rw.f = fs.take n ∧ (∀ k r, rs[k]? = some r → FlAt w N b (off + k * 7) r.f r.X r.cX r.Y r.cY ∧ FlRows w N r.f r.X r.cX r.Y r.cY) := by
      intro n
      induction n with
      | zero => intro _; exact ⟨[], by simp, by intro k r hr; simp at hr⟩
      | succ n ih =>
        intro hn
        obtain ⟨rs, h1, h2⟩ := ih (by omega)
        have hlen : rs.length = n := by have := congrArg List.length h1; simp at this; omega
        obtain ⟨X, cX, Y, cY, h3, h4⟩ := hc n fs[n] (List.getElem?_eq_getElem (by omega))
        refine ⟨rs ++ [⟨fs[n], X, cX, Y, cY⟩], ?_, fun k r hr => ?_⟩
        · rw [List.map_append, h1, List.take_add_one, List.getElem?_eq_getElem (by omega)]; rfl
        · by_cases hk : k < rs.length
          · rw [List.getElem?_append_left hk] at hr; exact h2 k r hr
          · rw [List.getElem?_append_right (by omega)] at hr
            obtain rfl : k = n := by
              have := (List.getElem?_eq_some_iff.1 hr).1; simp at this; omega
            rw [hlen] at hr; simp at hr; subst hr
            exact ⟨h3, h4⟩
    obtain ⟨rs, h1, h2⟩ := key fs.length (Nat.le_refl _)
    rw [List.take_length] at h1
    refine ⟨rs, h1, ⟨fun _ => ⟨b, off, hA, hb, fun k r hr j u hu => ?_⟩, fun r hr => ?_⟩⟩
    · obtain ⟨⟨c0, c1, c2, c3, c4, c5, c6⟩, _⟩ := h2 k r hr
      match j, hu with
      | 0, hu => simp [eRw] at hu; subst hu; exact c0
      | 1, hu => simp [eRw] at hu; subst hu; exact c1
      | 2, hu => simp [eRw] at hu; subst hu; exact c2
      | 3, hu => simp [eRw] at hu; subst hu; exact c3
      | 4, hu => simp [eRw] at hu; subst hu; exact c4
      | 5, hu => simp [eRw] at hu; subst hu; exact c5
      | 6, hu => simp [eRw] at hu; subst hu; exact c6
      | n + 7, hu => simp [eRw] at hu
    · obtain ⟨k, hk⟩ := List.mem_iff_getElem?.1 hr
      exact (h2 k r hk).2
  · have : fs = [] := List.eq_nil_of_length_eq_zero (by omega)
    subst this
    exact ⟨[], rfl, ⟨fun h => absurd h (by simp), by simp⟩⟩
theorem rows_fls {w : World} {N : Nat} {A : Option Addr} {rs : List Rw} (h : Rws w N A rs) : Fls w N A (rs.map Rw.f) := fun h0 => by
  obtain ⟨b, off, hA, hb, hc⟩ := h.row (by simpa using h0)
  refine ⟨b, off, hA, hb, fun k f hf => ?_⟩
  rw [List.getElem?_map] at hf
  cases hr : rs[k]? with
  | none => rw [hr] at hf; cases hf
  | some r =>
    rw [hr] at hf; cases hf
    refine ⟨r.X, r.cX, r.Y, r.cY, ⟨?_, ?_, ?_, ?_, ?_, ?_, ?_⟩, h.each r (List.mem_of_getElem? hr)⟩
    · exact hc k r hr 0 _ rfl
    · exact hc k r hr 1 _ rfl
    · exact hc k r hr 2 _ rfl
    · exact hc k r hr 3 _ rfl
    · exact hc k r hr 4 _ rfl
    · exact hc k r hr 5 _ rfl
    · exact hc k r hr 6 _ rfl
end Go.Proofs.Ytcffhfcjfjfokaa
/- What the program's list answers. -/
namespace Go.Proofs.Ytcffhfcjfjfokaa
open Go.RowKit
theorem Rws.below {w w' : World} {N N' : Nat} {A : Option Addr} {rs : List Rw} (h : Rws w N A rs) (hb : Below N' w w') (hN : N ≤ N') : Rws w' N A rs :=
  ⟨h.row.below hb hN, fun r hr => (h.each r hr).below hb hN⟩
/-- What list answers: what joined answers of all of them, if they are not too many. -/
def ListPost (fs gs : List Fl) (w : World) (e : Ending) (w' : World) : Prop :=
  if 1 ≤ fs.length ∧ fs.length ≤ 16 then JoinedPost (fs ++ gs) w e w' else e = .returned (.tuple #[.pointer none, .int .i64 1]) ∧ Below w.heap.size w w'
theorem joined_from {fs : List Fl} {w w1 w' : World} {e : Ending} (h : JoinedPost fs w1 e w') (hb : Below w.heap.size w w1) : JoinedPost fs w e w' := by
  have hs := hb.size
  obtain ⟨h1, h2⟩ := h
  refine ⟨hb.trans (h1.mono hs), ?_⟩
  rcases h2 with h2 | ⟨bs, bu, cut, F, n, a, b, c, d, d2, r⟩
  · exact .inl h2
  · exact .inr ⟨bs, bu, cut, F, n, a, b, c, by omega, by omega, r⟩
set_option maxRecDepth 100000 in
set_option maxHeartbeats 4000000 in
theorem list_any (A B : Option Addr) (cA cB N : Nat) (fs gs : List Fl) (w : World) (hN : N ≤ w.heap.size) (hA : Fls w N A fs) (hB : Fls w N B gs) (hl : fs.length ≤ 9223372036854775807) (hg : gs.length ≤ 1) :
    Calls Try.prog 52 #[.slice A fs.length cA, .slice B gs.length cB] w (ListPost fs gs w) := by
  by_cases h1 : fs.length < 1
  · have HL : Hid (∀ e w', e = .returned (.tuple #[.pointer none, .int .i64 1]) → Below w.heap.size w w' → ListPost fs gs w e w') := by intro e w' a b; show (if _ then _ else _); rw [if_neg (by omega)]; exact ⟨a, b⟩
    go_enter Try.func52, Try.ntmps52
    go_wp2
    go_ret2
    go_light
    exact HL.out _ _ rfl (Below.refl _ _)
  · by_cases h2 : 16 < fs.length
    · have HL : Hid (∀ e w', e = .returned (.tuple #[.pointer none, .int .i64 1]) → Below w.heap.size w w' → ListPost fs gs w e w') := by intro e w' a b; show (if _ then _ else _); rw [if_neg (by omega)]; exact ⟨a, b⟩
      go_enter Try.func52, Try.ntmps52
      go_wp2
      go_ret2
      go_light
      exact HL.out _ _ rfl (Below.refl _ _)
    · have HL : Hid (∀ e w', JoinedPost (fs ++ gs) w e w' → ListPost fs gs w e w') := by intro e w' a; show (if _ then _ else _); rw [if_pos (by omega)]; exact a
      obtain ⟨rs, hrs, hR⟩ := fls_rows hA
      obtain ⟨ss, hss, hS⟩ := fls_rows hB
      have hlr : rs.length = fs.length := by rw [← hrs, List.length_map]
      have hls : ss.length = gs.length := by rw [← hss, List.length_map]
      have Hlr := Lib.hid hlr
      have Hls := Lib.hid hls
      replace hrs := Lib.hid hrs
      replace hss := Lib.hid hss
      clear hlr hls hA hB
      go_enter Try.func52, Try.ntmps52
      go_wp2_with (at_builtin; refine wpList_append_rows _ rfl (.const (.slice none 0 0)) (.tmp 14) 22 rfl w.heap.size 39 7 88 _ Try.underlying22 info39 rfl (by decide) eRw len_eRw one_eRw none 0 [] A cA N 0 fs.length rs rfl rfl rfl ?_ ?_ ?_ ?_ ?_ ?_ ?_)
      · exact Hlr.out
      · exact owns_nil _ _ _ _ _
      · exact hR.row
      · omega
      · omega
      · omega
      · intro A1 c1 w1 ho1 hg1 hk1
        have hb1 : Below w.heap.size w w1 := (Below.refl _ _).grown hg1 (Nat.le_refl _) (by intro k hk; simp [blk] at hk)
        have hlo1 := ho1.lo
        clear hg1 hk1
        go_wp2_with (at_builtin; refine wpList_append_rows _ rfl (.tmp 15) (.tmp 16) 22 rfl w.heap.size 39 7 88 _ Try.underlying22 info39 rfl (by decide) eRw len_eRw one_eRw A1 c1 rs B cB N fs.length gs.length ss rfl rfl ?_ ?_ ?_ ?_ ?_ ?_ ?_ ?_)
        · exact Hlr.out
        · exact Hls.out
        · exact ho1
        · exact hS.row.below hb1 hN
        · omega
        · omega
        · exact hb1.size
        · intro A2 c2 w2 ho2 hg2 hk2
          have hb2 : Below w.heap.size w w2 := hb1.grown hg2 hb1.size (fun k hk => (hlo1 k hk).1)
          have hrow := ho2.row len_eRw
          have hs2 := hb2.size
          have hfl : Fls w2 w2.heap.size A2 (fs ++ gs) := by
            have hx : Rws w2 w2.heap.size A2 (rs ++ ss) := ⟨hrow, fun r hr => by
              rcases List.mem_append.1 hr with h | h
              · exact ((hR.each r h).below hb2 hN).more (by omega)
              · exact ((hS.each r h).below hb2 hN).more (by omega)⟩
            have := rows_fls hx
            rw [List.map_append, hrs.out, hss.out] at this; exact this
          have hlen : fs.length + gs.length = (fs ++ gs).length := by rw [List.length_append]
          have HFl := Lib.hid hfl
          have Hlen := Lib.hid hlen
          clear ho1 ho2 hg2 hk2 hrow hfl hlen hR hS hlo1
          go_wp2_with (go_at_call 97; rw [Hlen.out]; refine (joined_any A2 c2 w2.heap.size (fs ++ gs) w2 (Nat.le_refl _) HFl.out (by rw [← Hlen.out]; omega) (by rw [← Hlen.out]; omega)).mono ?_; intro e w' hj; obtain ⟨hjb, hj⟩ := joined_from hj hb2; rcases hj with ⟨n, rfl, hn1, hn2⟩ | ⟨bs, bu, cut, F, n, rfl, hn1⟩)
          · go_ret2
            go_light
            exact HL.out _ _ ⟨hjb, .inl ⟨n, rfl, hn1, hn2⟩⟩
          · go_ret2
            go_light
            exact HL.out _ _ ⟨hjb, .inr ⟨bs, bu, cut, F, n, rfl, hn1⟩⟩
/-- The error of contents and more contents. -/
def ListedMore (fs gs : List Fl) (n : Int) : Prop := if 1 ≤ fs.length ∧ fs.length ≤ 16 then Together (fs ++ gs) n else n = 1
theorem list_cases {fs gs : List Fl} {w w' : World} {e : Ending} (h : ListPost fs gs w e w') : Below w.heap.size w w' ∧
    ((∃ n, e = .returned (.tuple #[.pointer none, .int .i64 n]) ∧ n ≠ 0 ∧ ListedMore fs gs n) ∨
     (∃ bs bu cut F n, e = .returned (.tuple #[.pointer (some ⟨bs, 0, none⟩), .int .i64 0]) ∧ ListedMore fs gs 0 ∧ Fit (fs ++ gs) ∧ IsCut (fs ++ gs) cut ∧ w.heap.size ≤ bs ∧ w.heap.size ≤ bu ∧
       w'.heap[bs]? = some (.cells #[.int .i64 (baseOf (fs ++ gs)), .int .i64 cut, .map (some bu)] 119 (0, 0)) ∧ MapsTo w' Try.prog 3 bu n vInt vSlot F ∧ ∀ pos s, F pos = some s ↔ Known (fs ++ gs) pos s)) := by
  unfold ListPost at h
  by_cases hl : 1 ≤ fs.length ∧ fs.length ≤ 16
  · rw [if_pos hl] at h
    obtain ⟨hb, h⟩ := h
    refine ⟨hb, ?_⟩
    rcases h with ⟨n, a, b, c⟩ | ⟨bs, bu, cut, F, n, a, b, c, d⟩
    · exact .inl ⟨n, a, b, by unfold ListedMore; rw [if_pos hl]; exact c⟩
    · exact .inr ⟨bs, bu, cut, F, n, a, by unfold ListedMore; rw [if_pos hl]; exact b, fit_iff.1 b, c, d⟩
  · rw [if_neg hl] at h
    exact ⟨h.2, .inl ⟨1, h.1, by decide, by unfold ListedMore; rw [if_neg hl]⟩⟩
end Go.Proofs.Ytcffhfcjfjfokaa
namespace Go.Proofs.Ytcffhfcjfjfokaa
open Go.RowKit
theorem blk_cells {w : World} {g : Nat} {cs : Array Value} {t : TypeId} (h : w.heap[g]? = some (.cells cs t (0, 0))) : ∀ i, w.cell? ⟨g, i, none⟩ = cs[i]? := fun i => cell_of_row w g i cs t (0, 0) h
theorem more_nil {fs : List Fl} {n : Int} (h : ListedMore fs [] n) : Listed fs n := by
  unfold ListedMore at h
  unfold Listed
  rw [List.append_nil] at h; exact h
set_option maxHeartbeats 1000000 in
theorem icut_any (A : Option Addr) (cA N : Nat) (fs : List Fl) (w : World) (hN : N ≤ w.heap.size) (hA : Fls w N A fs) (hl : fs.length ≤ 9223372036854775807) :
    Calls Try.prog 14 #[.slice A fs.length cA] w fun x w' => (∃ k n, x = .returned (.tuple #[.int .i64 k, .int .i64 n]) ∧ CutIs fs k n) ∧ Below w.heap.size w w' := by
  have hB : Fls w N none [] := fun h => absurd h (by simp)
  go_enter Try.func14, Try.ntmps14
  go_wp2_with (go_at_call 52; refine (list_any A none cA 0 N fs [] _ hN hA hB hl (by simp)).mono ?_; intro e w' hp; obtain ⟨hbw, hp⟩ := list_cases hp; rw [List.append_nil] at hp; rcases hp with ⟨n, rfl, hn0, hL⟩ | ⟨bs, bu, cut, F, m, rfl, hL, hfit, hcut, hbs, hbu, hub, hF⟩; all_goals try have hcc := blk_cells hub)
  · go_ret2
    go_light
    exact ⟨⟨0, n, rfl, more_nil hL, fun e => absurd e hn0, fun _ => rfl⟩, hbw⟩
  · go_ret2
    go_light
    exact ⟨⟨cut, 0, rfl, more_nil hL, fun _ => hcut, fun e => absurd rfl e⟩, hbw⟩
end Go.Proofs.Ytcffhfcjfjfokaa
/- A row of the call's own: a stretch copied one place up, an element set; insertion in order. -/
namespace Go.Proofs.Ytcffhfcjfjfokaa
open Go.RowKit
section
variable {P : Program}
theorem run_copy_wide (w : World) (dT sT ty elem : TypeId) (sz g o dLen dCap : Nat) (a : Addr) (sLen sCap : Nat) (cur : Array Value) (t : TypeId) (cs : List Value)
    (hu : P.underlying dT = some (.slice elem)) (hs : (P.info? elem).map (·.size) = some sz)
    (hg : w.heap[g]? = some (.cells cur t (0, 0))) (hn : cs.length = Nat.min sLen dLen * sz)
    (hsrc : ∀ j v, cs[j]? = some v → w.cell? (a.add j) = some v) (hfit : o + cs.length ≤ cur.size) (h1 : ∀ v ∈ cs, v.oneCell' = true) :
    (Builtin.copy_ #[dT, sT] ty #[.slice (some ⟨g, o, none⟩) dLen dCap, .slice (some a) sLen sCap]).run P w =
      .ok (goInt (Nat.min sLen dLen)) (w.setRow g (cur.toList.take o ++ cs ++ cur.toList.drop (o + cs.length)).toArray) := by
  have hl := run_loadCells_list (P := P) w a cs hsrc
  have hst := run_storeCells_at P g o t cs 0 cur w hg (by simpa using hfit) h1
  rw [hn] at hl
  cases hq : P.info? elem with
  | none => simp [hq] at hs
  | some i =>
    have hi : i.size = sz := by simpa [hq] using hs
    simp [Builtin.copy_, run_underlying hu, Builtin.lenOf, Builtin.firstCells, sizeOf, typeInfo, hq, hi, hl, hst]
theorem run_copy_zero (w : World) (dT sT ty elem : TypeId) (sz : Nat) (d : Option Addr) (dCap : Nat) (a : Addr) (sLen sCap : Nat)
    (hu : P.underlying dT = some (.slice elem)) (hs : (P.info? elem).map (·.size) = some sz) :
    (Builtin.copy_ #[dT, sT] ty #[.slice d 0 dCap, .slice (some a) sLen sCap]).run P w = .ok (goInt 0) w := by
  have hl : (loadCells a 0).run P w = .ok #[] w := by simpa using run_loadCells_list (P := P) w a [] (by simp)
  cases hq : P.info? elem with
  | none => simp [hq] at hs
  | some i => cases d <;> simp [Builtin.copy_, run_underlying hu, Builtin.lenOf, Builtin.firstCells, sizeOf, typeInfo, hq, storeCells, hl]
end
theorem flat_take {α : Type} {enc : α → List Value} {sz : Nat} (hsz : ∀ x, (enc x).length = sz) (l : List α) (k : Nat) : (l.flatMap enc).take (k * sz) = (l.take k).flatMap enc := by
  induction l generalizing k with
  | nil => simp
  | cons y l ih =>
    cases k with
    | zero => simp
    | succ k =>
      have e : (k + 1) * sz = sz + k * sz := by rw [Nat.add_mul]; omega
      rw [List.flatMap_cons, List.take_succ_cons, List.flatMap_cons, e, ← ih k, List.take_append, hsz y, List.take_of_length_le (by rw [hsz]; omega)]
      congr 2; omega
theorem flat_set2 : ∀ (l : List (Int × Int)) (k : Nat) (x : Int × Int), k < l.length → ((l.flatMap eSlot).set (k * 2) (.int .i64 x.1)).set (k * 2 + 1) (.int .i64 x.2) = (l.set k x).flatMap eSlot
  | [], k, x, h => by simp at h
  | y :: l, 0, x, _ => by simp [eSlot]
  | y :: l, k + 1, x, h => by
    have ih := flat_set2 l k x (by simpa using h)
    rw [List.set_cons_succ, List.flatMap_cons, List.flatMap_cons, ← ih]
    have e1 : (k + 1) * 2 = k * 2 + 1 + 1 := by omega
    rw [e1]
    simp [eSlot]
/-- Two cells of an own row of slots set: one slot set. -/
theorem Owns.set2 {w : World} {base g c k : Nat} {l : List (Int × Int)} (h : Owns w base 66 2 eSlot (some ⟨g, 0, none⟩) c l) (hk : k < l.length) (x : Int × Int) :
    Owns ((w.setCell ⟨g, k * 2, none⟩ (.int .i64 x.1)).setCell ⟨g, k * 2 + 1, none⟩ (.int .i64 x.2)) base 66 2 eSlot (some ⟨g, 0, none⟩) c (l.set k x) := by
  have h1 := (World.ownsRow.stored h (k * 2) (.int .i64 x.1)).1
  have h2 := (World.ownsRow.stored h1 (k * 2 + 1) (.int .i64 x.2)).1
  rw [flat_set2 l k x hk] at h2
  unfold Owns
  rw [List.length_set]
  exact h2
/-- Is s ahead of t? -/
def sltB (s t : Int × Int) : Bool := decide (s.1 < t.1 ∨ s.1 = t.1 ∧ s.2 < t.2)
/-- s into a list that rises: behind all that are not behind it. -/
def ins (l : List (Int × Int)) (s : Int × Int) : List (Int × Int) := l.takeWhile (fun t => !sltB s t) ++ s :: l.dropWhile (fun t => !sltB s t)
def Rises (l : List (Int × Int)) : Prop := l.Pairwise (fun a b => sltB b a = false)
theorem slt_trans {a b c : Int × Int} (h : sltB a b = false) (h' : sltB b c = false) : sltB a c = false := by
  simp only [sltB, decide_eq_false_iff_not] at *
  omega
theorem slt_of {a b c : Int × Int} (h : sltB a b = true) (h' : sltB c b = false) : sltB a c = true := by
  simp only [sltB, decide_eq_false_iff_not, decide_eq_true_eq] at *
  omega
theorem take_while {α : Type} {p : α → Bool} : ∀ {l : List α} {n : Nat}, (∀ j x, j < n → l[j]? = some x → p x = true) → (∀ x, l[n]? = some x → p x = false) → n ≤ l.length → l.takeWhile p = l.take n ∧ l.dropWhile p = l.drop n
  | [], n, _, _, hn => by simp
  | y :: l, 0, _, h2, _ => by simp [h2 y rfl]
  | y :: l, n + 1, h1, h2, hn => by
    have ih := take_while (l := l) (n := n) (fun j x hj hx => h1 (j + 1) x (by omega) (by simpa using hx)) (fun x hx => h2 x (by simpa using hx)) (by simpa using hn)
    simp [h1 0 y (by omega) rfl, ih]
theorem ins_at {l : List (Int × Int)} {s : Int × Int} {n : Nat} (h1 : ∀ j x, j < n → l[j]? = some x → sltB s x = false) (h2 : ∀ x, l[n]? = some x → sltB s x = true) (hn : n ≤ l.length) : ins l s = l.take n ++ s :: l.drop n := by
  obtain ⟨e1, e2⟩ := take_while (p := fun t => !sltB s t) (fun j x hj hx => by simp [h1 j x hj hx]) (fun x hx => by simp [h2 x hx]) hn
  rw [ins, e1, e2]
theorem rises_low {l : List (Int × Int)} {s : Int × Int} {n : Nat} (hr : Rises l) (h : ∀ x, l[n]? = some x → sltB s x = false) (hn : n < l.length) : ∀ j x, j < n + 1 → l[j]? = some x → sltB s x = false := by
  intro j x hj hx
  by_cases hjn : j = n
  · subst hjn; exact h x hx
  · have hl := (List.getElem?_eq_some_iff.1 hx).1
    have := (List.pairwise_iff_getElem.1 hr) j n hl hn (by omega)
    have hx' := (List.getElem?_eq_some_iff.1 hx).2
    rw [hx'] at this
    exact slt_trans (h _ (List.getElem?_eq_getElem hn)) this
theorem takeWhile_len {α : Type} (p : α → Bool) : ∀ l : List α, ∃ n, n ≤ l.length ∧ (∀ j x, j < n → l[j]? = some x → p x = true) ∧ (∀ x, l[n]? = some x → p x = false)
  | [] => ⟨0, by simp, by intro j x hj; omega, by simp⟩
  | y :: l => by
    by_cases hy : p y = true
    · obtain ⟨n, h1, h2, h3⟩ := takeWhile_len p l
      refine ⟨n + 1, by simpa using h1, fun j x hj hx => ?_, fun x hx => h3 x (by simpa using hx)⟩
      cases j with
      | zero => simp at hx; subst hx; exact hy
      | succ j => exact h2 j x (by omega) (by simpa using hx)
    · exact ⟨0, by simp, by intro j x hj; omega, fun x hx => by simp at hx; subst hx; simpa using hy⟩
theorem rises_ins {l : List (Int × Int)} (hr : Rises l) (s : Int × Int) : Rises (ins l s) := by
  obtain ⟨n, hn, h1, h2⟩ := takeWhile_len (fun t => !sltB s t) l
  rw [ins_at (n := n) (fun j x hj hx => by simpa using h1 j x hj hx) (fun x hx => by simpa using h2 x hx) hn]
  have hle := List.take_append_drop n l
  have hr' : Rises (l.take n ++ l.drop n) := by rw [hle]; exact hr
  obtain ⟨ha, hb, hab⟩ := List.pairwise_append.1 hr'
  refine List.pairwise_append.2 ⟨ha, List.pairwise_cons.2 ⟨fun y hy => ?_, hb⟩, fun x hx y hy => ?_⟩
  · obtain ⟨k, hk⟩ := List.mem_iff_getElem?.1 hy
    rw [List.getElem?_drop] at hk
    have hnl : n < l.length := by have := (List.getElem?_eq_some_iff.1 hk).1; omega
    have hs : sltB s l[n] = true := by simpa using h2 _ (List.getElem?_eq_getElem hnl)
    have hy' : sltB y l[n] = false := by
      by_cases hk0 : k = 0
      · subst hk0; rw [Nat.add_zero, List.getElem?_eq_getElem hnl] at hk; cases hk
        simp [sltB]
      · have hkl := (List.getElem?_eq_some_iff.1 hk).1
        have := (List.pairwise_iff_getElem.1 hr) n (n + k) hnl hkl (by omega)
        rw [(List.getElem?_eq_some_iff.1 hk).2] at this
        exact this
    have := slt_of hs hy'
    simp only [sltB, decide_eq_true_eq, decide_eq_false_iff_not] at *
    omega
  · cases List.mem_cons.1 hy with
    | inl e =>
      subst e
      obtain ⟨k, hk⟩ := List.mem_iff_getElem?.1 hx
      rw [List.getElem?_take] at hk
      split at hk
      · simpa using h1 k x (by assumption) hk
      · cases hk
    | inr e => exact hab x hx y e
theorem ins_length (l : List (Int × Int)) (s : Int × Int) : (ins l s).length = l.length + 1 := by
  have : (l.takeWhile (fun t => !sltB s t)).length + (l.dropWhile (fun t => !sltB s t)).length = l.length := by
    rw [← List.length_append, List.takeWhile_append_dropWhile]
  simp [ins]; omega
/-- The row behind append, copy and store: s put at its place. -/
theorem put_at {l : List (Int × Int)} {s : Int × Int} {n : Nat} (hn : n ≤ l.length) :
    (((l ++ [s]).take (n + 1) ++ ((l ++ [s]).drop n).take (l.length - n)).set n s) = l.take n ++ s :: l.drop n := by
  have e1 : ((l ++ [s]).drop n).take (l.length - n) = l.drop n := by
    rw [List.drop_append_of_le_length hn, List.take_append_of_le_length (by simp), List.take_of_length_le (by simp)]
  rw [e1]
  by_cases h0 : n < l.length
  · rw [List.take_append_of_le_length (by omega), List.take_add_one, List.getElem?_eq_getElem h0]
    simp only [Option.toList]
    rw [List.append_assoc, List.set_append_right _ _ (by simp; omega)]
    simp [Nat.min_eq_left hn]
  · obtain rfl : n = l.length := by omega
    rw [List.take_of_length_le (by simp)]
    simp
/-- 'copy(l[at+1:], l[at:])' on a row of the call's own, as it runs. -/
theorem run_copy_up {α : Type} {P : Program} {w : World} (dT sT ty : TypeId) (base : Nat) (e : TypeId) (sz : Nat) (hu : P.underlying dT = some (.slice e)) (hsz : (P.info? e).map (·.size) = some sz)
    (enc : α → List Value) (henc : ∀ x, (enc x).length = sz) (hone : ∀ x, ∀ u ∈ enc x, u.oneCell' = true)
    (g c at_ n : Nat) (xs : List α) (dp sp : Option Addr) (dl dCap sl sCap : Nat) (hdl : dl = n - at_) (hsl : sl = n + 1 - at_)
    (hn : xs.length = n + 1) (hat : at_ ≤ n) (hdp : at_ < n → dp = some ⟨g, (at_ + 1) * sz, none⟩) (hsp : sp = some ⟨g, at_ * sz, none⟩)
    (hown : Owns w base e sz enc (some ⟨g, 0, none⟩) c xs) :
    ∃ w', (Builtin.copy_ #[dT, sT] ty #[.slice dp dl dCap, .slice sp sl sCap]).run P w = .ok (goInt (n - at_ : Nat)) w' ∧
      Owns w' base e sz enc (some ⟨g, 0, none⟩) c (xs.take (at_ + 1) ++ (xs.drop at_).take (n - at_)) ∧ w.grownBy w' (some g) := by
  subst hdl hsl hsp

  by_cases h0 : at_ < n
  · obtain rfl := hdp h0
    rcases hown.2 with ⟨hv, _⟩ | ⟨g', cap, cur, hv, hb, hg, hnc, hcm, hcs, htake⟩
    · injection hv with hv; cases hv
    · injection hv with hv _ hc
      injection hv with hv; injection hv with hv; subst hv; subst hc
      have hmul : (n + 1) * sz ≤ c * sz := Nat.mul_le_mul_right _ (by omega)
      have e1 : (n + 1) * sz = (at_ + 1) * sz + (n - at_) * sz := by rw [← Nat.add_mul]; congr 1; omega
      have e2 : (n + 1) * sz = at_ * sz + (n + 1 - at_) * sz := by rw [← Nat.add_mul]; congr 1; omega
      have e3 : (n + 1 - at_) * sz = sz + (n - at_) * sz := by rw [show n + 1 - at_ = 1 + (n - at_) by omega, Nat.add_mul]; omega
      let cs := ((xs.drop at_).take (n - at_)).flatMap enc
      have hcl : cs.length = (n - at_) * sz := by
        show (((xs.drop at_).take (n - at_)).flatMap enc).length = _
        rw [length_flat henc, List.length_take, List.length_drop]
        congr 1; omega
      have hmin : Nat.min (n + 1 - at_) (n - at_) = n - at_ := Nat.min_eq_right (by omega)
      have hrun := run_copy_wide (P := P) w dT sT ty e sz g ((at_ + 1) * sz) (n - at_) dCap ⟨g, at_ * sz, none⟩ (n + 1 - at_) sCap cur e cs hu hsz hg (by rw [hmin]; exact hcl)
        (fun j v hj => by
          obtain ⟨k, r, x, hk, hr, rfl⟩ := flatMap_of henc _ j v hj
          have hx : xs[at_ + k]? = some x := by
            have hk' := (List.getElem?_eq_some_iff.1 hk).1
            rw [List.length_take] at hk'
            rw [List.getElem?_take, if_pos (by omega), List.getElem?_drop] at hk
            exact hk
          have := flatMap_at henc xs (at_ + k) r x v hx hr
          rw [Addr.add_lit, cell_of_row w g _ cur e (0, 0) hg]
          have hlt := (List.getElem?_eq_some_iff.1 this).1
          rw [length_flat henc] at hlt
          rw [← htake, List.getElem?_take, if_pos hlt] at this
          rw [show at_ * sz + (k * sz + r) = (at_ + k) * sz + r by rw [Nat.add_mul]; omega]
          simpa using this)
        (by rw [hcl, hcs]; omega) (fun u hu' => by obtain ⟨x, _, hux⟩ := List.mem_flatMap.1 hu'; exact hone x u hux)
      rw [hmin] at hrun
      refine ⟨_, hrun, ?_, ⟨rfl, rfl, rfl, by simp, fun k _ hk => setRow_other w g k _ (fun e => hk (by rw [e]))⟩⟩
      have hlen : (xs.take (at_ + 1) ++ (xs.drop at_).take (n - at_)).length = n + 1 := by simp; omega
      have ht1 : cur.toList.take ((at_ + 1) * sz) = (xs.take (at_ + 1)).flatMap enc := by
        rw [← flat_take henc, ← htake, List.take_take]
        congr 1; rw [hn]; rw [Nat.min_eq_left]; omega
      unfold Owns
      refine ⟨by rw [length_flat henc], .inr ⟨g, c, _, rfl, hb, setRow_heap w g _ _ e _ hg, by omega, hcm, ?_, ?_⟩⟩
      · have := hcs
        rw [List.size_toArray, List.length_append, List.length_append, List.length_take, List.length_drop, hcl]
        rw [Array.length_toList, hcs]; omega
      · rw [hlen, List.flatMap_append, ← ht1]
        have hl2 : (cur.toList.take ((at_ + 1) * sz) ++ cs).length = (n + 1) * sz := by
          rw [List.length_append, List.length_take, hcl, Array.length_toList, hcs]; omega
        show List.take ((n + 1) * sz) (cur.toList.take ((at_ + 1) * sz) ++ cs ++ _) = _
        rw [← hl2, List.take_left']
        rfl
  · have he : at_ = n := by omega
    subst he
    refine ⟨w, ?_, ?_, World.grownBy.refl w _⟩
    · rw [Nat.sub_self]; exact run_copy_zero w dT sT ty e sz dp dCap _ _ sCap hu hsz
    · rw [Nat.sub_self, List.take_zero, List.append_nil, List.take_of_length_le (by omega)]; exact hown
end Go.Proofs.Ytcffhfcjfjfokaa
namespace Go.Proofs.Ytcffhfcjfjfokaa
open Go.RowKit
def cutOff (g c a : Nat) : Option Addr := if c = a then some ⟨g, 0, none⟩ else some ⟨g, a * 2, none⟩
theorem cutOff_at {g c a : Nat} (h : a < c) : cutOff g c a = some ⟨g, a * 2, none⟩ := if_neg (by omega)
/-- 'l[a:]' of a row of slots. -/
theorem run_from (W : World) (g n c a : Nat) (x : Int) (hx : x = a) (ha : a ≤ n) :
    (Instr.sliceAt 36 (.slice (some ⟨g, 0, none⟩) n c) (some (.int .i64 x)) none none).run Try.prog W = .ok (.slice (cutOff g c a) (n - a) (c - a)) W := by
  subst hx
  have he : Try.prog.elem 36 = 66 := by kernel_rfl
  have ht : Try.prog.underlying 36 = some (.slice (Try.prog.elem 36)) := by kernel_rfl
  have hsz : ∀ W, (sizeOf (Try.prog.elem 36)).run Try.prog W = .ok 2 W := fun W => by rw [he]; kernel_rfl
  rw [run_sliceAt_slice (h := ht), run_slice_l (ht := ht) (h0 := by omega) (h1 := by omega), hsz]
  have hc : (if c = a then some (⟨g, 0, none⟩ : Addr) else (some (⟨g, 0, none⟩ : Addr)).map (·.add (a * 2))) = cutOff g c a := by
    unfold cutOff
    by_cases h : c = a
    · rw [if_pos h, if_pos h]
    · rw [if_neg h, if_neg h]; simp [Addr.add]; omega
  simp only [Result.andThen, sliced, Int.toNat_natCast]
  rw [hc]
theorem size66 : (Try.prog.info? 66).map (·.size) = some 2 := by kernel_rfl
theorem own_cell {w : World} {base g c j : Nat} {l : List (Int × Int)} (h : Owns w base 66 2 eSlot (some ⟨g, 0, none⟩) c l) (hj : j < l.length * 2) : ∃ u, w.cell? ⟨g, j, none⟩ = some u := by
  have h1 := World.ownsRow.cellAt h j hj
  rw [h1]
  exact ⟨_, List.getElem?_eq_getElem (by rw [h.1]; exact hj)⟩
theorem own_frozen {w : World} {base g c : Nat} {l : List (Int × Int)} (h : Owns w base 66 2 eSlot (some ⟨g, 0, none⟩) c l) (j : Nat) : w.frozen? ⟨g, j, none⟩ = false := World.ownsRow.frozenAt h j
end Go.Proofs.Ytcffhfcjfjfokaa
