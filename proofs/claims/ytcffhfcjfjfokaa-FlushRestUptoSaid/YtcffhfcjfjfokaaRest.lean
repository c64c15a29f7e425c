/- What Rest answers. -/
import Derived.Test.YtcffhfcjfjfokaaRestSpec
import Derived.Test.YtcffhfcjfjfokaaDatas
import Derived.Test.YtcffhfcjfjfokaaStepApp
import Derived.Test.YtcffhfcjfjfokaaIcut
import Derived.Test.YtcffhfcjfjfokaaKeys
import Derived.Deep.RegionHeld3
import Derived.IntWalk
namespace Go.Proofs.Ytcffhfcjfjfokaa
open Go.RowKit
/-- The senders and numbers can be keys of a map. -/
def KeyD (ds : List Dt) : Prop := ∀ d ∈ ds, (Lit.int .i64 d.s).wf = true ∧ (Lit.int .i64 d.q).wf = true
/-- Messages in rows of the call's own, each one's bytes in a row of its own. -/
structure MsOwn (w : World) (base : Nat) (B : Option Addr) (c : Nat) (rs : List Dr) : Prop where
  row : Owns w base 54 4 eDr B c rs
  each : ∀ r ∈ rs, Owns w base 5 1 eByte r.B r.c r.d.body
  sep : rs.Pairwise fun a b => blk a.B = none ∨ blk a.B ≠ blk b.B
def RestPost (done : Int) (fs : List Fl) (ds : List Dt) (w : World) (x : Ending) (w' : World) : Prop :=
  (∃ B c rs n, x = .returned (.tuple #[.slice B rs.length c, .int .i64 n]) ∧ RestIs done fs ds (rs.map Dr.d) n ∧ MsOwn w' w.heap.size B c rs) ∧ Below w.heap.size w w'
theorem rest_none {done : Int} {fs : List Fl} {ds : List Dt} {w w' : World} {n : Int} (h : RestIs done fs ds [] n) (hb : Below w.heap.size w w') : RestPost done fs ds w (.returned (.tuple #[.slice none 0 0, .int .i64 n])) w' :=
  ⟨⟨none, 0, [], n, rfl, h, ⟨owns_nil _ _ _ _ _, by simp, List.Pairwise.nil⟩⟩, hb⟩
theorem MsOwn.lower {w : World} {base base' : Nat} {B : Option Addr} {c : Nat} {rs : List Dr} (h : MsOwn w base B c rs) (hb : base' ≤ base) : MsOwn w base' B c rs := ⟨h.row.lower hb, fun r hr => (h.each r hr).lower hb, h.sep⟩
theorem MsOwn.snoc {w w7 w8 : World} {base : Nat} {B A1 A8 : Option Addr} {c c1 c8 : Nat} {rs : List Dr} {d : Dt} {o : Obj} (h : MsOwn w base B c rs) (hb7 : Below w.heap.size w w7) (ho7 : Owns w7 base 5 1 eByte A1 c1 d.body) (hA1 : ∀ k, blk A1 = some k → w.heap.size ≤ k)
    (hg8 : (w7.alloc o).grownBy w8 (blk B)) (ho8 : Owns w8 base 54 4 eDr A8 c8 (rs ++ [⟨d, A1, c1⟩])) : MsOwn w8 base A8 c8 (rs ++ [⟨d, A1, c1⟩]) := by
  have hrow7 := (h.row.keep hb7 (fun k hk => (h.row.lo k hk).2)).alloc o
  refine ⟨ho8, fun r hr => ?_, ?_⟩
  · rcases List.mem_append.1 hr with hr | hr
    · have h1 := ((h.each r hr).keep hb7 (fun k hk => ((h.each r hr).lo k hk).2)).alloc o
      exact h1.kept hg8 (h1.ne hrow7 (by decide))
    · obtain rfl := List.mem_singleton.1 hr
      exact (ho7.alloc o).kept hg8 ((ho7.alloc o).ne hrow7 (by decide))
  · refine List.pairwise_append.2 ⟨h.sep, List.pairwise_singleton _ _, fun a ha b hb => ?_⟩
    obtain rfl := List.mem_singleton.1 hb
    cases hab : blk a.B with
    | none => exact .inl rfl
    | some k =>
      refine .inr fun e => ?_
      have h1 := ((h.each a ha).lo k hab).2
      have h2 := hA1 k e.symm
      omega
theorem info54 : (Try.prog.info? 54).map (fun i => (i.zero, i.size, i.bytes)) = some (some (.agg #[.int .i64 0, .int .i64 0, .int .i64 0, .slice none 0 0]), 4, 48) := by kernel_rfl
theorem firstTo_hit {ds : List Dt} {i : Nat} {d : Dt} {v : Int} (hd : ds[i]? = some d) (h : firstTo ds (d.s, d.q) i = some v) : (fun s => firstTo ds s (i + 1)) = fun s => firstTo ds s i := funext fun s => by
  show firstTo ds s (i + 1) = _
  rw [firstTo]
  cases hk : firstTo ds s i with
  | some j => rfl
  | none =>
    rw [hd]
    dsimp only
    rw [if_neg]
    rintro ⟨e1, e2⟩
    have : s = (d.s, d.q) := by rw [e1, e2]
    rw [this, h] at hk; cases hk
theorem firstTo_new {ds : List Dt} {i : Nat} {d : Dt} (hd : ds[i]? = some d) (h : firstTo ds (d.s, d.q) i = none) : (fun s => firstTo ds s (i + 1)) = fun s => if s = (d.s, d.q) then some (i : Int) else firstTo ds s i := funext fun s => by
  show firstTo ds s (i + 1) = _
  rw [firstTo]
  by_cases e : s = (d.s, d.q)
  · subst e
    rw [h, if_pos rfl, hd]
    dsimp only
    rw [if_pos ⟨rfl, rfl⟩]
  · rw [if_neg e]
    cases hk : firstTo ds s i with
    | some j => rfl
    | none =>
      rw [hd]
      dsimp only
      rw [if_neg]
      rintro ⟨e1, e2⟩
      exact e (by rw [e1, e2])
/-- The world in a round: below B0 as it was, the slot's box there. -/
structure RestT (w5 : World) (b : Nat) (bx : Array Value) (W : World) : Prop where
  bel : Below w5.heap.size w5 W
  box : ∀ i, W.cell? ⟨b, i, none⟩ = bx[i]?
  size : b < W.heap.size
  low : w5.heap.size ≤ b
theorem RestT.drew {w5 W : World} {b : Nat} {bx : Array Value} (h : RestT w5 b bx W) : RestT w5 b bx W.drew := ⟨Below.drew h.bel, h.box, h.size, h.low⟩
theorem RestT.below {w5 W W' : World} {b : Nat} {bx : Array Value} (h : RestT w5 b bx W) (hb : Below W.heap.size W W') : RestT w5 b bx W' :=
  ⟨h.bel.trans (hb.mono h.bel.size), fun i => (hb.cell (p := ⟨b, i, none⟩) h.size).trans (h.box i), Nat.lt_of_lt_of_le h.size hb.size, h.low⟩
theorem RestT.alloc {w5 W : World} {b : Nat} {bx : Array Value} (h : RestT w5 b bx W) (o : Obj) : RestT w5 b bx (W.alloc o) := h.below ((Below.refl _ _).alloc (Nat.le_refl _) _)
theorem RestT.grown {w5 W W' : World} {b : Nat} {bx : Array Value} {B : Option Addr} (h : RestT w5 b bx W) (hg : W.grownBy W' (blk B)) (hB : ∀ k, blk B = some k → w5.heap.size ≤ k ∧ k < b) : RestT w5 b bx W' :=
  ⟨h.bel.grown hg h.bel.size (fun k hk => (hB k hk).1), fun i => (hg.cell_far ⟨b, i, none⟩ h.size (fun e => by have := (hB b e.symm).2; omega)).trans (h.box i), Nat.lt_of_lt_of_le h.size hg.size, h.low⟩
set_option maxRecDepth 100000 in
set_option maxHeartbeats 4000000 in
theorem rest_any (done : Int) (A M : Option Addr) (cA cM N : Nat) (fs : List Fl) (ds : List Dt) (w : World) (hN : N ≤ w.heap.size) (hA : Fls w N A fs) (hM : Dts w N M ds) (hl : fs.length ≤ 9223372036854775807) (hsm : SmallD ds) (hkd : KeyD ds) :
    Calls Try.prog 19 #[.int .i64 done, .slice A fs.length cA, .slice M ds.length cM] w (RestPost done fs ds w) := by
  have hld : ds.length ≤ 1048576 := hsm.1
  replace hsm := Lib.hid hsm
  replace hkd := Lib.hid hkd
  by_cases h1 : done < 0
  · have HL : Hid (RestIs done fs ds [] 1) := by show (if _ then _ else _); rw [if_neg (by omega)]; exact ⟨rfl, rfl⟩
    go_enter Try.func19, Try.ntmps19
    go_wp2
    go_ret2
    go_light
    exact rest_none HL.out (Below.refl _ _)
  · by_cases h2 : 4611686018427387904 < done
    · have HL : Hid (RestIs done fs ds [] 1) := by show (if _ then _ else _); rw [if_neg (by omega)]; exact ⟨rfl, rfl⟩
      go_enter Try.func19, Try.ntmps19
      go_wp2
      go_ret2
      go_light
      exact rest_none HL.out (Below.refl _ _)
    · have hmm := @run_makeMap Try.prog
      have H52 := Lib.hid (list_any A none cA 0 N fs [] w hN hA (fun h => absurd h (by simp)) hl (by simp))
      go_enter Try.func19, Try.ntmps19
      go_wp2_with (go_at_call 52; refine H52.out.mono ?_; intro e w' hp; obtain ⟨hbw, hp⟩ := list_cases hp; rw [List.append_nil] at hp; rcases hp with ⟨n, rfl, hn0, hL⟩ | ⟨bs, bu, cut, F, m, rfl, hL, hfit, hcut, hbs, hbu, hub, hMu, hF⟩; all_goals try (have hcc0 : w'.cell? ⟨bs, 0, none⟩ = some (.int .i64 (baseOf fs)) := (blk_cells hub 0); have hbsl : bs < w'.heap.size := (Array.getElem?_eq_some_iff.1 hub).1))
      · go_ret2
        go_light
        exact rest_none (by unfold RestIs; rw [if_pos (by omega)]; exact .inl ⟨n, hn0, more_nil hL, rfl, rfl⟩) hbw
      · have hlt : done < baseOf fs := by simp_all
        go_ret2
        go_light
        exact rest_none (by unfold RestIs; rw [if_pos (by omega)]; exact .inr (.inl ⟨more_nil hL, hfit, hlt, rfl, rfl⟩)) hbw
      · have hge : baseOf fs ≤ done := by simp_all
        have hsw := hbw.size
        replace hub := Lib.hid hub
        have hfit' := Lib.hid hfit
        have hcut' := Lib.hid hcut
        have hF' := Lib.hid hF
        have hL' := Lib.hid (more_nil hL)
        clear hfit hcut hF hL hcc0 H52
        clear hmm
        go_loopw [44] (fun k wr => ∃ (i n : Nat), k = .int .i64 i ∧ i ≤ ds.length ∧ MapsTo wr Try.prog 66 w'.heap.size n vSlot vInt (fun s => firstTo ds s i) ∧ Below w'.heap.size w' wr ∧ w'.heap.size + 1 ≤ wr.heap.size) (fun k _ => ds.length - (intOf k).toNat)
        case atStart => exact ⟨0, 0, rfl, by omega, mapsTo_made _ _ _ _ _, (Below.refl _ _).alloc (Nat.le_refl _) _, by simp⟩
        case round =>
          obtain ⟨i, n, rfl, hi, hmp, hb, hsz⟩ := hrel
          have hbr := hbw.trans (hb.mono hsw)
          by_cases hlt : i < ds.length
          · obtain ⟨g, o, d, X, cX, hMe, hg, hd, c0, c1, c2, c3, hX⟩ := (hM.below hbr hN).at_ hlt
            subst hMe
            obtain ⟨hw1, hw2⟩ := hkd.out d (List.mem_of_getElem? hd.out)
            have hkey := Lib.hid (key_slot d.s d.q hw1 hw2)
            have hgw : g < wr.heap.size := by omega
            have m2 : MapsTo ((wr.alloc (.cells #[.int .i64 d.s, .int .i64 d.q, .int .i64 d.b, .slice X d.body.length cX] 113)).alloc (.cells #[.int .i64 d.s, .int .i64 d.q] 66)) Try.prog 66 w'.heap.size n vSlot vInt (fun s => firstTo ds s i) := (hmp.alloc _).alloc _
            have hb2 : Below w'.heap.size w' ((wr.alloc (.cells #[.int .i64 d.s, .int .i64 d.q, .int .i64 d.b, .slice X d.body.length cX] 113)).alloc (.cells #[.int .i64 d.s, .int .i64 d.q] 66)) := (hb.alloc (by omega) _).alloc (by simp only [World.size_alloc]; omega) _
            have hlook := m2.look lawSlot vSlot_inj Try.underlying121 (zero3 _) true (d.s, d.q) hkey.out
            clear hw1 hw2 hX
            cases hf : firstTo ds (d.s, d.q) i with
            | some v =>
              have hm3 := m2
              rw [← firstTo_hit hd.out hf] at hm3
              rw [hf] at hlook
              simp only [vSlot, vInt] at hlook
              replace hm3 := Lib.hid hm3
              replace hf := Lib.hid hf
              replace hb2 := Lib.hid hb2
              clear m2 hmp
              go_wp2
              go_roundw
              case rel => go_light; exact ⟨i + 1, n, by go_num, by omega, hm3.out, hb2.out, by simp only [World.size_alloc]; omega⟩
              case measure => go_light; simp [intOf]; omega
            | none =>
              rw [hf] at hlook
              simp only [vSlot, vInt] at hlook
              replace m2 := Lib.hid m2
              replace hf := Lib.hid hf
              replace hb2 := Lib.hid hb2
              clear hmp
              go_wp2_with (at_mapUpdate; refine wpList_put _ rfl (.tmp 62) (.tmp 63) (.tmp 64) 121 rfl 66 3 lawSlot Try.underlying121 w'.heap.size n vSlot vInt vSlot_inj (fun s => firstTo ds s i) rfl m2.out (d.s, d.q) (i : Int) rfl rfl hkey.out ?_)
              intro w6 m6 hg6
              rw [← firstTo_new hd.out hf.out] at m6
              have hb6 := hb2.out.grown hg6 (by simp only [World.size_alloc]; omega) (by intro k hk; injection hk with hk; omega)
              have hs6 := hg6.size
              simp only [World.size_alloc] at hs6
              clear hg6 hlook
              go_wp2
              go_roundw
              case rel => go_light; exact ⟨i + 1, n + 1, by go_num, by omega, m6, hb6, by omega⟩
              case measure => go_light; simp [intOf]; omega
          · obtain rfl : i = ds.length := by omega
            obtain ⟨w5, hw5⟩ : ∃ w5 : World, w5 = wr := ⟨_, rfl⟩
            subst hw5
            have hcb := cut_bound hfit'.out (n := (cut - baseOf fs).toNat) (fun p h1 h2 => hcut'.out.all p h1 (by have := hcut'.out.low; omega))
            have hlow := hcut'.out.low
            have hbn := base_nonneg fs
            have hbl := base_le hfit'.out.sound
            have hub5 := Lib.hid ((hb.block bs hbsl).trans hub.out)
            have hMu5 := Lib.hid (hMu.keep hb hMu.lt)
            have hbu5 : bu < w5.heap.size := hMu5.out.lt
            have hbs5 : bs < w5.heap.size := by omega
            have hmp5 := Lib.hid hmp
            have hbm5 := hmp.lt
            clear hMu hmp hub
            go_wp2
            go_loopw [16, 17] (fun a b wr => ∃ (k : Nat) (B : Option Addr) (c m : Nat) (rs : List Dr), b = .int .i64 (done + 1 + k) ∧ a = .slice B m c ∧ rs.length = m ∧ k ≤ (cut - done).toNat ∧ RestTo F ds done k (rs.map Dr.d) ∧ MsOwn wr w5.heap.size B c rs ∧ m ≤ k ∧ Below w5.heap.size w5 wr) (fun _ b _ => (cut + 1 - intOf b).toNat)
            case atStart => exact ⟨0, none, 0, 0, [], by simp, rfl, rfl, by omega, .nil, ⟨owns_nil _ _ _ _ _, by simp, List.Pairwise.nil⟩, by omega, Below.refl _ _⟩
            case round =>
              obtain ⟨k, B, c, mm, rs, rfl, rfl, hm, hk, hrt, hown, hmk, hb9⟩ := hrel
              have hm' := Lib.hid hm
              have hs9 := hb9.size
              have hbw9 := hbr.trans (hb9.mono (by omega))
              have hcu := blk_cells ((hb9.block bs hbs5).trans hub5.out)
              have u1 := hcu 1
              have u2 := hcu 2
              simp at u1 u2
              replace hrt := Lib.hid hrt
              clear hcu hm
              by_cases hlt : done + 1 + k ≤ cut
              · obtain ⟨⟨x, y⟩, hs, -⟩ := (whole_iff hfit'.out).1 (hcut'.out.all (done + 1 + k) (by omega) hlt)
                have hFk := (hF'.out _ _).2 hs
                obtain ⟨gk, hgk, kk1, kk2, kk3, kk4, _⟩ := known_slot hfit'.out hs
                have hsd := (hfit'.out.sound gk hgk).high
                simp only at kk1 kk2 kk3 kk4
                have hkey := Lib.hid (key_slot x y (WalkArith.wf_i64 (by omega)) (WalkArith.wf_i64 (by omega)))
                have hkeyp := Lib.hid (key_int (done + 1 + (k : Int)) (WalkArith.wf_i64 (by omega)))
                have hMu9 := hMu5.out.keep hb9 hbu5
                have hlookA := hMu9.look lawInt vInt_inj Try.underlying117 (zero66 _) false (done + 1 + (k : Int)) hkeyp.out
                rw [hFk] at hlookA
                simp only [vInt, vSlot] at hlookA
                have hmp9 := (hmp5.out.keep hb9 hbm5).alloc (.cells #[.int .i64 x, .int .i64 y] 66)
                have hlookB := hmp9.look lawSlot vSlot_inj Try.underlying121 (zero3 _) true (x, y) hkey.out
                replace hFk := Lib.hid hFk
                clear hs hgk kk1 kk2 kk3 kk4 hsd hMu9 hmp9
                cases hf : firstTo ds (x, y) ds.length with
                | none =>
                  rw [hf] at hlookB
                  simp only [vSlot, vInt] at hlookB
                  have hRI : RestIs done fs ds [] 81 := by
                    unfold RestIs; rw [if_pos (by omega)]
                    exact .inr (.inr ⟨hL'.out, hfit'.out, hge, cut, F, hcut'.out, hF'.out, .inr ⟨rfl, rfl, k, (x, y), by omega, hFk.out, upto_all (firstTo_some.firstTo_none hf) (Nat.le_refl _)⟩⟩)
                  replace hRI := Lib.hid hRI
                  replace hf := Lib.hid hf
                  go_wp2
                  go_ret2
                  go_light
                  exact rest_none hRI.out (hbw9.alloc (by omega) _)
                | some v =>
                  rw [hf] at hlookB
                  simp only [vSlot, vInt] at hlookB
                  obtain ⟨i, d, rfl, hil, hd, e1, e2, e3⟩ := firstTo_some hf
                  have hFD := Lib.hid (show FirstD ds (x, y) d from ⟨i, hd, e1, e2, e3⟩)
                  obtain ⟨g, o, d', X, cX, hMe, hg, hd', c0, c1, c2, c3, hX⟩ := (hM.below hbw9 hN).at_ hil
                  obtain rfl : d = d' := by have := hd'.out; rw [hd] at this; injection this
                  subst hMe
                  have hgw : g < wr.heap.size := by omega
                  have hs1 := hsm.out.2 d (List.mem_of_getElem? hd)
                  have hil' : (i : Int) < ds.length := by omega
                  replace hf := Lib.hid hf
                  have hdd := Lib.hid hd
                  clear hd e1 e2 e3 hd' c0 c1 c2
                  have hT0 : RestT w5 wr.heap.size #[.int .i64 x, .int .i64 y] (wr.alloc (.cells #[.int .i64 x, .int .i64 y] 66)) := ⟨hb9.alloc (by omega) _, fun i => World.cell?_alloc_at _ _ _ _ rfl, by simp, hs9⟩
                  have hT0d := hT0.drew
                  have hw5X : BodyAt w5 N X cX d.body ∧ w5.cell? ⟨g, o + i * 4 + 3, none⟩ = some (.slice X d.body.length cX) := by
                    obtain ⟨g2, o2, d2, X2, cX2, he, _, hd2, _, _, _, k3, hX2⟩ := (hM.below hbr hN).at_ hil
                    injection he with he; injection he with he1 he2; subst he1 he2
                    have e3 := (hb9.cell (p := ⟨g, o + i * 4 + 3, none⟩) (by show g < _; omega)).trans k3
                    rw [c3] at e3
                    injection e3 with e3; injection e3 with e4 e5 e6
                    obtain rfl : d = d2 := by have := hd2.out; rw [hdd.out] at this; injection this
                    subst e4 e6
                    exact ⟨hX2, k3⟩
                  obtain ⟨hX5, c35⟩ := hw5X
                  have hXr : ∀ W : World, RestT w5 wr.heap.size #[.int .i64 x, .int .i64 y] W → RowAt W N 1 eByte X d.body := fun W h => hX5.row.below h.bel (by omega)
                  have hall : ∀ W : World, RestT w5 wr.heap.size #[.int .i64 x, .int .i64 y] W → (RestT w5 wr.heap.size #[.int .i64 x, .int .i64 y] W ∧ W.cell? ⟨wr.heap.size, 0, none⟩ = some (.int .i64 x) ∧ W.cell? ⟨wr.heap.size, 1, none⟩ = some (.int .i64 y) ∧ W.cell? ⟨g, o + i * 4 + 3, none⟩ = some (.slice X d.body.length cX)) := fun W h => ⟨h, h.box 0, h.box 1, (h.bel.cell (p := ⟨g, _, none⟩) (by show g < _; omega)).trans c35⟩
                  have hszW : ∀ W : World, RestT w5 wr.heap.size #[.int .i64 x, .int .i64 y] W → w5.heap.size ≤ W.heap.size := fun W h => h.bel.size
                  have hlo := hown.row.lo
                  replace hXr := Lib.hid hXr
                  replace hall := Lib.hid hall
                  replace hszW := Lib.hid hszW
                  have hown' := Lib.hid hown
                  clear hX hown hX5 c35
                  go_wp2
                  go_region_held3 (fun W => RestT w5 wr.heap.size #[.int .i64 x, .int .i64 y] W ∧ W.cell? ⟨wr.heap.size, 0, none⟩ = some (.int .i64 x) ∧ W.cell? ⟨wr.heap.size, 1, none⟩ = some (.int .i64 y) ∧ W.cell? ⟨g, o + i * 4 + 3, none⟩ = some (.slice X d.body.length cX))
                    ((refine hall.out _ ?_; first | exact hT0d | exact (‹RestT w5 _ _ _ ∧ _›).1.alloc _ | exact (‹RestT w5 _ _ _ ∧ _›).1.below hb7 | exact (‹RestT w5 _ _ _ ∧ _›).1.grown hg8.out hlo))
                    (first
                      | (refine step_append_rows rfl (.const (.slice none 0 0)) (.tmp 100) 52 rfl w5.heap.size 5 1 1 _ Try.underlying52 info5 rfl (by decide) eByte len_eByte one_eByte none 0 [] X cX N 0 d.body.length d.body rfl rfl rfl rfl (owns_nil _ _ _ _ _) (hXr.out _ (‹RestT w5 _ _ _ ∧ _›).1) (by omega) (by omega) (hszW.out _ (‹RestT w5 _ _ _ ∧ _›).1) ?_; intro A1 cc1 w7 ho7 hg7 hk7; have hb7 := (Below.refl _ _).grown hg7 (Nat.le_refl _) (by intro k hk; cases hk); have hb7w : Below wr.heap.size wr w7 := (Below.drew ((Below.refl wr.heap.size wr).alloc (Nat.le_refl _) (.cells #[.int .i64 x, .int .i64 y] 66))).trans (hb7.mono (by simp)); rw [Nat.zero_add]; replace ho7 := Lib.hid ho7; replace hk7 := Lib.hid hk7)
                      | (refine step_append_rows rfl (.tmp 90) (.tmp 103) 44 rfl w5.heap.size 54 4 48 _ Try.underlying44 info54 rfl (by decide) eDr len_eDr one_eDr B c rs (some ⟨w7.heap.size, 0, none⟩) 1 (w7.heap.size + 1) mm 1 [⟨⟨done + 1 + k, x, y, d.body⟩, A1, cc1⟩] rfl rfl hm'.out rfl ((hown'.out.row.keep hb7w (fun k hk => (hlo k hk).2)).alloc _) (row_new _ _ _ _ _ _ rfl) (by omega) (by omega) (hszW.out _ (‹RestT w5 _ _ _ ∧ _›).1) ?_; intro A8 c8 w8 ho8 hg8 hk8; replace ho8 := Lib.hid ho8; replace hg8 := Lib.hid hg8))
                  have hbl := (‹RestT w5 _ _ _ ∧ _›).1.bel
                  have hA1 : ∀ j, blk A1 = some j → wr.heap.size ≤ j := fun j hj => by
                    rcases hk7.out with h | h
                    · rw [h] at hj; cases hj
                    · rw [h] at hj; injection hj with hj; rw [← hj]; simp
                  have hM8 := MsOwn.snoc (d := ⟨done + 1 + k, x, y, d.body⟩) hown'.out hb7w ho7.out hA1 hg8.out ho8.out
                  have hrt8 : RestTo F ds done (k + 1) ((rs ++ [(⟨⟨done + 1 + k, x, y, d.body⟩, A1, cc1⟩ : Dr)]).map Dr.d) := by
                    rw [List.map_append]; exact RestTo.snoc hrt.out hFk.out hFD.out
                  have hl8 : (rs ++ [(⟨⟨done + 1 + k, x, y, d.body⟩, A1, cc1⟩ : Dr)]).length = mm + 1 := by rw [List.length_append, hm'.out]; rfl
                  replace hM8 := Lib.hid hM8
                  replace hrt8 := Lib.hid hrt8
                  replace hl8 := Lib.hid hl8
                  clear hA1 hb7 hb7w hlookA hlookB u1 u2
                  go_wp2
                  go_roundw
                  case rel => go_light; exact ⟨k + 1, A8, c8, mm + 1, _, by rw [show ((k + 1 : Nat) : Int) = k + 1 by omega]; congr 1; omega, rfl, hl8.out, by omega, hrt8.out, hM8.out, by omega, hbl⟩
                  case measure => go_light; simp [intOf]; omega
              · have hke : k = (cut - done).toNat := by omega
                subst hke
                have hRI : RestIs done fs ds (rs.map Dr.d) 0 := by
                  unfold RestIs; rw [if_pos (by omega)]
                  exact .inr (.inr ⟨hL'.out, hfit'.out, hge, cut, F, hcut'.out, hF'.out, .inl ⟨rfl, hrt.out⟩⟩)
                have hO := hown.lower (base' := w.heap.size) (by omega)
                replace hRI := Lib.hid hRI
                replace hO := Lib.hid hO
                clear hown
                rw [← hm'.out]
                go_wp2
                go_ret2
                go_light
                exact ⟨⟨B, c, rs, 0, rfl, hRI.out, hO.out⟩, hbw9⟩
end Go.Proofs.Ytcffhfcjfjfokaa
