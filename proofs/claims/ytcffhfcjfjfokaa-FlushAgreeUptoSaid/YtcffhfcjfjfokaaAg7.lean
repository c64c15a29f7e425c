/- Rest KeepApp Bodies SameSl Among Twice SharesWalk AgreeLaw3 AtN ManyOwn SetRw RwMem MixC, joined. -/
import Derived.Deep.RegionHeld3
import Derived.IntWalk
import Derived.StillTailTactics
import Derived.Deep.MidRow
import Derived.Test.YtcffhfcjfjfokaaAg1
import Derived.Test.YtcffhfcjfjfokaaAg2
import Derived.Test.YtcffhfcjfjfokaaAg3
import Derived.Test.YtcffhfcjfjfokaaAg4
import Derived.Test.YtcffhfcjfjfokaaAg5
import Derived.Test.YtcffhfcjfjfokaaAg6
set_option linter.unusedVariables false
set_option linter.unusedSimpArgs false
/- What Rest answers. -/
namespace Go.Proofs.Ytcffhfcjfjfokaa
open Go.RowKit
/-- The senders and numbers can be keys of a map. -/
def KeyD (ds : List Dt) : Prop := ∀ d ∈ ds, (Lit.int .i64 d.s).wf = true ∧ (Lit.int .i64 d.q).wf = true
/-- Messages in rows of the call's own, each one's bytes in a row of its own. -/
structure MsOwn (w : World) (base : Nat) (B : Option Addr) (c : Nat) (rs : List Dr) : Prop where
  row : Owns w base 54 4 eDr B c rs
  each : ∀ r ∈ rs, Owns w base 5 1 eByte r.B r.c r.d.body
  sep : rs.Pairwise fun a b => blk a.B = none ∨ blk a.B ≠ blk b.B
def RestPost (done : Int) (fs : List Fl) (ds : List Dt) (w : World) (x : Ending) (w' : World) : Prop :=
  (∃ B c rs n, x = .returned (.tuple #[.slice B rs.length c, .int .i64 n]) ∧ RestIs done fs ds (rs.map Dr.d) n ∧ MsOwn w' w.heap.size B c rs) ∧ Below w.heap.size w w'
theorem rest_none {done : Int} {fs : List Fl} {ds : List Dt} {w w' : World} {n : Int} (h : RestIs done fs ds [] n) (hb : Below w.heap.size w w') : RestPost done fs ds w (.returned (.tuple #[.slice none 0 0, .int .i64 n])) w' :=
  ⟨⟨none, 0, [], n, rfl, h, ⟨owns_nil _ _ _ _ _, by simp, List.Pairwise.nil⟩⟩, hb⟩
theorem MsOwn.lower {w : World} {base base' : Nat} {B : Option Addr} {c : Nat} {rs : List Dr} (h : MsOwn w base B c rs) (hb : base' ≤ base) : MsOwn w base' B c rs := ⟨h.row.lower hb, fun r hr => (h.each r hr).lower hb, h.sep⟩
theorem MsOwn.snoc {w w7 w8 : World} {base : Nat} {B A1 A8 : Option Addr} {c c1 c8 : Nat} {rs : List Dr} {d : Dt} {o : Obj} (h : MsOwn w base B c rs) (hb7 : Below w.heap.size w w7) (ho7 : Owns w7 base 5 1 eByte A1 c1 d.body) (hA1 : ∀ k, blk A1 = some k → w.heap.size ≤ k)
    (hg8 : (w7.alloc o).grownBy w8 (blk B)) (ho8 : Owns w8 base 54 4 eDr A8 c8 (rs ++ [⟨d, A1, c1⟩])) : MsOwn w8 base A8 c8 (rs ++ [⟨d, A1, c1⟩]) := by
  have hrow7 := (h.row.keep hb7 (fun k hk => (h.row.lo k hk).2)).alloc o
  refine ⟨ho8, fun r hr => ?_, ?_⟩
  · rcases List.mem_append.1 hr with hr | hr
    · have h1 := ((h.each r hr).keep hb7 (fun k hk => ((h.each r hr).lo k hk).2)).alloc o
      exact h1.kept hg8 (h1.ne hrow7 (by decide))
    · obtain rfl := List.mem_singleton.1 hr
      exact (ho7.alloc o).kept hg8 ((ho7.alloc o).ne hrow7 (by decide))
  · refine List.pairwise_append.2 ⟨h.sep, List.pairwise_singleton _ _, fun a ha b hb => ?_⟩
    obtain rfl := List.mem_singleton.1 hb
    cases hab : blk a.B with
    | none => exact .inl rfl
    | some k =>
      refine .inr fun e => ?_
      have h1 := ((h.each a ha).lo k hab).2
      have h2 := hA1 k e.symm
      omega
theorem info54 : (Try.prog.info? 54).map (fun i => (i.zero, i.size, i.bytes)) = some (some (.agg #[.int .i64 0, .int .i64 0, .int .i64 0, .slice none 0 0]), 4, 48) := by kernel_rfl
theorem firstTo_hit {ds : List Dt} {i : Nat} {d : Dt} {v : Int} (hd : ds[i]? = some d) (h : firstTo ds (d.s, d.q) i = some v) : (fun s => firstTo ds s (i + 1)) = fun s => firstTo ds s i := funext fun s => by
  show firstTo ds s (i + 1) = _
  rw [firstTo]
  cases hk : firstTo ds s i with
  | some j => rfl
  | none =>
    rw [hd]
    dsimp only
    rw [if_neg]
    rintro ⟨e1, e2⟩
    have : s = (d.s, d.q) := by rw [e1, e2]
    rw [this, h] at hk; cases hk
theorem firstTo_new {ds : List Dt} {i : Nat} {d : Dt} (hd : ds[i]? = some d) (h : firstTo ds (d.s, d.q) i = none) : (fun s => firstTo ds s (i + 1)) = fun s => if s = (d.s, d.q) then some (i : Int) else firstTo ds s i := funext fun s => by
  show firstTo ds s (i + 1) = _
  rw [firstTo]
  by_cases e : s = (d.s, d.q)
  · subst e
    rw [h, if_pos rfl, hd]
    dsimp only
    rw [if_pos ⟨rfl, rfl⟩]
  · rw [if_neg e]
    cases hk : firstTo ds s i with
    | some j => rfl
    | none =>
      rw [hd]
      dsimp only
      rw [if_neg]
      rintro ⟨e1, e2⟩
      exact e (by rw [e1, e2])
/-- The world in a round: below B0 as it was, the slot's box there. -/
structure RestT (w5 : World) (b : Nat) (bx : Array Value) (W : World) : Prop where
  bel : Below w5.heap.size w5 W
  box : ∀ i, W.cell? ⟨b, i, none⟩ = bx[i]?
  size : b < W.heap.size
  low : w5.heap.size ≤ b
theorem RestT.drew {w5 W : World} {b : Nat} {bx : Array Value} (h : RestT w5 b bx W) : RestT w5 b bx W.drew := ⟨Below.drew h.bel, h.box, h.size, h.low⟩
theorem RestT.below {w5 W W' : World} {b : Nat} {bx : Array Value} (h : RestT w5 b bx W) (hb : Below W.heap.size W W') : RestT w5 b bx W' :=
  ⟨h.bel.trans (hb.mono h.bel.size), fun i => (hb.cell (p := ⟨b, i, none⟩) h.size).trans (h.box i), Nat.lt_of_lt_of_le h.size hb.size, h.low⟩
theorem RestT.alloc {w5 W : World} {b : Nat} {bx : Array Value} (h : RestT w5 b bx W) (o : Obj) : RestT w5 b bx (W.alloc o) := h.below ((Below.refl _ _).alloc (Nat.le_refl _) _)
theorem RestT.grown {w5 W W' : World} {b : Nat} {bx : Array Value} {B : Option Addr} (h : RestT w5 b bx W) (hg : W.grownBy W' (blk B)) (hB : ∀ k, blk B = some k → w5.heap.size ≤ k ∧ k < b) : RestT w5 b bx W' :=
  ⟨h.bel.grown hg h.bel.size (fun k hk => (hB k hk).1), fun i => (hg.cell_far ⟨b, i, none⟩ h.size (fun e => by have := (hB b e.symm).2; omega)).trans (h.box i), Nat.lt_of_lt_of_le h.size hg.size, h.low⟩
set_option maxRecDepth 100000 in
set_option maxHeartbeats 4000000 in
theorem rest_any (done : Int) (A M : Option Addr) (cA cM N : Nat) (fs : List Fl) (ds : List Dt) (w : World) (hN : N ≤ w.heap.size) (hA : Fls w N A fs) (hM : Dts w N M ds) (hl : fs.length ≤ 9223372036854775807) (hsm : SmallD ds) (hkd : KeyD ds) :
    Calls Try.prog 19 #[.int .i64 done, .slice A fs.length cA, .slice M ds.length cM] w (RestPost done fs ds w) := by
  have hld : ds.length ≤ 1048576 := hsm.1
  replace hsm := Lib.hid hsm
  replace hkd := Lib.hid hkd
  by_cases h1 : done < 0
  · have HL : Hid (RestIs done fs ds [] 1) := by show (if _ then _ else _); rw [if_neg (by omega)]; exact ⟨rfl, rfl⟩
    go_enter Try.func19, Try.ntmps19
    go_wp2
    go_ret2
    go_light
    exact rest_none HL.out (Below.refl _ _)
  · by_cases h2 : 4611686018427387904 < done
    · have HL : Hid (RestIs done fs ds [] 1) := by show (if _ then _ else _); rw [if_neg (by omega)]; exact ⟨rfl, rfl⟩
      go_enter Try.func19, Try.ntmps19
      go_wp2
      go_ret2
      go_light
      exact rest_none HL.out (Below.refl _ _)
    · have hmm := @run_makeMap Try.prog
      have H52 := Lib.hid (list_any A none cA 0 N fs [] w hN hA (fun h => absurd h (by simp)) hl (by simp))
      go_enter Try.func19, Try.ntmps19
      go_wp2_with (go_at_call 52; refine H52.out.mono ?_; intro e w' hp; obtain ⟨hbw, hp⟩ := list_cases hp; rw [List.append_nil] at hp; rcases hp with ⟨n, rfl, hn0, hL⟩ | ⟨bs, bu, cut, F, m, rfl, hL, hfit, hcut, hbs, hbu, hub, hMu, hF⟩; all_goals try (have hcc0 : w'.cell? ⟨bs, 0, none⟩ = some (.int .i64 (baseOf fs)) := (blk_cells hub 0); have hbsl : bs < w'.heap.size := (Array.getElem?_eq_some_iff.1 hub).1))
      · go_ret2
        go_light
        exact rest_none (by unfold RestIs; rw [if_pos (by omega)]; exact .inl ⟨n, hn0, more_nil hL, rfl, rfl⟩) hbw
      · have hlt : done < baseOf fs := by simp_all
        go_ret2
        go_light
        exact rest_none (by unfold RestIs; rw [if_pos (by omega)]; exact .inr (.inl ⟨more_nil hL, hfit, hlt, rfl, rfl⟩)) hbw
      · have hge : baseOf fs ≤ done := by simp_all
        have hsw := hbw.size
        replace hub := Lib.hid hub
        have hfit' := Lib.hid hfit
        have hcut' := Lib.hid hcut
        have hF' := Lib.hid hF
        have hL' := Lib.hid (more_nil hL)
        clear hfit hcut hF hL hcc0 H52
        clear hmm
        go_loopw [44] (fun k wr => ∃ (i n : Nat), k = .int .i64 i ∧ i ≤ ds.length ∧ MapsTo wr Try.prog 66 w'.heap.size n vSlot vInt (fun s => firstTo ds s i) ∧ Below w'.heap.size w' wr ∧ w'.heap.size + 1 ≤ wr.heap.size) (fun k _ => ds.length - (intOf k).toNat)
        case atStart => exact ⟨0, 0, rfl, by omega, mapsTo_made _ _ _ _ _, (Below.refl _ _).alloc (Nat.le_refl _) _, by simp⟩
        case round =>
          obtain ⟨i, n, rfl, hi, hmp, hb, hsz⟩ := hrel
          have hbr := hbw.trans (hb.mono hsw)
          by_cases hlt : i < ds.length
          · obtain ⟨g, o, d, X, cX, hMe, hg, hd, c0, c1, c2, c3, hX⟩ := (hM.below hbr hN).at_ hlt
            subst hMe
            obtain ⟨hw1, hw2⟩ := hkd.out d (List.mem_of_getElem? hd.out)
            have hkey := Lib.hid (key_slot d.s d.q hw1 hw2)
            have hgw : g < wr.heap.size := by omega
            have m2 : MapsTo ((wr.alloc (.cells #[.int .i64 d.s, .int .i64 d.q, .int .i64 d.b, .slice X d.body.length cX] 113)).alloc (.cells #[.int .i64 d.s, .int .i64 d.q] 66)) Try.prog 66 w'.heap.size n vSlot vInt (fun s => firstTo ds s i) := (hmp.alloc _).alloc _
            have hb2 : Below w'.heap.size w' ((wr.alloc (.cells #[.int .i64 d.s, .int .i64 d.q, .int .i64 d.b, .slice X d.body.length cX] 113)).alloc (.cells #[.int .i64 d.s, .int .i64 d.q] 66)) := (hb.alloc (by omega) _).alloc (by simp only [World.size_alloc]; omega) _
            have hlook := m2.look lawSlot vSlot_inj Try.underlying121 (zero3 _) true (d.s, d.q) hkey.out
            clear hw1 hw2 hX
            cases hf : firstTo ds (d.s, d.q) i with
            | some v =>
              have hm3 := m2
              rw [← firstTo_hit hd.out hf] at hm3
              rw [hf] at hlook
              simp only [vSlot, vInt] at hlook
              replace hm3 := Lib.hid hm3
              replace hf := Lib.hid hf
              replace hb2 := Lib.hid hb2
              clear m2 hmp
              go_wp2
              go_roundw
              case rel => go_light; exact ⟨i + 1, n, by go_num, by omega, hm3.out, hb2.out, by simp only [World.size_alloc]; omega⟩
              case measure => go_light; simp [intOf]; omega
            | none =>
              rw [hf] at hlook
              simp only [vSlot, vInt] at hlook
              replace m2 := Lib.hid m2
              replace hf := Lib.hid hf
              replace hb2 := Lib.hid hb2
              clear hmp
              go_wp2_with (at_mapUpdate; refine wpList_put _ rfl (.tmp 62) (.tmp 63) (.tmp 64) 121 rfl 66 3 lawSlot Try.underlying121 w'.heap.size n vSlot vInt vSlot_inj (fun s => firstTo ds s i) rfl m2.out (d.s, d.q) (i : Int) rfl rfl hkey.out ?_)
              intro w6 m6 hg6
              rw [← firstTo_new hd.out hf.out] at m6
              have hb6 := hb2.out.grown hg6 (by simp only [World.size_alloc]; omega) (by intro k hk; injection hk with hk; omega)
              have hs6 := hg6.size
              simp only [World.size_alloc] at hs6
              clear hg6 hlook
              go_wp2
              go_roundw
              case rel => go_light; exact ⟨i + 1, n + 1, by go_num, by omega, m6, hb6, by omega⟩
              case measure => go_light; simp [intOf]; omega
          · obtain rfl : i = ds.length := by omega
            obtain ⟨w5, hw5⟩ : ∃ w5 : World, w5 = wr := ⟨_, rfl⟩
            subst hw5
            have hcb := cut_bound hfit'.out (n := (cut - baseOf fs).toNat) (fun p h1 h2 => hcut'.out.all p h1 (by have := hcut'.out.low; omega))
            have hlow := hcut'.out.low
            have hbn := base_nonneg fs
            have hbl := base_le hfit'.out.sound
            have hub5 := Lib.hid ((hb.block bs hbsl).trans hub.out)
            have hMu5 := Lib.hid (hMu.keep hb hMu.lt)
            have hbu5 : bu < w5.heap.size := hMu5.out.lt
            have hbs5 : bs < w5.heap.size := by omega
            have hmp5 := Lib.hid hmp
            have hbm5 := hmp.lt
            clear hMu hmp hub
            go_wp2
            go_loopw [16, 17] (fun a b wr => ∃ (k : Nat) (B : Option Addr) (c m : Nat) (rs : List Dr), b = .int .i64 (done + 1 + k) ∧ a = .slice B m c ∧ rs.length = m ∧ k ≤ (cut - done).toNat ∧ RestTo F ds done k (rs.map Dr.d) ∧ MsOwn wr w5.heap.size B c rs ∧ m ≤ k ∧ Below w5.heap.size w5 wr) (fun _ b _ => (cut + 1 - intOf b).toNat)
            case atStart => exact ⟨0, none, 0, 0, [], by simp, rfl, rfl, by omega, .nil, ⟨owns_nil _ _ _ _ _, by simp, List.Pairwise.nil⟩, by omega, Below.refl _ _⟩
            case round =>
              obtain ⟨k, B, c, mm, rs, rfl, rfl, hm, hk, hrt, hown, hmk, hb9⟩ := hrel
              have hm' := Lib.hid hm
              have hs9 := hb9.size
              have hbw9 := hbr.trans (hb9.mono (by omega))
              have hcu := blk_cells ((hb9.block bs hbs5).trans hub5.out)
              have u1 := hcu 1
              have u2 := hcu 2
              simp at u1 u2
              replace hrt := Lib.hid hrt
              clear hcu hm
              by_cases hlt : done + 1 + k ≤ cut
              · obtain ⟨⟨x, y⟩, hs, -⟩ := (whole_iff hfit'.out).1 (hcut'.out.all (done + 1 + k) (by omega) hlt)
                have hFk := (hF'.out _ _).2 hs
                obtain ⟨gk, hgk, kk1, kk2, kk3, kk4, _⟩ := known_slot hfit'.out hs
                have hsd := (hfit'.out.sound gk hgk).high
                simp only at kk1 kk2 kk3 kk4
                have hkey := Lib.hid (key_slot x y (WalkArith.wf_i64 (by omega)) (WalkArith.wf_i64 (by omega)))
                have hkeyp := Lib.hid (key_int (done + 1 + (k : Int)) (WalkArith.wf_i64 (by omega)))
                have hMu9 := hMu5.out.keep hb9 hbu5
                have hlookA := hMu9.look lawInt vInt_inj Try.underlying117 (zero66 _) false (done + 1 + (k : Int)) hkeyp.out
                rw [hFk] at hlookA
                simp only [vInt, vSlot] at hlookA
                have hmp9 := (hmp5.out.keep hb9 hbm5).alloc (.cells #[.int .i64 x, .int .i64 y] 66)
                have hlookB := hmp9.look lawSlot vSlot_inj Try.underlying121 (zero3 _) true (x, y) hkey.out
                replace hFk := Lib.hid hFk
                clear hs hgk kk1 kk2 kk3 kk4 hsd hMu9 hmp9
                cases hf : firstTo ds (x, y) ds.length with
                | none =>
                  rw [hf] at hlookB
                  simp only [vSlot, vInt] at hlookB
                  have hRI : RestIs done fs ds [] 81 := by
                    unfold RestIs; rw [if_pos (by omega)]
                    exact .inr (.inr ⟨hL'.out, hfit'.out, hge, cut, F, hcut'.out, hF'.out, .inr ⟨rfl, rfl, k, (x, y), by omega, hFk.out, upto_all (firstTo_some.firstTo_none hf) (Nat.le_refl _)⟩⟩)
                  replace hRI := Lib.hid hRI
                  replace hf := Lib.hid hf
                  go_wp2
                  go_ret2
                  go_light
                  exact rest_none hRI.out (hbw9.alloc (by omega) _)
                | some v =>
                  rw [hf] at hlookB
                  simp only [vSlot, vInt] at hlookB
                  obtain ⟨i, d, rfl, hil, hd, e1, e2, e3⟩ := firstTo_some hf
                  have hFD := Lib.hid (show FirstD ds (x, y) d from ⟨i, hd, e1, e2, e3⟩)
                  obtain ⟨g, o, d', X, cX, hMe, hg, hd', c0, c1, c2, c3, hX⟩ := (hM.below hbw9 hN).at_ hil
                  obtain rfl : d = d' := by have := hd'.out; rw [hd] at this; injection this
                  subst hMe
                  have hgw : g < wr.heap.size := by omega
                  have hs1 := hsm.out.2 d (List.mem_of_getElem? hd)
                  have hil' : (i : Int) < ds.length := by omega
                  replace hf := Lib.hid hf
                  have hdd := Lib.hid hd
                  clear hd e1 e2 e3 hd' c0 c1 c2
                  have hT0 : RestT w5 wr.heap.size #[.int .i64 x, .int .i64 y] (wr.alloc (.cells #[.int .i64 x, .int .i64 y] 66)) := ⟨hb9.alloc (by omega) _, fun i => World.cell?_alloc_at _ _ _ _ rfl, by simp, hs9⟩
                  have hT0d := hT0.drew
                  have hw5X : BodyAt w5 N X cX d.body ∧ w5.cell? ⟨g, o + i * 4 + 3, none⟩ = some (.slice X d.body.length cX) := by
                    obtain ⟨g2, o2, d2, X2, cX2, he, _, hd2, _, _, _, k3, hX2⟩ := (hM.below hbr hN).at_ hil
                    injection he with he; injection he with he1 he2; subst he1 he2
                    have e3 := (hb9.cell (p := ⟨g, o + i * 4 + 3, none⟩) (by show g < _; omega)).trans k3
                    rw [c3] at e3
                    injection e3 with e3; injection e3 with e4 e5 e6
                    obtain rfl : d = d2 := by have := hd2.out; rw [hdd.out] at this; injection this
                    subst e4 e6
                    exact ⟨hX2, k3⟩
                  obtain ⟨hX5, c35⟩ := hw5X
                  have hXr : ∀ W : World, RestT w5 wr.heap.size #[.int .i64 x, .int .i64 y] W → RowAt W N 1 eByte X d.body := fun W h => hX5.row.below h.bel (by omega)
                  have hall : ∀ W : World, RestT w5 wr.heap.size #[.int .i64 x, .int .i64 y] W → (RestT w5 wr.heap.size #[.int .i64 x, .int .i64 y] W ∧ W.cell? ⟨wr.heap.size, 0, none⟩ = some (.int .i64 x) ∧ W.cell? ⟨wr.heap.size, 1, none⟩ = some (.int .i64 y) ∧ W.cell? ⟨g, o + i * 4 + 3, none⟩ = some (.slice X d.body.length cX)) := fun W h => ⟨h, h.box 0, h.box 1, (h.bel.cell (p := ⟨g, _, none⟩) (by show g < _; omega)).trans c35⟩
                  have hszW : ∀ W : World, RestT w5 wr.heap.size #[.int .i64 x, .int .i64 y] W → w5.heap.size ≤ W.heap.size := fun W h => h.bel.size
                  have hlo := hown.row.lo
                  replace hXr := Lib.hid hXr
                  replace hall := Lib.hid hall
                  replace hszW := Lib.hid hszW
                  have hown' := Lib.hid hown
                  clear hX hown hX5 c35
                  go_wp2
                  go_region_held3 (fun W => RestT w5 wr.heap.size #[.int .i64 x, .int .i64 y] W ∧ W.cell? ⟨wr.heap.size, 0, none⟩ = some (.int .i64 x) ∧ W.cell? ⟨wr.heap.size, 1, none⟩ = some (.int .i64 y) ∧ W.cell? ⟨g, o + i * 4 + 3, none⟩ = some (.slice X d.body.length cX))
                    ((refine hall.out _ ?_; first | exact hT0d | exact (‹RestT w5 _ _ _ ∧ _›).1.alloc _ | exact (‹RestT w5 _ _ _ ∧ _›).1.below hb7 | exact (‹RestT w5 _ _ _ ∧ _›).1.grown hg8.out hlo))
                    (first
                      | (refine step_append_rows rfl (.const (.slice none 0 0)) (.tmp 100) 52 rfl w5.heap.size 5 1 1 _ Try.underlying52 info5 rfl (by decide) eByte len_eByte one_eByte none 0 [] X cX N 0 d.body.length d.body rfl rfl rfl rfl (owns_nil _ _ _ _ _) (hXr.out _ (‹RestT w5 _ _ _ ∧ _›).1) (by omega) (by omega) (hszW.out _ (‹RestT w5 _ _ _ ∧ _›).1) ?_; intro A1 cc1 w7 ho7 hg7 hk7; have hb7 := (Below.refl _ _).grown hg7 (Nat.le_refl _) (by intro k hk; cases hk); have hb7w : Below wr.heap.size wr w7 := (Below.drew ((Below.refl wr.heap.size wr).alloc (Nat.le_refl _) (.cells #[.int .i64 x, .int .i64 y] 66))).trans (hb7.mono (by simp)); rw [Nat.zero_add]; replace ho7 := Lib.hid ho7; replace hk7 := Lib.hid hk7)
                      | (refine step_append_rows rfl (.tmp 90) (.tmp 103) 44 rfl w5.heap.size 54 4 48 _ Try.underlying44 info54 rfl (by decide) eDr len_eDr one_eDr B c rs (some ⟨w7.heap.size, 0, none⟩) 1 (w7.heap.size + 1) mm 1 [⟨⟨done + 1 + k, x, y, d.body⟩, A1, cc1⟩] rfl rfl hm'.out rfl ((hown'.out.row.keep hb7w (fun k hk => (hlo k hk).2)).alloc _) (row_new _ _ _ _ _ _ rfl) (by omega) (by omega) (hszW.out _ (‹RestT w5 _ _ _ ∧ _›).1) ?_; intro A8 c8 w8 ho8 hg8 hk8; replace ho8 := Lib.hid ho8; replace hg8 := Lib.hid hg8))
                  have hbl := (‹RestT w5 _ _ _ ∧ _›).1.bel
                  have hA1 : ∀ j, blk A1 = some j → wr.heap.size ≤ j := fun j hj => by
                    rcases hk7.out with h | h
                    · rw [h] at hj; cases hj
                    · rw [h] at hj; injection hj with hj; rw [← hj]; simp
                  have hM8 := MsOwn.snoc (d := ⟨done + 1 + k, x, y, d.body⟩) hown'.out hb7w ho7.out hA1 hg8.out ho8.out
                  have hrt8 : RestTo F ds done (k + 1) ((rs ++ [(⟨⟨done + 1 + k, x, y, d.body⟩, A1, cc1⟩ : Dr)]).map Dr.d) := by
                    rw [List.map_append]; exact RestTo.snoc hrt.out hFk.out hFD.out
                  have hl8 : (rs ++ [(⟨⟨done + 1 + k, x, y, d.body⟩, A1, cc1⟩ : Dr)]).length = mm + 1 := by rw [List.length_append, hm'.out]; rfl
                  replace hM8 := Lib.hid hM8
                  replace hrt8 := Lib.hid hrt8
                  replace hl8 := Lib.hid hl8
                  clear hA1 hb7 hb7w hlookA hlookB u1 u2
                  go_wp2
                  go_roundw
                  case rel => go_light; exact ⟨k + 1, A8, c8, mm + 1, _, by rw [show ((k + 1 : Nat) : Int) = k + 1 by omega]; congr 1; omega, rfl, hl8.out, by omega, hrt8.out, hM8.out, by omega, hbl⟩
                  case measure => go_light; simp [intOf]; omega
              · have hke : k = (cut - done).toNat := by omega
                subst hke
                have hRI : RestIs done fs ds (rs.map Dr.d) 0 := by
                  unfold RestIs; rw [if_pos (by omega)]
                  exact .inr (.inr ⟨hL'.out, hfit'.out, hge, cut, F, hcut'.out, hF'.out, .inl ⟨rfl, hrt.out⟩⟩)
                have hO := hown.lower (base' := w.heap.size) (by omega)
                replace hRI := Lib.hid hRI
                replace hO := Lib.hid hO
                clear hown
                rw [← hm'.out]
                go_wp2
                go_ret2
                go_light
                exact ⟨⟨B, c, rs, 0, rfl, hRI.out, hO.out⟩, hbw9⟩
end Go.Proofs.Ytcffhfcjfjfokaa
/- append of one element onto a row of the call's own: the shorter row stays, too. -/
namespace Go.Proofs.Ytcffhfcjfjfokaa
open Go.RowKit
theorem own_prefix {α : Type} {w : World} {base sz c : Nat} {e : TypeId} {enc : α → List Value} {A : Option Addr} {xs ys : List α} (henc : ∀ x, (enc x).length = sz) (h : Owns w base e sz enc A c (xs ++ ys)) (hA : A ≠ none) : Owns w base e sz enc A c xs := by
  have hl := length_flat henc xs
  rcases h.2 with ⟨hv, h0⟩ | ⟨g, cap, cur, hv, hb, hh, h1, h2, h3, h4⟩
  · injection hv with h1; exact absurd h1 hA
  · injection hv with e1 _ e3
    subst e1 e3
    refine ⟨by rw [hl], .inr ⟨g, c, cur, rfl, hb, hh, by rw [List.length_append] at h1; omega, h2, h3, ?_⟩⟩
    rw [List.flatMap_append] at h4
    have : cur.toList.take (xs.length * sz) = (cur.toList.take ((xs ++ ys).length * sz)).take (xs.length * sz) := by
      rw [List.take_take, Nat.min_eq_left]
      rw [List.length_append]; exact Nat.mul_le_mul_right _ (by omega)
    rw [this, h4, ← hl]
    exact List.take_left
section
variable {P : Program} (w : World)
theorem wpList_append_keep {α : Type} {ops : Array Oper} {rest : List Oper} {o : Oper} {a : Act} {Q : Exit → Act → World → Prop} (hgd : o.guard = none) (s x : Operand) (t : TypeId)
    (ho : o.op = .call { callee := .builtin .append, args := #[s, x], argTypes := #[t, t] })
    (base : Nat) (e : TypeId) (sz bytes : Nat) (z : Value) (ht : P.underlying t = some (.slice e)) (hinfo : (P.info? e).map (fun i => (i.zero, i.size, i.bytes)) = some (some z, sz, bytes))
    (hzs : z.cells.size = sz) (hsz : 0 < sz) (enc : α → List Value) (henc : ∀ x, (enc x).length = sz) (hone : ∀ x, ∀ u ∈ enc x, u.oneCell' = true)
    (A : Option Addr) (c : Nat) (xs : List α) (gB cB n : Nat) (y : α) (hs : a.eval s = .slice A n c) (hx : a.eval x = .slice (some ⟨gB, 0, none⟩) 1 cB)
    (hn : xs.length = n) (hown : Owns w base e sz enc A c xs) (hr : ∀ j u, (enc y)[j]? = some u → w.cell? ⟨gB, j, none⟩ = some u)
    (h63 : n + 1 ≤ 9223372036854775807) (hbytes : (n + 1) * bytes ≤ 140737488355328) (hbase : base ≤ w.heap.size)
    (h : ∀ A' c' w', Owns w' base e sz enc A' c' (xs ++ [y]) → Owns w' base e sz enc A c xs → w.grownBy w' (blk A) → (blk A' = blk A ∨ blk A' = some w.heap.size) → wpList P ops Q rest (a.put o.dst (.slice A' (n + 1) c')) w') : wpList P ops Q (o :: rest) a w := by
  subst hn
  obtain ⟨i, hi, hz, hsize, hby⟩ := info_parts hinfo
  have hnews : ∀ j u, (enc y)[j]? = some u → w.cell? ((⟨gB, 0, none⟩ : Addr).add j) = some u := fun j u hu => by
    rw [Addr.add_lit]; simpa using hr j u hu
  have hfm : ([y] : List α).flatMap enc = enc y := by simp
  obtain ⟨v', w', hrun, h2, h3, h5, h4⟩ := run_append_own_at (P := P) w base t o.type e i z sz bytes ht hi hz hsize hby hzs hsz (.slice A xs.length c) xs.length _ hown ⟨gB, 0, none⟩ 1 cB (enc y)
    (by rw [henc, Nat.one_mul]) hnews (hone y) h63 hbytes hbase
  obtain ⟨g', cap', rfl, hg1, hg2⟩ := World.ownsRow.form h2 (by omega)
  simp only [own_blk] at h3 h4
  have hO : Owns w' base e sz enc (some ⟨g', 0, none⟩) cap' (xs ++ [y]) := by unfold Owns; rw [List.flatMap_append, hfm, List.length_append]; exact h2
  have hold : Owns w' base e sz enc A c xs := by
    rcases hown.2 with ⟨hv, h0⟩ | ⟨g, cap, cur, hv, hb, hh, k1, k2, k3, k4⟩
    · injection hv with e1 _ e3
      subst e1 e3
      obtain rfl : xs = [] := List.eq_nil_of_length_eq_zero h0
      exact owns_nil _ _ _ _ _
    · injection hv with e1 _ e3
      subst e1 e3
      by_cases hroom : xs.length + 1 ≤ c
      · have hr' := run_append_room (P := P) w t o.type e i ht hi g xs.length c cur hh ⟨gB, 0, none⟩ 1 cB (enc y) (by rw [henc, hsize, Nat.one_mul]) hnews (hone y) hroom (by rw [henc, k3, hsize]; have := Nat.mul_le_mul_right sz hroom; rw [Nat.add_mul, Nat.one_mul] at this; exact this)
        rw [hrun] at hr'
        injection hr' with e1 e2
        injection e1 with e3 _ e4
        injection e3 with e3; injection e3 with e3
        subst e3 e4
        exact own_prefix henc hO (by simp)
      · have hr' := run_append_grow (P := P) w t o.type e i z ht hi hz ⟨g, 0, none⟩ xs.length c (xs.flatMap enc) (by rw [hsize, length_flat henc]) (hown.cells (g := g) rfl) ⟨gB, 0, none⟩ 1 cB (enc y) (by rw [henc, hsize, Nat.one_mul]) hnews (by omega) (by omega) (growslice_fits (by omega) (by rw [hby]; exact hbytes))
        rw [hrun] at hr'
        injection hr' with _ e2
        rw [e2]
        exact (show Owns w.drew base e sz enc (some ⟨g, 0, none⟩) c xs from hown).alloc _
  refine wpList_plain hgd fun K hK => ?_
  unfold Oper.wp execOp
  simp only [ho, resolve, invoke, builtin, Sem.run_bind, Sem.run_pure, Result.andThen_ok, List.map_toArray, List.map_cons, List.map_nil, hs, hx, hrun]
  exact hK _ _ (h _ _ w' hO hold h3 h4)
end
end Go.Proofs.Ytcffhfcjfjfokaa
/- The bodies that came out, written over one by one, a longer one beside each. No program in sight. -/
namespace Go.Proofs.Ytcffhfcjfjfokaa
open Go.RowKit
theorem flat_bytes : ∀ l : List Int, l.flatMap eByte = l.map fun n => .int .u8 n
  | [] => rfl
  | x :: l => by rw [List.flatMap_cons, flat_bytes l]; rfl
theorem Owns.set1 {w : World} {base g c k : Nat} {l : List Int} (h : Owns w base 5 1 eByte (some ⟨g, 0, none⟩) c l) (v : Int) :
    Owns (w.setCell ⟨g, k, none⟩ (.int .u8 v)) base 5 1 eByte (some ⟨g, 0, none⟩) c (l.set k v) := by
  have h1 := (World.ownsRow.stored h k (.int .u8 v)).1
  rw [flat_bytes] at h1
  unfold Owns
  rw [List.length_set, flat_bytes, List.map_set]
  exact h1
theorem grown_set (w : World) (g k : Nat) (v : Value) : w.grownBy (w.setCell ⟨g, k, none⟩ v) (some g) :=
  ⟨rfl, rfl, rfl, by rw [World.size_setCell]; exact Nat.le_refl _, fun i _ hne => Below.heap_setCell _ _ _ _ (fun e => hne (by rw [e]))⟩
def by8 (k : Int) : Int := k % 256
theorem upto_set {l : List Int} {j : Nat} {v : Int} (h : upto (fun x => x = v) l j) : upto (fun x => x = v) (l.set j v) (j + 1) := fun k x hk hx => by
  by_cases e : k = j
  · subst e
    obtain ⟨hl, e2⟩ := List.getElem?_eq_some_iff.1 hx
    rw [List.getElem_set_self] at e2
    exact e2.symm
  · rw [List.getElem?_set_ne (fun e2 => e e2.symm)] at hx
    exact h k x (by omega) hx
theorem upto_rep {l : List Int} {n : Nat} {v : Int} (h : upto (fun x => x = v) l n) (hl : l.length = n) : l = List.replicate n v :=
  List.eq_replicate_iff.2 ⟨hl, upto_all h (by omega)⟩
theorem restTo_body {F : Int → Option (Int × Int)} {ds : List Dt} {done : Int} : ∀ {k : Nat} {l : List Dt}, RestTo F ds done k l → ∀ m ∈ l, ∃ d ∈ ds, m.body = d.body
  | 0, _, .nil => fun m hm => by cases hm
  | k + 1, _, .snoc h hs hd => fun m hm => by
    rcases List.mem_append.1 hm with hm | hm
    · exact restTo_body h m hm
    · obtain rfl := List.mem_singleton.1 hm
      obtain ⟨i, a1, _⟩ := hd
      exact ⟨_, List.mem_of_getElem? a1, rfl⟩
theorem restTo_len {F : Int → Option (Int × Int)} {ds : List Dt} {done : Int} : ∀ {k : Nat} {l : List Dt}, RestTo F ds done k l → l.length = k
  | 0, _, .nil => rfl
  | k + 1, _, .snoc h hs hd => by rw [List.length_append, restTo_len h]; rfl
theorem restIs_len {done : Int} {fs : List Fl} {ds ms : List Dt} {n : Int} (h : RestIs done fs ds ms n) : ms.length ≤ 4096 := by
  unfold RestIs at h
  split at h
  · rcases h with ⟨_, _, _, _, rfl⟩ | ⟨_, _, _, _, rfl⟩ | ⟨_, hf, hge, cut, F, hc, _, ⟨_, hr⟩ | ⟨_, rfl, _⟩⟩
    · simp
    · simp
    · rw [restTo_len hr]
      have := cut_bound hf (n := (cut - baseOf fs).toNat) (fun p h1 h2 => hc.all p h1 (by have := hc.low; omega))
      omega
    · simp
  · rw [h.2]; simp
theorem restIs_body {done : Int} {fs : List Fl} {ds ms : List Dt} {n : Int} (h : RestIs done fs ds ms n) : ∀ m ∈ ms, ∃ d ∈ ds, m.body = d.body := fun m hm => by
  unfold RestIs at h
  split at h
  · rcases h with ⟨_, _, _, _, rfl⟩ | ⟨_, _, _, _, rfl⟩ | ⟨_, _, _, cut, F, _, _, ⟨_, hr⟩ | ⟨_, rfl, _⟩⟩
    · cases hm
    · cases hm
    · exact restTo_body hr m hm
    · cases hm
  · rw [h.2] at hm; cases hm
/-- A slice in a list of slices. -/
structure Sl where
  A : Option Addr
  n : Nat
  c : Nat
def eSl (x : Sl) : List Value := [.slice x.A x.n x.c]
theorem len_eSl (x : Sl) : (eSl x).length = 1 := rfl
theorem one_eSl (x : Sl) : ∀ u ∈ eSl x, u.oneCell' = true := by intro u hu; simp [eSl] at hu; subst hu; rfl
theorem info52 : (Try.prog.info? 52).map (fun i => (i.zero, i.size, i.bytes)) = some (some (.slice none 0 0), 1, 24) := by kernel_rfl
/-- A row of bytes in a block that lies with B's, or behind all that were there. -/
def Beside (W0 : Nat) (A B : Option Addr) : Prop := blk A = blk B ∨ ∃ g, blk A = some g ∧ W0 ≤ g
/-- The first i bodies are written over, with a longer one beside each; the others are as they came. -/
structure RI (w : World) (b0 W0 : Nat) (rs : List Dr) (i : Nat) (ms : List Sl) : Prop where
  len : ms.length = i
  done : ∀ (k : Nat) (r : Dr), k < i → rs[k]? = some r → ∃ A' c', ms[k]? = some ⟨A', r.d.body.length + 1, c'⟩ ∧ Owns w b0 5 1 eByte r.B r.c (List.replicate r.d.body.length (by8 k)) ∧
    Owns w b0 5 1 eByte A' c' (List.replicate r.d.body.length (by8 k) ++ [by8 (100 + k)]) ∧ Beside W0 A' r.B
  todo : ∀ (k : Nat) (r : Dr), i ≤ k → rs[k]? = some r → Owns w b0 5 1 eByte r.B r.c r.d.body
/-- Two of the bodies lie apart. -/
theorem sep_ne {rs : List Dr} (h : rs.Pairwise fun a b => blk a.B = none ∨ blk a.B ≠ blk b.B) {k i : Nat} {a b : Dr} (ha : rs[k]? = some a) (hb : rs[i]? = some b) (hne : k ≠ i) : blk a.B = none ∨ blk a.B ≠ blk b.B := by
  obtain ⟨hk, ea⟩ := List.getElem?_eq_some_iff.1 ha
  obtain ⟨hi, eb⟩ := List.getElem?_eq_some_iff.1 hb
  rcases Nat.lt_or_gt_of_ne hne with hlt | hgt
  · have := List.pairwise_iff_getElem.1 h k i hk hi hlt
    rw [ea, eb] at this; exact this
  · have := List.pairwise_iff_getElem.1 h i k hi hk hgt
    rw [ea, eb] at this
    rcases this with h0 | h0
    · rw [h0]
      cases blk a.B with
      | none => exact .inl rfl
      | some g => exact .inr (by simp)
    · exact .inr fun e => h0 e.symm
theorem RI.next {wa wb wc wd : World} {b0 W0 : Nat} {rs : List Dr} {i : Nat} {ms : List Sl} {r : Dr} {A' : Option Addr} {c' cO : Nat} {O : Option Addr} {o o' : Obj}
    (h : RI wa b0 W0 rs i ms) (hsep : rs.Pairwise fun a b => blk a.B = none ∨ blk a.B ≠ blk b.B) (hr : rs[i]? = some r) (hlow : ∀ a ∈ rs, ∀ k, blk a.B = some k → k < W0) (hW : W0 ≤ wa.heap.size)
    (hg1 : wa.grownBy wb (blk r.B)) (hg2 : (wb.alloc o).grownBy wc (blk r.B)) (hold : Owns wc b0 5 1 eByte r.B r.c (List.replicate r.d.body.length (by8 i))) (hnew : Owns wc b0 5 1 eByte A' c' (List.replicate r.d.body.length (by8 i) ++ [by8 (100 + i)]))
    (hk : blk A' = blk r.B ∨ blk A' = some (wb.alloc o).heap.size) (hO : Owns wc b0 52 1 eSl O cO ms) (hg3 : (wc.alloc o').grownBy wd (blk O)) : RI wd b0 W0 rs (i + 1) (ms ++ [⟨A', r.d.body.length + 1, c'⟩]) := by
  have hs1 := hg1.size
  have tail : ∀ {X : Option Addr} {c : Nat} {l : List Int}, Owns wc b0 5 1 eByte X c l → Owns wd b0 5 1 eByte X c l := fun hX => (hX.alloc o').kept hg3 ((hX.alloc o').ne (hO.alloc o') (by decide))
  have go : ∀ {X : Option Addr} {c : Nat} {l : List Int}, Owns wa b0 5 1 eByte X c l → (blk X = none ∨ blk X ≠ blk r.B) → Owns wd b0 5 1 eByte X c l := fun hX hne =>
    tail (((hX.kept hg1 hne).alloc o).kept hg2 hne)
  have far : ∀ {X : Option Addr} {a : Dr} {k : Nat}, rs[k]? = some a → k ≠ i → Beside W0 X a.B → (blk X = none ∨ blk X ≠ blk r.B) := fun {X a k} ha hne hb => by
    rcases hb with hb | ⟨g, hg, hg0⟩
    · rw [hb]; exact sep_ne hsep ha hr hne
    · refine .inr fun e => ?_
      rw [hg] at e
      have := hlow r (List.mem_of_getElem? hr) g e.symm
      omega
  refine ⟨by rw [List.length_append, h.len]; rfl, fun k a hki ha => ?_, fun k a hki ha => ?_⟩
  · by_cases e : k = i
    · subst e
      rw [hr] at ha; cases ha
      refine ⟨A', c', by rw [List.getElem?_append_right (by rw [h.len]; exact Nat.le_refl _), h.len, Nat.sub_self]; rfl, tail hold, tail hnew, ?_⟩
      rcases hk with hk | hk
      · exact .inl hk
      · refine .inr ⟨_, hk, ?_⟩
        simp only [World.size_alloc]
        omega
    · obtain ⟨A2, c2, h1, h2, h3, h4⟩ := h.done k a (by omega) ha
      exact ⟨A2, c2, by rw [List.getElem?_append_left (by rw [h.len]; omega)]; exact h1, go h2 (sep_ne hsep ha hr e), go h3 (far ha e h4), h4⟩
  · exact go (h.todo k a (by omega) ha) (sep_ne hsep ha hr (by omega))
end Go.Proofs.Ytcffhfcjfjfokaa
namespace Go.Proofs.Ytcffhfcjfjfokaa
open Go.RowKit
set_option maxRecDepth 100000 in
/-- Two rows that hold the same slots. -/
theorem sameSlots_yes (A B : Option Addr) (cA cB N : Nat) (l : List (Int × Int)) (w : World) (hN : N ≤ w.heap.size) (hA : RowAt w N 2 eSlot A l) (hB : RowAt w N 2 eSlot B l) (hl : l.length ≤ 9223372036854775807) :
    Calls Try.prog 26 #[.slice A l.length cA, .slice B l.length cB] w fun x w' => x = .returned (.bool true) ∧ Below w.heap.size w w' := by
  have hns := run_neq_slot
  go_enter Try.func26, Try.ntmps26
  go_wp2
  go_loopw [5] (fun k wr => ∃ q : Nat, k = .int .i64 q ∧ q ≤ l.length ∧ Below w.heap.size w wr) (fun k _ => l.length - (intOf k).toNat)
  case atStart => exact ⟨0, rfl, by omega, Below.refl _ _⟩
  case round =>
    obtain ⟨q, rfl, hq, hb⟩ := hrel
    have hsz := hb.size
    by_cases hlt : q < l.length
    · obtain ⟨g, o, x, y, rfl, hg, hx, c0, c1⟩ := (hA.below hb hN).slot hlt
      obtain ⟨g', o', x', y', rfl, hg', hx', d0, d1⟩ := (hB.below hb hN).slot hlt
      obtain ⟨rfl, rfl⟩ : x = x' ∧ y = y' := by have := hx'.out; rw [hx.out] at this; injection this with h; injection h with h1 h2; exact ⟨h1, h2⟩
      have hse : slotEq x y x y = true := by simp [slotEq]
      go_wp2
      go_quiet (fail)
      go_wp2
      go_roundw
      case rel => go_light; exact ⟨q + 1, by go_num, by omega, below_drewN hb _⟩
      case measure => go_light; simp [intOf]; omega
    · go_wp2
      go_ret
      exact ⟨rfl, hb⟩
end Go.Proofs.Ytcffhfcjfjfokaa
/- The law's among, within, twice. -/
namespace Go.Proofs.Ytcffhfcjfjfokaa
open Go.RowKit
theorem among_any (A : Option Addr) (cA N : Nat) (l : List (Int × Int)) (a b : Int) (w : World) (hN : N ≤ w.heap.size) (hA : RowAt w N 2 eSlot A l) (hl : l.length ≤ 9223372036854775807) :
    Calls Try.prog 39 #[.slice A l.length cA, .agg #[.int .i64 a, .int .i64 b]] w fun x w' => x = .returned (.bool (decide ((a, b) ∈ l))) ∧ Below w.heap.size w w' := by
  have hns := run_eql_slot
  go_enter Try.func39, Try.ntmps39
  go_wp2
  go_loopw [5] (fun k wr => ∃ q : Nat, k = .int .i64 q ∧ q ≤ l.length ∧ upto (fun x => x ≠ (a, b)) l q ∧ Below (w.heap.size + 1) (box1 w #[.int .i64 a, .int .i64 b] 66) wr) (fun k _ => l.length - (intOf k).toNat)
  case atStart => exact ⟨0, rfl, by omega, upto_zero _ _, Below.refl _ _⟩
  case round =>
    obtain ⟨q, rfl, hq, hup, hb⟩ := hrel
    replace hup := Lib.hid hup
    obtain ⟨hb0, hc, -, hsz⟩ := box1_facts hb
    have e0 := hc 0
    have e1 := hc 1
    simp at e0 e1
    clear hc
    by_cases hlt : q < l.length
    · obtain ⟨g, o, x, y, rfl, hg, hx, c0, c1⟩ := (hA.below hb0 hN).slot hlt
      by_cases he : x = a ∧ y = b
      · obtain ⟨rfl, rfl⟩ := he
        have hse : slotEq x y x y = true := by simp [slotEq]
        have hm : decide ((x, y) ∈ l) = true := decide_eq_true (List.mem_of_getElem? hx.out)
        replace hm := Lib.hid hm
        go_wp2
        go_quiet (fail)
        go_wp2
        go_ret
        exact ⟨ret_bool hm.out.symm, below_drewN hb0 _⟩
      · have hse : slotEq x y a b = false := by simp [slotEq]; intro h; exact fun h2 => he ⟨h, h2⟩
        have hne := Lib.hid (show (x, y) ≠ (a, b) by intro h; injection h with h1 h2; exact he ⟨h1, h2⟩)
        clear he
        go_wp2
        go_quiet (fail)
        go_wp2
        go_roundw
        case rel => go_light; exact ⟨q + 1, by go_num, by omega, upto_succ hup.out (fun z hz => by rw [hx.out] at hz; cases hz; exact hne.out), below_drewN hb _⟩
        case measure => go_light; simp [intOf]; omega
    · have hm := Lib.hid (show decide ((a, b) ∈ l) = false from decide_eq_false fun h => upto_all hup.out (by omega) _ h rfl)
      go_wp2
      go_ret
      exact ⟨ret_bool hm.out.symm, hb0⟩
theorem within_any (B : Option Addr) (c N : Nat) (h : List Int) (s q : Int) (w : World) (hl : h.length ≤ 9223372036854775807) (hN : N ≤ w.heap.size) (hB : RowAt w N 1 eInt B h) :
    Calls Try.prog 40 #[.slice B h.length c, .agg #[.int .i64 s, .int .i64 q]] w fun e w' => e = .returned (.bool (rhasB h s q)) ∧ Below w.heap.size w w' := by
  have hbx := below_box1 w #[.int .i64 s, .int .i64 q] 66
  by_cases h0 : 0 ≤ s
  · by_cases h1 : s < h.length
    · obtain ⟨k, rfl⟩ : ∃ k : Nat, s = k := ⟨s.toNat, by omega⟩
      obtain ⟨g, o, x, rfl, hg, hx, hc⟩ := hB.int (k := k) (by omega)
      have hgw : g < w.heap.size := by omega
      have hlt : k < h.length := by omega
      clear hB
      go_enter Try.func40, Try.ntmps40
      go_wp2
      go_quiet (fail)
      go_wp2
      go_ret
      exact ⟨ret_bool (rhas_of hx.out hlt).symm, below_drewN hbx _⟩
    · have hd : decide (s < (h.length : Int)) = false := by simpa using h1
      go_enter Try.func40, Try.ntmps40
      go_wp2
      go_quiet (fail)
      go_wp2
      go_ret
      exact ⟨ret_bool (by unfold rhasB; rw [eq_comm, decide_eq_false_iff_not]; omega), below_drewN hbx _⟩
  · have hd : decide (0 ≤ s) = false := by simpa using h0
    go_enter Try.func40, Try.ntmps40
    go_wp2
    go_quiet (fail)
    go_wp2
    go_ret
    exact ⟨ret_bool (by unfold rhasB; rw [eq_comm, decide_eq_false_iff_not]; omega), below_drewN hbx _⟩
end Go.Proofs.Ytcffhfcjfjfokaa
/- The law's twice, of a list in which nothing stands twice. -/
namespace Go.Proofs.Ytcffhfcjfjfokaa
open Go.RowKit
theorem nodup_drop {α : Type} {l : List α} (h : l.Nodup) {i : Nat} {x : α} (hx : l[i]? = some x) : x ∉ l.drop (i + 1) := fun hm => by
  obtain ⟨j, hj, e⟩ := List.getElem_of_mem hm
  rw [List.getElem_drop] at e
  exact apart_of_nodup h (by omega : i ≠ i + 1 + j) hx (by rw [List.getElem?_eq_some_iff]; exact ⟨by simp at hj; omega, e⟩)
theorem cut_row {w : World} {N g c a : Nat} {l : List (Int × Int)} (h : RowAt w N 2 eSlot (some ⟨g, 0, none⟩) l) (hc : l.length ≤ c) : RowAt w N 2 eSlot (cutOff g c a) (l.drop a) := fun h0 => by
  rw [List.length_drop] at h0
  obtain ⟨b, off, e, hb, hx⟩ := h (by omega)
  injection e with e; injection e with e1 e2; subst e1 e2
  refine ⟨g, a * 2, cutOff_at (by omega), hb, fun k x hk j u hu => ?_⟩
  rw [List.getElem?_drop] at hk
  have := hx (a + k) x hk j u hu
  rw [show a * 2 + k * 2 + j = 0 + (a + k) * 2 + j by omega]; exact this
set_option maxRecDepth 100000 in
set_option maxHeartbeats 2000000 in
theorem twice_no (A : Option Addr) (cA N : Nat) (l : List (Int × Int)) (w : World) (hN : N ≤ w.heap.size) (hA : RowAt w N 2 eSlot A l) (hA0 : ∀ a, A = some a → a.off = 0) (hl : l.length ≤ cA) (hc : cA ≤ 9223372036854775807) (hnd : l.Nodup) :
    Calls Try.prog 41 #[.slice A l.length cA] w fun x w' => x = .returned (.bool false) ∧ Below w.heap.size w w' := by
  replace hnd := Lib.hid hnd
  go_enter Try.func41, Try.ntmps41
  go_wp2
  go_loopw [3] (fun k wr => ∃ q : Nat, k = .int .i64 q ∧ q ≤ l.length ∧ Below w.heap.size w wr) (fun k _ => l.length - (intOf k).toNat)
  case atStart => exact ⟨0, rfl, by omega, Below.refl _ _⟩
  case round =>
    obtain ⟨q, rfl, hq, hb⟩ := hrel
    have hsz := hb.size
    by_cases hlt : q < l.length
    · have hA2 := hA.below hb hN
      obtain ⟨g, o, x, y, rfl, hg, hx, c0, c1⟩ := hA2.slot hlt
      obtain rfl : o = 0 := hA0 _ rfl
      simp only [Nat.zero_add] at c0 c1
      have hnm : decide ((x, y) ∈ l.drop (q + 1)) = false := decide_eq_false (nodup_drop hnd.out hx.out)
      have hcr := cut_row (a := q + 1) hA2 hl
      have h39 := among_any (cutOff g cA (q + 1)) (cA - (q + 1)) N (l.drop (q + 1)) x y wr.drew (by show N ≤ wr.heap.size; omega) hcr (by rw [List.length_drop]; omega)
      rw [hnm, List.length_drop] at h39
      replace h39 := Lib.hid h39
      have hrf := fun W : World => run_from W g l.length cA (q + 1) ((q : Int) + 1) (by omega) (by omega)
      have hwr : IntKind.i64.wrap ((q : Int) + 1) = q + 1 := IntWalk.i64_in _ (by omega)
      clear hA hA2 hcr hA0 hnm
      go_wp2
      go_still_tail 8, (by kernel_rfl)
      change wpList _ _ _ _ _ wr.drew
      go_wp2_with (go_at_call 39; refine h39.out.mono ?_; rintro e w2 ⟨rfl, hb2⟩)
      have hb3 := (Below.drew hb).trans (hb2.mono (by show _ ≤ wr.heap.size; omega))
      clear hrf hwr
      go_roundw
      case rel => go_light; exact ⟨q + 1, by go_num, by omega, hb3⟩
      case measure => go_light; simp [intOf]; omega
    · go_wp2
      go_ret
      exact ⟨rfl, hb⟩
end Go.Proofs.Ytcffhfcjfjfokaa
/- FlushShares' walk. -/
namespace Go.Proofs.Ytcffhfcjfjfokaa
open Go.RowKit
theorem cut_cases {fs : List Fl} {k n m : Int} (h1 : 1 ≤ fs.length) (h2 : fs.length ≤ 16) (hc : CutIs fs k n) (hm : Together fs m) : (m ≠ 0 ∧ n ≠ 0 ∧ k = 0) ∨ (m = 0 ∧ n = 0 ∧ IsCut fs k) := by
  have hL := hc.1
  unfold Listed at hL
  rw [if_pos ⟨h1, h2⟩] at hL
  obtain rfl := together_one hL hm
  by_cases h0 : n = 0
  · exact .inr ⟨h0, h0, hc.2.1 h0⟩
  · exact .inl ⟨h0, h0, hc.2.2 h0⟩
theorem cut_bad {fs : List Fl} {k n : Int} (h : ¬ (1 ≤ fs.length ∧ fs.length ≤ 16)) (hc : CutIs fs k n) : k = 0 ∧ n = 1 := by
  have hL := hc.1
  unfold Listed at hL
  rw [if_neg h] at hL
  subst hL
  exact ⟨hc.2.2 (by decide), rfl⟩
theorem whoL_succ (n : Nat) : whoL (n + 1) = whoL n ++ [(n : Int)] := by unfold whoL; rw [List.range_succ, List.map_append]; rfl
theorem pick_le (F : Int → Option (Int × Int)) (P : Int × Int → Bool) (b : Int) : ∀ k : Nat, (pickTo F P b k).length ≤ k
  | 0 => Nat.le_refl _
  | k + 1 => by
    have := pick_le F P b k
    rw [pickTo]
    cases F (b + 1 + k) with
    | none => dsimp only; omega
    | some t =>
      dsimp only
      by_cases hp : P t = true
      · rw [if_pos hp, ins_length]; omega
      · rw [if_neg hp]; omega
theorem own_off {α : Type} {w : World} {base sz c : Nat} {e : TypeId} {enc : α → List Value} {A : Option Addr} {l : List α} (h : Owns w base e sz enc A c l) : ∀ a, A = some a → a.off = 0 := fun a ha => by
  rcases h.2 with ⟨hv, _⟩ | ⟨g, cap, cur, hv, _⟩
  · injection hv with h1; rw [ha] at h1; cases h1
  · injection hv with h1; rw [ha] at h1; injection h1 with h1; rw [h1]
theorem dlen {fs : List Fl} {g : Fl} {cut : Int} {p : Int} {d : List (Int × Int)} (h : Fit fs) (hc : IsCut fs cut) (hd : d = oweL fs g cut p) : d.length ≤ 4096 := by
  have hcb := cut_bound h (n := (cut - baseOf fs).toNat) (fun p h1 h2 => hc.all p h1 (by have := hc.low; omega))
  rw [hd]
  have := pick_le (knownF fs) (fun s => !havB g.have_ s.1 s.2 && firstB (whoL fs.length) (hadL fs s.1 s.2) p) (baseOf fs) (cut - baseOf fs).toNat
  unfold oweL
  omega
set_option maxRecDepth 100000 in
set_option maxHeartbeats 8000000 in
theorem flushShares_walk (A : Option Addr) (cA N : Nat) (fs : List Fl) (w : World) (hN : N ≤ w.heap.size) (hA : Fls w N A fs) (hsm : Small fs) :
    Calls Try.prog 8 #[.slice A fs.length cA] w fun x w' => x = .returned (.bool true) ∧ Below w.heap.size w w' := by
  have hl : fs.length ≤ 9223372036854775807 := by have := hsm.1; omega
  have H28 : ∀ W : World, Below w.heap.size w W → Calls Try.prog 28 #[.slice A fs.length cA] W fun x W' => (∃ B c, x = .returned (.slice B fs.length c) ∧ Fls W' W'.heap.size B fs) ∧ Below W.heap.size W W' := fun W h =>
    many_any A cA N fs W (by have := h.size; omega) (hA.below h hN) hsm
  replace H28 := Lib.hid H28
  by_cases hlen : 1 ≤ fs.length ∧ fs.length ≤ 16
  · obtain ⟨h1, h2⟩ := hlen
    have h1' : ¬ fs.length < 1 := by omega
    have h2' : ¬ 16 < fs.length := by omega
    go_enter Try.func8, Try.ntmps8
    go_wp2_with (first
      | (go_at_call 28; refine (H28.out w (Below.refl _ _)).mono ?_; rintro e w1 ⟨⟨B1, c1, rfl, hB1⟩, hb1⟩; have hs1 := hb1.size)
      | (go_at_call 14; refine (icut_any B1 c1 w1.heap.size fs w1 (Nat.le_refl _) hB1 hl).mono ?_; rintro e w2 ⟨⟨k_, n, rfl, hcut⟩, hb2⟩; have hs2 := hb2.size; replace hcut := Lib.hid hcut; have hb02 := hb1.trans (hb2.mono hs1))
      | (go_at_call 29; refine (together_any A cA N fs w2 (by omega) (hA.below hb02 hN) hl).mono ?_; rintro e w3 ⟨⟨m, rfl, hm⟩, hb3⟩; have hb03 := hb02.trans (hb3.mono (by omega)); rcases cut_cases h1 h2 hcut.out hm with ⟨hm0, hn0, rfl⟩ | ⟨rfl, rfl, hc⟩; all_goals first | (have e1 : (m != 0) = true := (by simpa using hm0); have e2 : (n != 0) = true := (by simpa using hn0); clear hm0 hn0) | (replace hc := Lib.hid hc; have hfit := Lib.hid (fit_iff.1 hm); clear hm))
      | fail)
    · go_ret
      exact ⟨rfl, hb03⟩
    · have hs3 := hb03.size
      go_loopw [5, 6] (fun a k wr => ∃ (i : Nat) (O : Option Addr) (cO : Nat), k = .int .i64 i ∧ a = .slice O i cO ∧ i ≤ fs.length ∧ Owns wr w.heap.size 3 1 eInt O cO (whoL i) ∧ Below w.heap.size w wr) (fun _ k _ => fs.length - (intOf k).toNat)
      case atStart => exact ⟨0, none, 0, rfl, rfl, by omega, owns_nil _ _ _ _ _, hb03⟩
      case round =>
        obtain ⟨i, O, cO, rfl, rfl, hi, ho, hb⟩ := hrel
        have hszr := hb.size
        have hlo := ho.lo
        replace ho := Lib.hid ho
        have hwl := Lib.hid (whoL_len i)
        by_cases hlt : i < fs.length
        · go_wp2_with (at_builtin; refine wpList_append_rows _ rfl (.tmp 47) (.tmp 49) 37 rfl w.heap.size 3 1 8 _ Try.underlying37 info3 rfl (by decide) eInt len_eInt one_eInt O cO (whoL i) (some ⟨wr.heap.size, 0, none⟩) 1 (wr.heap.size + 1) i 1 [(i : Int)] rfl rfl hwl.out rfl (ho.out.alloc _) (row_new _ _ _ _ _ _ rfl) (by omega) (by omega) (by simp; omega) ?_)
          intro A3 cc3 w4 ho3 hg3 hk3
          rw [← whoL_succ] at ho3
          have hb4 := (hb.alloc (by omega) (.cells #[.int .i64 (i : Int)] 3)).grown hg3 (by simp only [World.size_alloc]; omega) (fun k hk => (hlo k hk).1)
          clear hg3 hk3
          replace ho3 := Lib.hid ho3
          go_wp2
          go_roundw
          case rel => go_light; exact ⟨i + 1, A3, cc3, by go_num, rfl, by omega, ho3.out, hb4⟩
          case measure => go_light; simp [intOf]; omega
        · obtain rfl : i = fs.length := by omega
          obtain ⟨w4, hw4⟩ : ∃ w4 : World, w4 = wr := ⟨_, rfl⟩
          subst hw4
          have hrow := Lib.hid (ho.out.row len_eInt)
          go_wp2_with (go_at_call 30; refine (base_any A cA N fs w4 (hA.below hb hN) hl).mono ?_; rintro e w5 ⟨rfl, rfl⟩)
          go_loopw [8] (fun k wr => ∃ q : Nat, k = .int .i64 q ∧ q ≤ fs.length ∧ Below w4.heap.size w4 wr) (fun k _ => fs.length - (intOf k).toNat)
          case atStart => exact ⟨0, rfl, by omega, Below.refl _ _⟩
          case round =>
            obtain ⟨q, rfl, hq, hbq⟩ := hrel
            have hbwq := hb.trans (hbq.mono hszr)
            have hsq := hbq.size
            by_cases hltq : q < fs.length
            · obtain ⟨w5, hw5⟩ : ∃ w5 : World, w5 = wr := ⟨_, rfl⟩
              subst hw5
              obtain ⟨g, o, own, X, cX, Y, cY, hAe, hg, hf, ⟨c0, c1', c2, c3, c4, c5, c6⟩, hr⟩ := (hA.below hbwq hN).at_ hltq
              subst hAe
              have hgw : g < w5.heap.size := by omega
              have hmem := Lib.hid (List.mem_of_getElem? hf.out)
              obtain ⟨hz1, hz2⟩ := hsm.2 own hmem.out
              go_wp2_with (first
                | (go_at_call 38; refine (one_any own X Y cX cY N w5 (by omega) hr (by omega) (by omega)).mono ?_; rintro e w6 ⟨⟨X6, cX6, Y6, cY6, rfl, hfr6, -, -⟩, hb6⟩; have hs6 := hb6.size)
                | (go_at_call 28; refine (H28.out w6 (hbwq.trans (hb6.mono (by omega)))).mono ?_; rintro e w7 ⟨⟨B7, c7, rfl, hB7⟩, hb7⟩; have hs7 := hb7.size)
                | (go_at_call 24; refine (lacks_any (baseOf fs) own X6 Y6 B7 cX6 cY6 c7 w7.heap.size fs w7 (Nat.le_refl _) ((hfr6.below hb7 (Nat.le_refl _)).more hs7) hB7 hl).mono ?_; rintro e w8 ⟨⟨B, cB, l, n, rfl, hLI, hown⟩, hb8⟩; obtain ⟨rfl, hll⟩ := lacks_share hfit.out h1 h2 hmem.out hc.out hLI; replace hll := Lib.hid hll; clear hLI)
                | fail)
              have hs8 := hb8.size
              have hb58 : Below w5.heap.size w5 w8 := (hb6.trans (hb7.mono hs6)).trans (hb8.mono (by omega))
              have hbw8 := hbwq.trans (hb58.mono (by omega))
              have hrl := hown.row len_eSlot
              have hlol := hown.lo
              have hlenl := hown.len
              replace hown := Lib.hid hown
              clear hB7 hfr6 c0 c1' c2 c3 c4 c5 c6 hr
              go_loopw [11, 12] (fun a k wr => ∃ (p : Nat) (O' : Option Addr) (cO' m : Nat) (ow : List (Int × Int)), k = .int .i64 p ∧ a = .slice O' m cO' ∧ ow.length = m ∧ p ≤ fs.length ∧ Hid (ow = owedTo fs own k_ q p) ∧ Owns wr w8.heap.size 66 2 eSlot O' cO' ow ∧ m ≤ p * 4096 ∧ Below w8.heap.size w8 wr) (fun _ k _ => fs.length - (intOf k).toNat)
              case atStart => exact ⟨0, none, 0, 0, [], rfl, rfl, rfl, by omega, (by show ([] : List (Int × Int)) = owedTo _ _ _ _ 0; rfl), owns_nil _ _ _ _ _, by omega, Below.refl _ _⟩
              case round =>
                obtain ⟨p, O', cO', m, ow, rfl, rfl, hm, hp, how, hO, hmp, hbp⟩ := hrel
                have hm' := Lib.hid hm
                have hsp := hbp.size
                have hbwp := hbw8.trans (hbp.mono (by omega))
                by_cases hltp : p < fs.length
                · by_cases hpq : p = q
                  · subst hpq
                    have how' : Hid (ow = owedTo fs own k_ p (p + 1)) := by show ow = _; rw [owedTo_succ, if_pos rfl, List.append_nil]; exact how.out
                    replace hO := Lib.hid hO
                    clear hm
                    go_wp2
                    go_roundw
                    case rel => go_light; exact ⟨p + 1, O', cO', m, ow, by go_num, rfl, hm'.out, by omega, how', hO.out, by omega, hbp⟩
                    case measure => go_light; simp [intOf]; omega
                  · have hpqb : ((p : Int) == (q : Int)) = false := by simp; omega
                    obtain ⟨w9, hw9⟩ : ∃ w9 : World, w9 = wr := ⟨_, rfl⟩
                    subst hw9
                    have hloO := hO.lo
                    replace hO := Lib.hid hO
                    have hpq' := Lib.hid hpq
                    clear hpq hm
                    go_wp2_with (first
                      | (go_at_call 28; refine (H28.out w9 hbwp).mono ?_; rintro e w10 ⟨⟨B10, c10, rfl, hB10⟩, hb10⟩; have hs10 := hb10.size)
                      | (go_at_call 35; have h35 := duty_any (p : Int) (q : Int) O B10 cO c10 w10.heap.size (whoL fs.length) fs w10 (Nat.le_refl _) (hrow.out.below ((hbq.trans (hb58.mono (by omega))).trans ((hbp.mono (by omega)).trans (hb10.mono (by omega)))) (Nat.le_refl _) |>.more (by omega)) hB10 (by rw [whoL_len]; exact hl) hl; rw [whoL_len] at h35; refine h35.mono ?_; rintro e w11 ⟨⟨D, cD, d, n, rfl, hDI, hD⟩, hb11⟩; obtain ⟨rfl, hdd⟩ := duty_share hfit.out h1 h2 hf.out hltp hpq'.out hc.out hDI; replace hdd := Lib.hid hdd; clear hDI h35; have hs11 := hb11.size; have hloD := hD.lo; have hlenD := hD.len; have hdl : d.length ≤ 4096 := dlen hfit.out hc.out hdd.out; replace hD := Lib.hid hD)
                      | (at_builtin; refine wpList_append_rows _ rfl (.tmp 93) (.tmp 94) 36 rfl w8.heap.size 66 2 16 _ Try.underlying36 info66 rfl (by decide) eSlot len_eSlot one_eSlot O' cO' ow D cD w11.heap.size m d.length d rfl rfl hm'.out rfl ((hO.out.keep hb10 (fun k hk => (hloO k hk).2)).keep hb11 (fun k hk => by have := (hloO k hk).2; omega)) (hD.out.row len_eSlot) (by omega) (by omega) (by omega) ?_)
                      | fail)
                    intro A12 c12 w12 ho12 hg12 hk12
                    have hD12 : Owns w12 w10.heap.size 66 2 eSlot D cD d := hD.out.kept hg12 (by
                      cases hDb : blk D with
                      | none => exact .inl rfl
                      | some k => exact .inr fun e => by have := (hloD k hDb).1; have := (hloO k e.symm).2; omega)
                    have hb812 : Below w8.heap.size w8 w12 := ((hbp.trans (hb10.mono (by omega))).trans (hb11.mono (by omega))).grown hg12 (by omega) (fun k hk => (hloO k hk).1)
                    have hbw12 := hbw8.trans (hb812.mono (by omega))
                    have hlo12 := ho12.lo
                    have hlen12 := ho12.len
                    have how'' : Hid (ow ++ d = owedTo fs own k_ q (p + 1)) := by show ow ++ d = _; rw [owedTo_succ, if_neg hpq'.out, ← hdd.out, ← how.out]
                    have hs12 := hb812.size
                    have hrD := Lib.hid (hD12.row len_eSlot)
                    replace ho12 := Lib.hid ho12
                    replace hlo12 := Lib.hid hlo12
                    replace hloD := Lib.hid hloD
                    replace hloO := Lib.hid hloO
                    replace hlol := Lib.hid hlol
                    clear hg12 hk12 hD12 hB10
                    go_wp2
                    go_loopw [15] (fun k wr => ∃ i : Nat, k = .int .i64 i ∧ i ≤ d.length ∧ Below w12.heap.size w12 wr) (fun k _ => d.length - (intOf k).toNat)
                    case atStart => exact ⟨0, rfl, by omega, Below.refl _ _⟩
                    case round =>
                      obtain ⟨i, rfl, hi, hbi⟩ := hrel
                      have hsi := hbi.size
                      have hbwi := hbw12.trans (hbi.mono (by omega))
                      by_cases hlti : i < d.length
                      · obtain ⟨g3, o3, a, b, hDe, hg3, hab, d0, d1⟩ := (hrD.out.below hbi (Nat.le_refl _)).slot hlti
                        subst hDe
                        obtain ⟨gp, op, fp, Xp, cXp, Yp, cYp, hAe, _, hfp, ⟨_, _, _, _, _, _, k6⟩, hrp⟩ := (hA.below hbwi hN).at_ hltp
                        injection hAe with hAe; injection hAe with hA1 hA2; subst hA1 hA2
                        obtain ⟨gq, oq, fq, Xq, cXq, Yq, cYq, hAe, _, hfq, ⟨_, _, _, _, _, _, j6⟩, hrq⟩ := (hA.below hbwi hN).at_ hltq
                        injection hAe with hAe; injection hAe with hA1 hA2; subst hA1 hA2
                        obtain rfl : own = fq := by have := hfq.out; rw [hf.out] at this; cases this; rfl
                        obtain ⟨m1, m2, m3⟩ := owe_item hfit.out hfp.out hmem.out (s := (a, b)) (by rw [← hdd.out]; exact List.mem_of_getElem? hab.out)
                        rw [← hll.out] at m1
                        have hg3' : g3 < wr.heap.size := by omega
                        have hgr : g < wr.heap.size := by omega
                        have hall : ∀ W : World, Below wr.heap.size wr W → (Below wr.heap.size wr W ∧ W.cell? ⟨g3, o3 + i * 2, none⟩ = some (.int .i64 a) ∧ W.cell? ⟨g3, o3 + i * 2 + 1, none⟩ = some (.int .i64 b) ∧ W.cell? ⟨g, o + p * 7 + 6, none⟩ = some (.slice Yp fp.have_.length cYp) ∧ W.cell? ⟨g, o + q * 7 + 6, none⟩ = some (.slice Yq own.have_.length cYq)) := fun W h => ⟨h, (h.cell (p := ⟨g3, _, none⟩) hg3').trans d0, (h.cell (p := ⟨g3, _, none⟩) hg3').trans d1, (h.cell (p := ⟨g, _, none⟩) hgr).trans k6, (h.cell (p := ⟨g, _, none⟩) hgr).trans j6⟩
                        have h39 : ∀ W : World, Below wr.heap.size wr W → Calls Try.prog 39 #[.slice B l.length cB, .agg #[.int .i64 a, .int .i64 b]] W fun x W' => x = .returned (.bool true) ∧ Below wr.heap.size wr W' := fun W h => by
                          have hbx := (hb812.trans (hbi.mono (by omega))).trans (h.mono (by omega))
                          refine (among_any B cB w8.heap.size l a b W hbx.size (hrl.below hbx (Nat.le_refl _)) (by omega)).mono ?_
                          rintro e W' ⟨rfl, hb'⟩
                          exact ⟨by rw [decide_eq_true m1], h.trans (hb'.mono h.size)⟩
                        have h40p : ∀ W : World, Below wr.heap.size wr W → Calls Try.prog 40 #[.slice Yp fp.have_.length cYp, .agg #[.int .i64 a, .int .i64 b]] W fun x W' => x = .returned (.bool true) ∧ Below wr.heap.size wr W' := fun W h => by
                          refine (within_any Yp cYp N fp.have_ a b W (Nat.le_trans hrp.lenH hrp.capH) (by have := h.size; omega) (hrp.have_.below h (by omega))).mono ?_
                          rintro e W' ⟨rfl, hb'⟩
                          exact ⟨by rw [m2], h.trans (hb'.mono h.size)⟩
                        have h40q : ∀ W : World, Below wr.heap.size wr W → Calls Try.prog 40 #[.slice Yq own.have_.length cYq, .agg #[.int .i64 a, .int .i64 b]] W fun x W' => x = .returned (.bool false) ∧ Below wr.heap.size wr W' := fun W h => by
                          refine (within_any Yq cYq N own.have_ a b W (Nat.le_trans hrq.lenH hrq.capH) (by have := h.size; omega) (hrq.have_.below h (by omega))).mono ?_
                          rintro e W' ⟨rfl, hb'⟩
                          exact ⟨by rw [m3], h.trans (hb'.mono h.size)⟩
                        have hqn : (q : Int) < fs.length := by omega
                        have hpn : (p : Int) < fs.length := by omega
                        have hin : (i : Int) < d.length := by omega
                        replace hall := Lib.hid hall
                        replace h39 := Lib.hid h39
                        replace h40p := Lib.hid h40p
                        replace h40q := Lib.hid h40q
                        clear d0 d1 k6 j6 hrp hrq m1 m2 m3
                        go_wp2
                        go_region_held3 (fun W => Below wr.heap.size wr W ∧ W.cell? ⟨g3, o3 + i * 2, none⟩ = some (.int .i64 a) ∧ W.cell? ⟨g3, o3 + i * 2 + 1, none⟩ = some (.int .i64 b) ∧ W.cell? ⟨g, o + p * 7 + 6, none⟩ = some (.slice Yp fp.have_.length cYp) ∧ W.cell? ⟨g, o + q * 7 + 6, none⟩ = some (.slice Yq own.have_.length cYq))
                          (first | exact hall.out _ (Below.drew (Below.refl _ _)) | exact hall.out _ hbw2 | go_keep)
                          (first | (go_at_call 39; refine (h39.out _ (‹Below wr.heap.size wr _ ∧ _›).1).mono ?_; rintro e w2 ⟨rfl, hbw2⟩) | (go_at_call 40; with_reducible refine (h40p.out _ (‹Below wr.heap.size wr _ ∧ _›).1).mono ?_; rintro e w2 ⟨rfl, hbw2⟩) | (go_at_call 40; with_reducible refine (h40q.out _ (‹Below wr.heap.size wr _ ∧ _›).1).mono ?_; rintro e w2 ⟨rfl, hbw2⟩))
                        have hbl := (‹Below wr.heap.size wr _ ∧ _›).1
                        have hbi2 := hbi.trans (hbl.mono (by omega))
                        go_wp2
                        go_roundw
                        case rel => go_light; exact ⟨i + 1, by go_num, by omega, hbi2⟩
                        case measure => go_light; simp [intOf]; omega
                      · have ho13 := Lib.hid (ho12.out.keep hbi (fun k hk => (hlo12.out k hk).2))
                        have hml : (ow ++ d).length = m + d.length := by rw [List.length_append, hm'.out]
                        replace hml := Lib.hid hml
                        have hb8i := hb812.trans (hbi.mono (by omega))
                        go_wp2
                        go_roundw
                        case rel => go_light; exact ⟨p + 1, A12, c12, m + d.length, ow ++ d, by go_num, rfl, hml.out, by omega, how'', ho13.out, by omega, hb8i⟩
                        case measure => go_light; simp [intOf]; omega
                · obtain rfl : p = fs.length := by omega
                  have hnd1 : ow.Nodup := by rw [how.out]; exact owed_nodup hfit.out own k_ q _
                  have hnd2 : l.Nodup := by rw [hll.out]; exact lack_nodup hfit.out own k_
                  have hml : m = l.length := by rw [← hm, how.out, hll.out]; exact owed_len hfit.out hf.out hc.out
                  have hlo' := hO.len
                  have h41a : ∀ W : World, Below wr.heap.size wr W → Calls Try.prog 41 #[.slice O' m cO'] W fun x W' => x = .returned (.bool false) ∧ Below wr.heap.size wr W' := fun W h => by
                    have := twice_no O' cO' wr.heap.size ow W h.size ((hO.row len_eSlot).below h (Nat.le_refl _)) (own_off hO) hlo'.1 hlo'.2 hnd1
                    rw [hm] at this
                    exact this.mono fun e W' ⟨e1, e2⟩ => ⟨e1, h.trans (e2.mono h.size)⟩
                  have h41b : ∀ W : World, Below wr.heap.size wr W → Calls Try.prog 41 #[.slice B l.length cB] W fun x W' => x = .returned (.bool false) ∧ Below wr.heap.size wr W' := fun W h => by
                    have hbx := hbp.trans (h.mono (by omega))
                    exact (twice_no B cB w8.heap.size l W hbx.size (hrl.below hbx (Nat.le_refl _)) (own_off hown.out) hlenl.1 hlenl.2 hnd2).mono fun e W' ⟨e1, e2⟩ => ⟨e1, h.trans (e2.mono h.size)⟩
                  have hmb : ((m : Int) != (l.length : Int)) = false := by simp [hml]
                  replace h41a := Lib.hid h41a
                  replace h41b := Lib.hid h41b
                  replace hO := Lib.hid hO
                  have hbpr := hbq.trans ((hb58.trans (hbp.mono (by omega))).mono (by omega))
                  clear hml hm hm' hnd1 hnd2
                  go_wp2_with (first
                    | (go_at_call 41; with_reducible refine (h41a.out _ (by first | exact Below.refl _ _ | assumption)).mono ?_; rintro e w' ⟨rfl, hbt⟩)
                    | (go_at_call 41; with_reducible refine (h41b.out _ (by first | exact Below.refl _ _ | assumption)).mono ?_; rintro e w' ⟨rfl, hbt⟩)
                    | fail)
                  go_roundw
                  case rel => go_light; exact ⟨q + 1, by go_num, by omega, hbpr.trans (hbt.mono (by omega))⟩
                  case measure => go_light; simp [intOf]; omega
            · go_wp2
              go_ret
              exact ⟨rfl, hbwq⟩
  · by_cases h1 : fs.length < 1
    · go_enter Try.func8, Try.ntmps8
      go_wp2_with (first
        | (go_at_call 28; refine (H28.out w (Below.refl _ _)).mono ?_; rintro e w1 ⟨⟨B1, c1, rfl, hB1⟩, hb1⟩; have hs1 := hb1.size)
        | (go_at_call 14; refine (icut_any B1 c1 w1.heap.size fs w1 (Nat.le_refl _) hB1 hl).mono ?_; rintro e w2 ⟨⟨k, n, rfl, hcut⟩, hb2⟩; obtain ⟨rfl, rfl⟩ := cut_bad hlen hcut; clear hcut)
        | fail)
      go_ret
      exact ⟨rfl, hb1.trans (hb2.mono hs1)⟩
    · have h2 : 16 < fs.length := by omega
      go_enter Try.func8, Try.ntmps8
      go_wp2_with (first
        | (go_at_call 28; refine (H28.out w (Below.refl _ _)).mono ?_; rintro e w1 ⟨⟨B1, c1, rfl, hB1⟩, hb1⟩; have hs1 := hb1.size)
        | (go_at_call 14; refine (icut_any B1 c1 w1.heap.size fs w1 (Nat.le_refl _) hB1 hl).mono ?_; rintro e w2 ⟨⟨k, n, rfl, hcut⟩, hb2⟩; obtain ⟨rfl, rfl⟩ := cut_bad hlen hcut; clear hcut)
        | fail)
      go_ret
      exact ⟨rfl, hb1.trans (hb2.mono hs1)⟩
end Go.Proofs.Ytcffhfcjfjfokaa
/- FlushAgree's plain law, joined: what Rest answers nearer and further. No program in sight. -/
namespace Go.Proofs.Ytcffhfcjfjfokaa
theorem fit_listed {fs : List Fl} (h1 : 1 ≤ fs.length) (h2 : fs.length ≤ 16) (h : Fit fs) : Listed fs 0 := by
  unfold Listed; rw [if_pos ⟨h1, h2⟩]; exact fit_iff.2 h
theorem seq_ne {fs : List Fl} {cut p : Int} (h : Fit fs) (hc : IsCut fs cut) (h1 : baseOf fs < p) (h2 : p ≤ cut) : (atOf fs p).2 ≠ 0 := by
  obtain ⟨s, hs, -⟩ := (whole_iff h).1 (hc.all p h1 h2)
  rw [atOf_known h hs]
  obtain ⟨_, _, _, _, e, _⟩ := known_slot h hs
  omega
theorem cut_again {fs gs : List Fl} {cut k n : Int} (h : Fit fs) (hm : SameMem gs fs) (hc : IsCut fs cut) (h1 : 1 ≤ gs.length) (h2 : gs.length ≤ 16) (hk : CutIs gs k n) : k = cut ∧ n = 0 := by
  obtain ⟨hL, hA, _⟩ := hk
  obtain rfl := listed_one hL (fit_listed h1 h2 (fit_mem h hm))
  exact ⟨cut_one (cut_same h hm (hA rfl)) hc, rfl⟩
theorem rest_fit {fs : List Fl} {ds ms : List Dt} {cut near n : Int} (h : Fit fs) (h1 : 1 ≤ fs.length) (h2 : fs.length ≤ 16) (hc : IsCut fs cut) (ha : baseOf fs ≤ near) (hb : near ≤ cut) (hr : RestIs near fs ds ms n) :
    ∃ F : Int → Option (Int × Int), (∀ pos s, F pos = some s ↔ Known fs pos s) ∧ ((n = 0 ∧ RestTo F ds near (cut - near).toNat ms) ∨ (n = 81 ∧ RestLacks F ds near (cut - near).toNat)) := by
  have hcb := cut_bound h (n := (cut - baseOf fs).toNat) (fun p h1 h2 => hc.all p h1 (by have := hc.low; omega))
  have hlow := hc.low
  have hbn := base_nonneg fs
  unfold RestIs at hr
  rw [if_pos (by omega)] at hr
  rcases hr with ⟨m, hm, hL, rfl, rfl⟩ | ⟨hL, hf, hlt, rfl, rfl⟩ | ⟨hL, hf, hge, cut', F, hc', hF, hr⟩
  · exact absurd (listed_one hL (fit_listed h1 h2 h)) hm
  · omega
  · obtain rfl := cut_one hc hc'
    refine ⟨F, hF, ?_⟩
    rcases hr with ⟨a, b⟩ | ⟨a, _, b⟩
    · exact .inl ⟨a, b⟩
    · exact .inr ⟨a, b⟩
/-- Nearer: the messages, or one that is not at hand. -/
theorem agree1 {fs : List Fl} {ds ms : List Dt} {cut near n : Int} (h : Fit fs) (h1 : 1 ≤ fs.length) (h2 : fs.length ≤ 16) (hc : IsCut fs cut) (ha : baseOf fs ≤ near) (hb : near ≤ cut) (hr : RestIs near fs ds ms n) :
    (n = 0 ∧ (ms.length : Int) = cut - near) ∨ (n = 81 ∧ ∃ j : Nat, near + j < cut ∧ ∀ d ∈ ds, ¬ (d.s = (atOf fs (near + 1 + j)).1 ∧ d.q = (atOf fs (near + 1 + j)).2)) := by
  obtain ⟨F, hF, ⟨a, b⟩ | ⟨a, j, s, hj, hs, hn⟩⟩ := rest_fit h h1 h2 hc ha hb hr
  · exact .inl ⟨a, by rw [restTo_len b]; omega⟩
  · refine .inr ⟨a, j, by omega, fun d hd => ?_⟩
    rw [atOf_known h ((hF _ _).1 hs)]
    exact hn d hd
/-- Further: just that much less. -/
theorem agree2 {fs gs : List Fl} {ds ms ms' : List Dt} {cut near n : Int} {m : Nat} (h : Fit fs) (h1 : 1 ≤ fs.length) (h2 : fs.length ≤ 16) (hm : SameMem gs fs) (g1 : 1 ≤ gs.length) (g2 : gs.length ≤ 16) (hc : IsCut fs cut) (ha : baseOf fs ≤ near) (hb : near + m ≤ cut)
    (hr : RestIs near fs ds ms 0) (hr' : RestIs (near + m) gs ds ms' n) : n = 0 ∧ ms' = ms.drop m ∧ (ms'.length : Int) = cut - (near + m) := by
  obtain ⟨F, hF, ⟨-, b⟩ | ⟨a, _⟩⟩ := rest_fit h h1 h2 hc ha (by omega) hr
  · have hcg : IsCut gs cut := by
      refine ⟨by rw [base_same hm]; exact hc.low, fun p x y => ?_, ?_⟩
      · rw [whole_same h hm]; exact hc.all p (by rw [← base_same hm]; exact x) y
      · rw [whole_same h hm]; exact hc.stop
    obtain ⟨G, hG, hx⟩ := rest_fit (fit_mem h hm) g1 g2 hcg (by rw [base_same hm]; omega) hb hr'
    obtain rfl : F = G := funext fun pos => Option.ext fun s => by rw [hF pos s, hG pos s, known_same hm]
    rcases hx with ⟨e, b'⟩ | ⟨e, j, s, hj, hs, hn⟩
    · have hk : (cut - near).toNat = m + (cut - (near + m)).toNat := by omega
      rw [hk] at b
      have hd := restTo_drop b
      exact ⟨e, restTo_one b' hd, by rw [restTo_len b']; omega⟩
    · exfalso
      refine restTo_at b ⟨m + j, s, by omega, ?_, hn⟩
      rw [← hs]; congr 1; omega
  · omega
/-- Both, of rows. -/
theorem agree_ways {fs gs : List Fl} {ds : List Dt} {rs ss : List Dr} {cut near n n' : Int} {m : Nat} (h : Fit fs) (h1 : 1 ≤ fs.length) (h2 : fs.length ≤ 16) (hm : SameMem gs fs) (g1 : 1 ≤ gs.length) (g2 : gs.length ≤ 16) (hc : IsCut fs cut) (ha : baseOf fs ≤ near) (hb : near + m ≤ cut)
    (hr : RestIs near fs ds (rs.map Dr.d) n) (hr' : RestIs (near + m) gs ds (ss.map Dr.d) n') :
    (n = 0 ∧ n' = 0 ∧ ss.map Dr.d = (rs.map Dr.d).drop m ∧ rs.length - m = ss.length ∧ m ≤ rs.length ∧ ((rs.length : Int) != cut - near) = false ∧ ((ss.length : Int) != cut - (near + m)) = false) ∨
    (n = 81 ∧ ∃ j : Nat, near + j < cut ∧ ∀ d ∈ ds, ¬ (d.s = (atOf fs (near + 1 + j)).1 ∧ d.q = (atOf fs (near + 1 + j)).2)) := by
  rcases agree1 h h1 h2 hc ha (by omega) hr with ⟨rfl, hl1⟩ | ⟨e1, j, hj, hno⟩
  · obtain ⟨rfl, e3, hl2⟩ := agree2 h h1 h2 hm g1 g2 hc ha hb hr hr'
    rw [List.length_map] at hl1 hl2
    have hsl : rs.length - m = ss.length := by have := congrArg List.length e3; rw [List.length_drop, List.length_map, List.length_map] at this; omega
    exact .inl ⟨rfl, rfl, e3, hsl, by omega, by simp; omega, by simp; omega⟩
  · exact .inr ⟨e1, j, hj, hno⟩
end Go.Proofs.Ytcffhfcjfjfokaa
/- The law's at: a number brought among n. -/
namespace Go.Proofs.Ytcffhfcjfjfokaa
open Go.RowKit
/-- v among the n numbers from 0 on. -/
def amongN (v n : Int) : Int := if n < 1 then 0 else if v.tmod n < 0 then v.tmod n + n else v.tmod n
theorem amongN_in {v n : Int} (h : 1 ≤ n) : 0 ≤ amongN v n ∧ amongN v n < n := by
  unfold amongN
  have h1 := Int.tmod_lt_of_pos v (by omega : 0 < n)
  have h2 : -n < v.tmod n := by have := Int.lt_tmod_of_pos v (by omega : 0 < n); omega
  rw [if_neg (by omega)]
  split <;> omega
theorem atN_any (v n : Int) (w : World) (hn : n ≤ 9223372036854775807) (hv : (Lit.int .i64 v).wf = true) : Calls Try.prog 33 #[.int .i64 v, .int .i64 n] w fun e w' => e = .returned (.int .i64 (amongN v n)) ∧ w = w' := by
  by_cases h : n < 1
  · go_enter Try.func33, Try.ntmps33
    go_wp2
    go_ret
    exact ⟨ret_int (by unfold amongN; rw [if_pos h]), rfl⟩
  · have h1 := Int.tmod_lt_of_pos v (by omega : 0 < n)
    have h2 : -n < v.tmod n := by have := Int.lt_tmod_of_pos v (by omega : 0 < n); omega
    have hn0 : ¬ n = 0 := by omega
    by_cases h3 : v.tmod n < 0
    · go_enter Try.func33, Try.ntmps33
      go_wp2
      go_ret
      exact ⟨ret_int (by unfold amongN; rw [if_neg (by omega), if_pos h3]), rfl⟩
    · go_enter Try.func33, Try.ntmps33
      go_wp2
      go_ret
      exact ⟨ret_int (by unfold amongN; rw [if_neg (by omega), if_neg (by omega)]), rfl⟩
end Go.Proofs.Ytcffhfcjfjfokaa
/- The law's many, with what it owns. -/
namespace Go.Proofs.Ytcffhfcjfjfokaa
open Go.RowKit
set_option maxRecDepth 100000 in
set_option maxHeartbeats 4000000 in
theorem many_own (A : Option Addr) (cA N : Nat) (fs : List Fl) (w : World) (hN : N ≤ w.heap.size) (hA : Fls w N A fs) (hsm : Small fs) :
    Calls Try.prog 28 #[.slice A fs.length cA] w fun x w' => (∃ B c rs, x = .returned (.slice B fs.length c) ∧ rs.map Rw.f = fs ∧ Owns w' w.heap.size 39 7 eRw B c rs ∧ ∀ r ∈ rs, FarFl w' B r) ∧ Below w.heap.size w w' := by
  have hl : fs.length ≤ 1048576 := hsm.1
  replace hsm := Lib.hid hsm
  go_enter Try.func28, Try.ntmps28
  go_wp2
  go_loopw [3, 4] (fun a k wr => ∃ (i : Nat) (rs : List Rw) (B : Option Addr) (c : Nat), k = .int .i64 i ∧ a = .slice B i c ∧ rs.length = i ∧ i ≤ fs.length ∧ Hid (rs.map Rw.f = fs.take i) ∧ Owns wr w.heap.size 39 7 eRw B c rs ∧ (∀ r ∈ rs, FarFl wr B r) ∧ Below w.heap.size w wr) (fun _ k _ => fs.length - (intOf k).toNat)
  case atStart => exact ⟨0, [], _, 0, rfl, rfl, rfl, by omega, by show List.map _ _ = _; simp, owns_empty _ _ _ _ _ (Nat.le_refl _), by simp, (Below.refl _ _).alloc (Nat.le_refl _) _⟩
  case round =>
    obtain ⟨i, rs, B, c, rfl, rfl, hrl, hi, hrs, ho, hfar, hb⟩ := hrel
    have hrl' := Lib.hid hrl
    have hszr := hb.size
    replace hfar := Lib.hid hfar
    by_cases hlt : i < fs.length
    · obtain ⟨g, o, f, X, cX, Y, cY, rfl, hg, hf, ⟨c0, c1, c2, c3, c4, c5, c6⟩, hr⟩ := (hA.below hb hN).at_ hlt
      have hgw : g < wr.heap.size := by omega
      obtain ⟨hs1, hs2⟩ := hsm.out.2 f (List.mem_of_getElem? hf.out)
      have hlo := ho.lo
      replace ho := Lib.hid ho
      clear hrl
      go_wp2_with (first
        | (go_at_call 38; refine (one_any f X Y cX cY N wr (by omega) hr (by omega) (by omega)).mono ?_; rintro e w1 ⟨⟨X1, cX1, Y1, cY1, rfl, hfr, hX1, hY1⟩, hb1⟩; replace hX1 := Lib.hid hX1; replace hY1 := Lib.hid hY1; replace hfr := Lib.hid hfr; have hs1' := hb1.size)
        | (at_builtin; refine wpList_append_rows _ rfl (.tmp 12) (.tmp 18) 22 rfl w.heap.size 39 7 88 _ Try.underlying22 info39 rfl (by decide) eRw len_eRw one_eRw B c rs (some ⟨w1.heap.size, 0, none⟩) 1 (w1.heap.size + 1) i 1 [⟨f, X1, cX1, Y1, cY1⟩] rfl rfl hrl'.out rfl ((ho.out.keep hb1 (fun k hk => (hlo k hk).2)).alloc _) (row_new _ _ _ _ _ _ rfl) (by omega) (by omega) (by simp; omega) ?_)
        | fail)
      intro A3 cc3 w3 ho3 hg3 hk3
      replace hk3 : blk A3 = blk B ∨ blk A3 = some (w1.alloc (.cells #[.int .i64 f.e, .int .i64 f.l, .int .i64 f.i, .int .i64 f.c, .int .i64 f.base, .slice X1 f.slots.length cX1, .slice Y1 f.have_.length cY1] 39)).heap.size := by simpa using hk3
      have hb13 : Below w1.heap.size w1 (w1.alloc (.cells #[.int .i64 f.e, .int .i64 f.l, .int .i64 f.i, .int .i64 f.c, .int .i64 f.base, .slice X1 f.slots.length cX1, .slice Y1 f.have_.length cY1] 39)) := (Below.refl _ _).alloc (Nat.le_refl _) _
      have hnew : FarFl w1 B ⟨f, X1, cX1, Y1, cY1⟩ := ⟨hfr.out, FarRow.of_row hX1.out (fun k hk => (hlo k hk).2), FarRow.of_row hY1.out (fun k hk => (hlo k hk).2)⟩
      have hbw3 : Below w.heap.size w w3 := ((hb.trans (hb1.mono hszr)).alloc (by omega) _).grown hg3 (by simp only [World.size_alloc]; omega) (fun k hk => (hlo k hk).1)
      have hfar3 : ∀ r ∈ rs ++ [⟨f, X1, cX1, Y1, cY1⟩], FarFl w3 A3 r := fun r hr' => by
        rcases List.mem_append.1 hr' with h | h
        · exact (((hfar.out r h).below hb1).below hb13).grown hg3 hk3
        · obtain rfl := List.mem_singleton.1 h
          exact (hnew.below hb13).grown hg3 hk3
      replace hfar3 := Lib.hid hfar3
      replace ho3 := Lib.hid ho3
      clear hg3 hk3 hnew hb13 hlo c0 c1 c2 c3 c4 c5 c6
      have hrs3 : Hid ((rs ++ [(⟨f, X1, cX1, Y1, cY1⟩ : Rw)]).map Rw.f = fs.take (i + 1)) := by
        show List.map Rw.f (rs ++ [⟨f, X1, cX1, Y1, cY1⟩]) = _
        rw [List.map_append, hrs.out, List.take_add_one, hf.out]; rfl
      go_wp2
      go_roundw
      case rel => go_light; exact ⟨i + 1, rs ++ [⟨f, X1, cX1, Y1, cY1⟩], A3, cc3, by go_num, rfl, by rw [List.length_append, hrl'.out]; rfl, by omega, hrs3, ho3.out, hfar3.out, hbw3⟩
      case measure => go_light; simp [intOf]; omega
    · obtain rfl : i = fs.length := by omega
      have hF : rs.map Rw.f = fs := by rw [hrs.out, List.take_length]
      replace ho := Lib.hid ho
      replace hF := Lib.hid hF
      clear hrl
      go_wp2
      go_ret
      exact ⟨⟨B, c, rs, rfl, hF.out, ho.out, hfar.out⟩, hb⟩
end Go.Proofs.Ytcffhfcjfjfokaa
/- One element of an own row of contents set. -/
namespace Go.Proofs.Ytcffhfcjfjfokaa
open Go.RowKit
theorem flat_set7 : ∀ (l : List Rw) (k : Nat) (x : Rw), k < l.length →
    (((((((l.flatMap eRw).set (k * 7) (.int .i64 x.f.e)).set (k * 7 + 1) (.int .i64 x.f.l)).set (k * 7 + 2) (.int .i64 x.f.i)).set (k * 7 + 3) (.int .i64 x.f.c)).set (k * 7 + 4) (.int .i64 x.f.base)).set (k * 7 + 5) (.slice x.X x.f.slots.length x.cX)).set (k * 7 + 6) (.slice x.Y x.f.have_.length x.cY) = (l.set k x).flatMap eRw
  | [], k, x, h => by simp at h
  | y :: l, 0, x, _ => by simp [eRw]
  | y :: l, k + 1, x, h => by
    have ih := flat_set7 l k x (by simpa using h)
    rw [List.set_cons_succ, List.flatMap_cons, List.flatMap_cons, ← ih]
    have e1 : (k + 1) * 7 = k * 7 + 1 + 1 + 1 + 1 + 1 + 1 + 1 := by omega
    rw [e1]
    simp [eRw]
theorem Owns.setRw {w : World} {base g c k : Nat} {l : List Rw} (h : Owns w base 39 7 eRw (some ⟨g, 0, none⟩) c l) (hk : k < l.length) (x : Rw) :
    Owns (((((((w.setCell ⟨g, k * 7, none⟩ (.int .i64 x.f.e)).setCell ⟨g, k * 7 + 1, none⟩ (.int .i64 x.f.l)).setCell ⟨g, k * 7 + 2, none⟩ (.int .i64 x.f.i)).setCell ⟨g, k * 7 + 3, none⟩ (.int .i64 x.f.c)).setCell ⟨g, k * 7 + 4, none⟩ (.int .i64 x.f.base)).setCell ⟨g, k * 7 + 5, none⟩ (.slice x.X x.f.slots.length x.cX)).setCell ⟨g, k * 7 + 6, none⟩ (.slice x.Y x.f.have_.length x.cY)) base 39 7 eRw (some ⟨g, 0, none⟩) c (l.set k x) := by
  have h1 := (World.ownsRow.stored h (k * 7) (.int .i64 x.f.e)).1
  have h2 := (World.ownsRow.stored h1 (k * 7 + 1) (.int .i64 x.f.l)).1
  have h3 := (World.ownsRow.stored h2 (k * 7 + 2) (.int .i64 x.f.i)).1
  have h4 := (World.ownsRow.stored h3 (k * 7 + 3) (.int .i64 x.f.c)).1
  have h5 := (World.ownsRow.stored h4 (k * 7 + 4) (.int .i64 x.f.base)).1
  have h6 := (World.ownsRow.stored h5 (k * 7 + 5) (.slice x.X x.f.slots.length x.cX)).1
  have h7 := (World.ownsRow.stored h6 (k * 7 + 6) (.slice x.Y x.f.have_.length x.cY)).1
  rw [flat_set7 l k x hk] at h7
  unfold Owns
  rw [List.length_set]
  exact h7
end Go.Proofs.Ytcffhfcjfjfokaa
/- A whole content out of and into a row of the call's own. -/
namespace Go.Proofs.Ytcffhfcjfjfokaa
open Go.RowKit
theorem size39 : (Try.prog.info? 39).map (·.size) = some 7 := by kernel_rfl
theorem grown_cell (w : World) (g k : Nat) (v : Value) : w.grownBy (w.setCell ⟨g, k, none⟩ v) (some g) :=
  ⟨rfl, rfl, rfl, by rw [World.size_setCell]; exact Nat.le_refl _, fun i _ hne => Below.heap_setCell _ _ _ _ (fun e => hne (by rw [e]))⟩
theorem grown_sets (g : Nat) : ∀ (vs : List Value) (o : Nat) (w : World), w.grownBy (w.setCells g o vs) (some g)
  | [], o, w => World.grownBy.refl w _
  | v :: vs, o, w => (grown_cell w g o v).trans (grown_sets g vs (o + 1) _)
section
variable {ops : Array Oper} {rest : List Oper} {op : Oper} {a : Act} {w : World} {Q : Exit → Act → World → Prop} {base g c k : Nat} {l : List Rw}
theorem wpList_get7 (hgd : op.guard = none) (x : Operand) (ho : op.op = .load 39 x) (hx : a.eval x = .pointer (some ⟨g, k * 7, none⟩)) (hown : Owns w base 39 7 eRw (some ⟨g, 0, none⟩) c l) (r : Rw) (hr : l[k]? = some r)
    (h : wpList Try.prog ops Q rest (a.put op.dst (.agg #[.int .i64 r.f.e, .int .i64 r.f.l, .int .i64 r.f.i, .int .i64 r.f.c, .int .i64 r.f.base, .slice r.X r.f.slots.length r.cX, .slice r.Y r.f.have_.length r.cY])) w) : wpList Try.prog ops Q (op :: rest) a w := by
  refine wpList_load_mid hgd 39 x ho g (k * 7) hx (eRw r) _ ?_ Try.underlying39 rfl (by rw [size39]; rfl) h
  intro j v hv
  have hk := (List.getElem?_eq_some_iff.1 hr).1
  obtain ⟨b, off, e, _, hc⟩ := hown.row len_eRw (by omega)
  injection e with e; injection e with e1 e2
  subst e1 e2
  have := hc k r hr j v hv
  rwa [Nat.zero_add] at this
theorem wpList_put7 (hgd : op.guard = none) (x y : Operand) (ho : op.op = .store 39 x y) (hx : a.eval x = .pointer (some ⟨g, k * 7, none⟩)) (hown : Owns w base 39 7 eRw (some ⟨g, 0, none⟩) c l) (hk : k < l.length) (r : Rw)
    (hy : a.eval y = .agg #[.int .i64 r.f.e, .int .i64 r.f.l, .int .i64 r.f.i, .int .i64 r.f.c, .int .i64 r.f.base, .slice r.X r.f.slots.length r.cX, .slice r.Y r.f.have_.length r.cY])
    (h : ∀ w', Owns w' base 39 7 eRw (some ⟨g, 0, none⟩) c (l.set k r) → w.grownBy w' (some g) → wpList Try.prog ops Q rest (a.put op.dst undef) w') : wpList Try.prog ops Q (op :: rest) a w := by
  refine wpList_store_mid hgd 39 x y ho g (k * 7) (eRw r).toArray hx hy ?_ (by rw [size39]; rfl) (all_oneCell_toArray (one_eRw r)) (h _ (hown.setRw hk r) (grown_sets g _ _ w))
  intro j hj
  have hj' : j < 7 := hj
  refine ⟨?_, World.ownsRow.frozenAt hown _⟩
  rw [World.ownsRow.cellAt hown (k * 7 + j) (by have : k * 7 + 7 ≤ l.length * 7 := by omega
                                                omega)]
  rw [List.getElem?_eq_getElem (by rw [length_flat len_eRw]; omega)]; rfl
end
end Go.Proofs.Ytcffhfcjfjfokaa
/- A case of FlushAgree as it lies in memory. -/
namespace Go.Proofs.Ytcffhfcjfjfokaa
open Go.RowKit
abbrev mixC (A T M : Option Addr) (k cA nt cT nm cM : Nat) (twice far more : Int) : Array Value := #[.slice A k cA, .slice T nt cT, .int .i64 twice, .int .i64 far, .int .i64 more, .slice M nm cM]
theorem mixC_cells {w : World} {b : Nat} {A T M : Option Addr} {k cA nt cT nm cM : Nat} {twice far more : Int} (h : ∀ j, w.cell? ⟨b, j, none⟩ = (mixC A T M k cA nt cT nm cM twice far more)[j]?) :
    w.cell? ⟨b, 0, none⟩ = some (.slice A k cA) ∧ w.cell? ⟨b, 1, none⟩ = some (.slice T nt cT) ∧ w.cell? ⟨b, 2, none⟩ = some (.int .i64 twice) := ⟨h 0, h 1, h 2⟩
theorem mixC_cells2 {w : World} {b : Nat} {A T M : Option Addr} {k cA nt cT nm cM : Nat} {twice far more : Int} (h : ∀ j, w.cell? ⟨b, j, none⟩ = (mixC A T M k cA nt cT nm cM twice far more)[j]?) :
    w.cell? ⟨b, 3, none⟩ = some (.int .i64 far) ∧ w.cell? ⟨b, 4, none⟩ = some (.int .i64 more) ∧ w.cell? ⟨b, 5, none⟩ = some (.slice M nm cM) := ⟨h 3, h 4, h 5⟩
end Go.Proofs.Ytcffhfcjfjfokaa
