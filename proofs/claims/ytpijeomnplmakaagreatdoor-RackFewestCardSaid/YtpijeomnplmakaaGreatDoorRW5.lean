/- Texts of the proof, part 5: ShT, ShU, PkH, Rk4, Ra5, RefI, Rb0, Eng28, Gk1, PkX, Rk5, Lib3, Ra6, Ra7, Ra8, Ra9, Ra10, Ra12. -/
import Derived.Shelf.SlSortCmp.WholeK
import Derived.Shelf.Small.Bits
import Derived.Test.YtpijeomnplmakaaGreatDoorRW4
/- slices.SortFunc of slips: the contract of the library's shelf at this program. -/
namespace Go.Proofs.YtpijeomnplmakaaGreatDoor
open Go.Shelf Go.RowKit Go.Lib Go.Sort
def sh_laysSlF06_f65_ren : Go.Shelf.Ren := ⟨fun | 6 => 65 | 15 => 99 | 14 => 98 | 28 => 136 | 29 => 137 | 20 => 128 | 21 => 129 | 22 => 130 | 23 => 131 | 24 => 132 | 25 => 133 | 26 => 134 | 27 => 135 | 46 => 155 | 47 => 156 | 48 => 157 | 49 => 158 | 50 => 159 | 57 => 170 | n => n, fun | 22 => 44 | 24 => 49 | 25 => 114 | 3 => 3 | 39 => 158 | 0 => 0 | 53 => 129 | 55 => 192 | 4 => 4 | 46 => 185 | 45 => 184 | 50 => 71 | 5 => 5 | 9 => 9 | 66 => 205 | 70 => 209 | 76 => 225 | 77 => 102 | n => n, fun | n => n⟩

theorem sh_laysSlF06_f65 : Go.Proofs.SlLaysF0.n6 Tryz.prog sh_laysSlF06_f65_ren := {
  mixed := by kernel_rfl
  f6 := ⟨Tryz.f65.name, by decide, Tryz.func65.trans (congrArg some (by kernel_rfl))⟩
  f14 := ⟨Tryz.f98.name, by decide, Tryz.func98.trans (congrArg some (by kernel_rfl))⟩
  f15 := Tryz.func99.trans (congrArg some (by kernel_rfl))
  f20 := ⟨Tryz.f128.name, by decide, Tryz.func128.trans (congrArg some (by kernel_rfl))⟩
  f21 := ⟨Tryz.f129.name, by decide, Tryz.func129.trans (congrArg some (by kernel_rfl))⟩
  f22 := ⟨Tryz.f130.name, by decide, Tryz.func130.trans (congrArg some (by kernel_rfl))⟩
  f23 := ⟨Tryz.f131.name, by decide, Tryz.func131.trans (congrArg some (by kernel_rfl))⟩
  f24 := ⟨Tryz.f132.name, by decide, Tryz.func132.trans (congrArg some (by kernel_rfl))⟩
  f25 := ⟨Tryz.f133.name, by decide, Tryz.func133.trans (congrArg some (by kernel_rfl))⟩
  f26 := ⟨Tryz.f134.name, by decide, Tryz.func134.trans (congrArg some (by kernel_rfl))⟩
  f27 := ⟨Tryz.f135.name, by decide, Tryz.func135.trans (congrArg some (by kernel_rfl))⟩
  f28 := Tryz.func136.trans (congrArg some (by kernel_rfl))
  f29 := Tryz.func137.trans (congrArg some (by kernel_rfl))
  f46 := ⟨Tryz.f155.name, by decide, Tryz.func155.trans (congrArg some (by kernel_rfl))⟩
  f47 := Tryz.func156.trans (congrArg some (by kernel_rfl))
  f48 := Tryz.func157.trans (congrArg some (by kernel_rfl))
  f49 := ⟨Tryz.f158.name, by decide, Tryz.func158.trans (congrArg some (by kernel_rfl))⟩
  f50 := ⟨Tryz.f159.name, by decide, Tryz.func159.trans (congrArg some (by kernel_rfl))⟩
  f57 := ⟨Tryz.f170.name, by decide, Tryz.func170.trans (congrArg some (by kernel_rfl))⟩
  t0 := Tryz.underlying0
  a0 := Tryz.isAgg0
  z0 := Tryz.sizeOf0
  v0 := Tryz.zeroValue0
  t3 := Tryz.underlying3
  a3 := Tryz.isAgg3
  z3 := Tryz.sizeOf3
  v3 := Tryz.zeroValue3
  t4 := Tryz.underlying4
  a4 := Tryz.isAgg4
  z4 := Tryz.sizeOf4
  v4 := Tryz.zeroValue4
  t5 := Tryz.underlying5
  a5 := Tryz.isAgg5
  z5 := Tryz.sizeOf5
  v5 := Tryz.zeroValue5
  t9 := Tryz.underlying9
  a9 := Tryz.isAgg9
  z9 := Tryz.sizeOf9
  v9 := Tryz.zeroValue9
  t22 := Tryz.underlying44
  a22 := Tryz.isAgg44
  z22 := Tryz.sizeOf44
  v22 := Tryz.zeroValue44
  t25 := Tryz.underlying114
  a25 := Tryz.isAgg114
  z25 := Tryz.sizeOf114
  v25 := Tryz.zeroValue114
  t39 := Tryz.underlying158
  a39 := Tryz.isAgg158
  z39 := Tryz.sizeOf158
  v39 := Tryz.zeroValue158
  t45 := Tryz.underlying184
  a45 := Tryz.isAgg184
  z45 := Tryz.sizeOf184
  v45 := Tryz.zeroValue184
  t46 := Tryz.underlying185
  a46 := Tryz.isAgg185
  z46 := Tryz.sizeOf185
  v46 := Tryz.zeroValue185
  t50 := Tryz.underlying71
  a50 := Tryz.isAgg71
  z50 := Tryz.sizeOf71
  v50 := Tryz.zeroValue71
  t53 := Tryz.underlying129
  a53 := Tryz.isAgg129
  z53 := Tryz.sizeOf129
  v53 := Tryz.zeroValue129
  t55 := Tryz.underlying192
  a55 := Tryz.isAgg192
  z55 := Tryz.sizeOf192
  v55 := Tryz.zeroValue192
  t66 := Tryz.underlying205
  a66 := Tryz.isAgg205
  z66 := Tryz.sizeOf205
  v66 := Tryz.zeroValue205
  t70 := Tryz.underlying209
  a70 := Tryz.isAgg209
  z70 := Tryz.sizeOf209
  v70 := Tryz.zeroValue209
  t76 := Tryz.underlying225
  a76 := Tryz.isAgg225
  z76 := Tryz.sizeOf225
  v76 := Tryz.zeroValue225
  t77 := Tryz.underlying102
  a77 := Tryz.isAgg102
  z77 := Tryz.sizeOf102
  v77 := Tryz.zeroValue102 }

theorem sh_slices_SortFunc {α : Type} [Inhabited α] (k : Nat) (aE : ∀ w, (isAgg 49).run Tryz.prog w = .ok true w) (zE : ∀ w, (Go.sizeOf 49).run Tryz.prog w = .ok k w) (enc : α → List Value) (hk : ∀ x, (enc x).length = k) (h1 : ∀ x, ∀ v ∈ enc x, v.oneCell' = true) (cf : α → α → Int) (hO : SWO (ltOf cf)) (g : Nat) (cb : Array Value) (blk off cap : Nat) (d : Array α) (w : World) (eg : ∀ args w, (callFunc g args).run Tryz.prog w = .ok (.enter g args) w) (hcmp : CmpLays Tryz.prog g cb enc k cf blk off d.size w) (hH : HoldsK enc k w blk off d) (hblk : blk < w.heap.size) (hsz : d.size < 4611686018427387904) :
    Calls Tryz.prog 65 #[.slice (some ⟨blk, off, none⟩) d.size cap, .func (.func g) #[] cb] w fun e w' =>
      e = .returned (.tuple #[]) ∧ ∃ d' n os, PermIn 0 d.size d d' ∧ SortedIn (ltOf cf) 0 d.size d' ∧ w' = sortWorldK enc k w blk off n d' os := AnyQ.slices_SortFunc sh_laysSlF06_f65 k aE zE enc hk h1 cf hO g cb blk off cap d w eg hcmp hH hblk hsz

theorem flat_getK {k : Nat} (hk : 0 < k) : ∀ {xs : List Value}, (∀ x ∈ xs, x.cells.size = k) → ∀ t, t < xs.length * k → (xs.flatMap (·.cells.toList))[t]? = (xs[t / k]?).bind fun x => x.cells.toList[t % k]?
  | [], _, t, h => by simp at h
  | y :: xs, hx, t, h => by
    have hy : y.cells.toList.length = k := by simpa using hx y List.mem_cons_self
    rw [List.flatMap_cons]
    rcases Nat.lt_or_ge t k with c | c
    · rw [List.getElem?_append_left (by omega), Nat.div_eq_of_lt c, Nat.mod_eq_of_lt c]
      rfl
    · rw [List.getElem?_append_right (by omega), hy]
      have e1 : t / k = (t - k) / k + 1 := by rw [Nat.div_eq_sub_div hk c]
      have e2 : t % k = (t - k) % k := Nat.mod_eq_sub_mod c
      rw [e1, e2, List.getElem?_cons_succ]
      refine flat_getK hk (fun z hz => hx z (List.mem_cons_of_mem _ hz)) (t - k) ?_
      rw [List.length_cons, Nat.add_mul] at h
      omega
def slC (x : Slp) : List Value := (encSl x).cells.toList
theorem swo_pre {α : Type} {f : α → α → Int} (hf : Pre3 f) : SWO (ltOf f) where
  irrefl x := by rw [ltOf, hf.refl]; rfl
  trans x y z h1 h2 := by
    simp only [ltOf, decide_eq_true_eq] at h1 h2 ⊢
    have r1 := hf.r x y
    have r2 := hf.r y z
    have := hf.tr x y z (by omega) (by omega)
    omega
  ntrans x y z h1 h2 := by
    simp only [ltOf, decide_eq_false_iff_not] at h1 h2 ⊢
    intro h3
    have r1 := hf.r x y
    have r3 := hf.r x z
    have a1 := hf.anti x y
    by_cases e : f x y = 0
    · have := hf.eql x y z e; omega
    · have := hf.tr y x z (by omega) (by omega); omega
theorem Only.sortedK {α : Type} [Inhabited α] {enc : α → List Value} {k : Nat} {w : World} {g m : Nat} {d : Array α} {os : Array Obj} : Only g w (sortWorldK enc k w g 0 m d os) := by
  refine ⟨rfl, rfl, rfl, by simp [sortWorldK, grow, putRowK, putRow, mapBlock, Go.Sort.ahead], fun q hq hn => ?_⟩
  have h1 : q < (putRowK enc k (Go.Sort.ahead w m) g 0 d).heap.size := by simpa [putRowK, putRow, mapBlock, Go.Sort.ahead] using hq
  rw [sortWorldK, heap_grow_old _ _ h1]
  simp only [putRowK, putRow, mapBlock, Go.Sort.ahead, Array.getElem?_modify]
  rw [if_neg (fun e => hn e.symm)]
theorem grown_ext {w w' : World} (h : Ext w w') (hd : w.drawn ≤ w'.drawn) : ∃ (q : Nat) (os : Array Obj), w' = grow (w.drewN q) os := by
  refine ⟨w'.drawn - w.drawn, w'.heap.extract w.heap.size w'.heap.size, ?_⟩
  obtain ⟨h1, h2, h3, h4, h5⟩ := h.b
  have hh : w'.heap = w.heap ++ w'.heap.extract w.heap.size w'.heap.size := by
    apply Array.ext_getElem?
    intro i
    rw [Array.getElem?_append]
    split
    · rename_i hi; exact h5 i hi
    · rename_i hi
      rw [Array.getElem?_extract]
      by_cases hj : i < w'.heap.size
      · rw [if_pos (by omega), show w.heap.size + (i - w.heap.size) = i by omega]
      · rw [if_neg (by omega), Array.getElem?_eq_none (by omega)]
  have hd : w'.drawn = w.drawn + (w'.drawn - w.drawn) := by omega
  clear h4 h5 h
  cases w
  cases w'
  simp only [grow, World.drewN] at *
  subst h1 h2 h3
  rw [← hh, ← hd]
def GSl : Type := {x : Slp // GdS x}
def aSl : Slp := (((0 : Int), (0 : Int), (0 : Int)), ⟨#[97]⟩, ⟨#[]⟩, ⟨#[]⟩)
theorem gd_a : GdS aSl := ⟨by decide +kernel, by unfold SmallS; decide +kernel⟩
instance : Inhabited GSl := ⟨⟨aSl, gd_a⟩⟩
theorem sub_gsl : ∀ {l : List Slp}, (∀ x ∈ l, GdS x) → ∃ m : List GSl, l = m.map fun x => x.1
  | [], _ => ⟨[], rfl⟩
  | x :: l, h => by
    obtain ⟨m, rfl⟩ := sub_gsl (l := l) fun y hy => h y (List.mem_cons_of_mem _ hy)
    exact ⟨⟨x, h x List.mem_cons_self⟩ :: m, rfl⟩
def slG (x : GSl) : List Value := slC x.1
theorem flatG_get (l : List GSl) (t : Nat) (h : t < l.length * 6) : ((l.map fun x => encSl x.1).flatMap (·.cells.toList))[t]? = some ((flatK slG 6 l.toArray)[t]!) := by
  rw [flat_getK (k := 6) (by omega) (fun x hx => by obtain ⟨y, _, rfl⟩ := List.mem_map.1 hx; rfl) t (by rw [List.length_map]; exact h)]
  have h1 : t / 6 < l.length := by omega
  have h2 : t % 6 < 6 := Nat.mod_lt _ (by omega)
  rw [get_flatK slG 6 l.toArray t (by simpa using h), List.getElem?_map, List.getElem?_eq_getElem h1]
  have e : l.toArray[t / 6]! = l[t / 6] := by rw [getElem!_pos _ _ (by simpa using h1)]; rfl
  rw [e]
  show (slG l[t / 6])[t % 6]? = some ((slG l[t / 6])[t % 6]!)
  have h3 : (slG l[t / 6]).length = 6 := rfl
  rw [List.getElem?_eq_getElem (by omega), getElem!_pos _ _ (by omega)]
set_option maxHeartbeats 1000000 in
theorem SortFunc_slip (q : Nat) [he : Enters Tryz.prog q] (cf : Slp → Slp → Int) (hf : Pre3 cf) (hc : CmpQ q cf)
    (g n c : Nat) (l0 : List Slp) (hg : ∀ x ∈ l0, GdS x) (w : World) {B : Nat} (hO : OwnL w B 49 true 6 (.slice (some ⟨g, 0, none⟩) n c) (l0.map encSl)) (hn : n ≤ 1000000) (hmx : ∀ V, Only g w V → MxI V) :
    Calls Tryz.prog 65 [.slice (some ⟨g, 0, none⟩) n c, .func (.func q) #[] #[]].toArray w fun e w' => (∃ v, e = .returned v) ∧ Only g w w' ∧ ∃ r : List Slp, r.Perm l0 ∧ r.Pairwise (fun a b => cf b a ≠ -1) ∧ OwnL w' g 49 true 6 (.slice (some ⟨g, 0, none⟩) n c) (r.map encSl) := by
  obtain ⟨l, hl⟩ := sub_gsl hg
  subst hl
  have emp : ∀ l : List GSl, (l.map fun x => x.1).map encSl = l.map fun x => encSl x.1 := fun l => by rw [List.map_map]; rfl
  rw [emp] at hO
  have hf' : Pre3 fun x y : GSl => cf x.1 y.1 := ⟨fun _ _ => hf.r _ _, fun _ _ => hf.anti _ _, fun _ _ _ => hf.tr _ _ _, fun _ _ _ => hf.eql _ _ _⟩
  obtain ⟨cs, hB, hcl, hnc, hcm, hln, htk, hBg⟩ := hO.cellsK
  rw [List.length_map] at hln
  have hsz : l.toArray.size = n := by simpa using hln
  have hH : HoldsK slG 6 w g 0 l.toArray := fun j hj => by
    rw [size_flatK, hsz] at hj
    have h1 := flatG_get l j (by rw [hln]; exact hj)
    rw [← htk, List.getElem?_take, if_pos hj] at h1
    rw [Nat.zero_add]
    constructor
    · simp only [World.cell?, hB.h]
      simpa using h1
    · simp [World.frozen?, hB.h]
  have hcc := sh_slices_SortFunc (k := 6) (fun w => by kernel_rfl) (fun w => by kernel_rfl) slG (fun _ => rfl) (fun x v hv => List.all_eq_true.1 (show (slG x).all (·.oneCell') = true from rfl) v hv) (fun x y : GSl => cf x.1 y.1) (swo_pre hf') q #[] g 0 c l.toArray w (Enters.h (P := Tryz.prog) (g := q)) (fun m os dk _ x y => by
    refine Calls.mono (hc x.1 y.1 _ (hmx _ Only.sortedK) x.2 y.2) fun e w' ⟨h1, h2, h3⟩ => ⟨h1, ?_⟩
    exact grown_ext h2 h3) hH hB.lt (by omega)
  rw [hsz] at hcc
  refine Calls.mono hcc fun e w' ⟨he, d', m, os, hp, hs, hw⟩ => ⟨⟨_, he⟩, by rw [hw]; exact Only.sortedK, d'.toList.map fun x => x.1, ?_, ?_, ?_⟩
  · obtain ⟨h1, _, h2⟩ := hp
    have ex : ∀ (x : Array GSl), x.size = n → x.extract 0 n = x := fun x hx => by subst hx; simp
    have e1 := ex d' (h1.trans hsz)
    have e2 := ex l.toArray hsz
    rw [e1, e2] at h2
    exact List.Perm.map _ (by simpa using h2)
  · have h1 : d'.size = n := hp.1.trans hsz
    rw [List.pairwise_map, List.pairwise_iff_getElem]
    intro i j hi hj hij
    have := hs i j (Nat.zero_le _) hij (by simpa [h1] using hj)
    rw [getElem!_pos _ j (by simpa using hj), getElem!_pos _ i (by simpa using hi)] at this
    simp only [ltOf, decide_eq_false_iff_not] at this
    simp only [Array.getElem_toList]
    omega
  · have h1 : d'.size = n := hp.1.trans hsz
    have hBk : Bk w' g (putCells id 0 (flatK slG 6 d') cs.toArray).toList 49 := by
      refine ⟨?_⟩
      rw [hw, sortWorldK, heap_grow_old _ _ (by simpa [putRowK, putRow, mapBlock, Go.Sort.ahead] using hB.lt)]
      simp [putRowK, putRow, mapBlock, Go.Sort.ahead, Array.getElem?_modify, hB.h, onCells]
    rw [emp]
    refine OwnL.ofCellsK hBk (by simp [putCells, hcl]) hnc hcm (by simpa using h1) ?_ (by omega) (Nat.le_refl _) fun x hx => by obtain ⟨y, _, rfl⟩ := List.mem_map.1 hx; rfl
    apply List.ext_getElem?
    intro j
    rw [List.getElem?_take]
    by_cases hj : j < n * 6
    · rw [if_pos hj]
      have hnc' : n * 6 ≤ c * 6 := Nat.mul_le_mul_right 6 hnc
      have hjc : j < cs.length := by omega
      have hjd : j < (flatK slG 6 d').size := by rw [size_flatK, h1]; exact hj
      rw [flatG_get d'.toList j (by simpa [h1] using hj)]
      have hjd' : j < d'.size * 6 := by rw [h1]; exact hj
      simp [putCells, hjc, hjd']
    · rw [if_neg hj]
      have hl := flat_len (k := 6) (xs := d'.toList.map fun x : GSl => encSl x.1) fun x hx => by obtain ⟨y, _, rfl⟩ := List.mem_map.1 hx; rfl
      rw [List.getElem?_eq_none (by rw [hl, List.length_map, Array.length_toList, h1]; omega)]
end Go.Proofs.YtpijeomnplmakaaGreatDoor

/- slices.SortFunc, slices.CompactFunc of slips: nil slices too. -/
namespace Go.Proofs.YtpijeomnplmakaaGreatDoor
open Go.Shelf Go.RowKit Go.Lib Go.Sort
def sh_lays125_ren : Go.Shelf.Ren := ⟨fun | 125 => 99 | 128 => 136 | 129 => 137 | n => n, fun | 46 => 158 | 3 => 3 | 51 => 129 | 53 => 192 | 4 => 4 | 5 => 5 | 9 => 9 | n => n, fun | n => n⟩

theorem sh_lays125 : Go.Proofs.Lays.n125 Tryz.prog sh_lays125_ren := {
  mixed := by kernel_rfl
  f125 := Tryz.func99.trans (congrArg some (by kernel_rfl))
  f128 := Tryz.func136.trans (congrArg some (by kernel_rfl))
  f129 := Tryz.func137.trans (congrArg some (by kernel_rfl))
  t3 := Tryz.underlying3
  a3 := Tryz.isAgg3
  z3 := Tryz.sizeOf3
  v3 := Tryz.zeroValue3
  t4 := Tryz.underlying4
  a4 := Tryz.isAgg4
  z4 := Tryz.sizeOf4
  v4 := Tryz.zeroValue4
  t5 := Tryz.underlying5
  a5 := Tryz.isAgg5
  z5 := Tryz.sizeOf5
  v5 := Tryz.zeroValue5
  t9 := Tryz.underlying9
  a9 := Tryz.isAgg9
  z9 := Tryz.sizeOf9
  v9 := Tryz.zeroValue9
  t46 := Tryz.underlying158
  a46 := Tryz.isAgg158
  z46 := Tryz.sizeOf158
  v46 := Tryz.zeroValue158
  t51 := Tryz.underlying129
  a51 := Tryz.isAgg129
  z51 := Tryz.sizeOf129
  v51 := Tryz.zeroValue129
  t53 := Tryz.underlying192
  a53 := Tryz.isAgg192
  z53 := Tryz.sizeOf192
  v53 := Tryz.zeroValue192 }

theorem sh_bits_Len (x : Int) (w : World) (h0 : 0 ≤ x) (h1 : x ≤ 18446744073709551615) :
    Calls Tryz.prog 99 #[.int .u64 x] w fun e w' => e = .returned (.int .i64 (Lib.bitLen x.toNat)) ∧ w' = w := Any.bits_Len sh_lays125 x w h0 h1

section
variable (q : Nat) [he : Enters Tryz.prog q] (cf : Slp → Slp → Int)
omit he in
theorem insert_none (w : World) : Ct Tryz.prog 128 [.slice none 0 0, .int .i64 0, .int .i64 0, .func (.func q) #[] #[]] w fun _ _ => True := by
  refine Ct.ofW (by simp) ?_
  (refine jjB ?_; refine jjC ?_; apply jI; exact eI rfl; refine jY rfl rfl (by omega) ?_; apply jJ; exact eI rfl; refine jz ?_; refine jjD ?_)
  refine W.loop (12 :: 13 :: 14 :: 17 :: 9 :: 18 :: 19 :: 20 :: 21 :: 22 :: 23 :: 24 :: 25 :: 26 :: 27 :: 28 :: 29 :: 30 :: 31 :: 32 :: 33 :: 34 :: 37 :: 38 :: 39 :: 40 :: 41 :: 42 :: 43 :: 44 :: 45 :: 46 :: 47 :: 48 :: 49 :: 50 :: 51 :: 52 :: 35 :: 36 :: 15 :: 16 :: 8 :: []) (fun g s' _ => s' 8 = .int .i64 1) 1 rfl ?_
  rintro _ sd V hSV h8
  refine W.fix h8 ?_
  (refine jjB ?_; refine jjB ?_; refine jjC ?_; apply jI; exact eI rfl; apply jI; exact eI rfl; refine jja rfl rfl (by omega) ?_; refine jz ?_; refine jjK rfl ?_; refine jjE ?_; refine jA rfl ⟨inferInstance, ?_⟩)
  trivial
omit he in
theorem pdq_none (m : Int) (w : World) : Ct Tryz.prog 98 [.slice none 0 0, .int .i64 0, .int .i64 0, .int .i64 m, .func (.func q) #[] #[]] w fun _ _ => True := by
  refine Ct.ofW (by simp) ?_
  (refine jjB ?_; refine jjC ?_; apply jJ; exact eB rfl; refine jz ?_; refine jjB ?_; refine jjC ?_; apply jJ; exact eB rfl; refine jz ?_; refine jjD ?_)
  refine W.loop (21 :: 22 :: 23 :: 12 :: 24 :: 25 :: 26 :: 27 :: 28 :: 29 :: 30 :: 31 :: 32 :: 33 :: 34 :: 35 :: 36 :: 37 :: 38 :: 39 :: 40 :: 41 :: 42 :: 43 :: 44 :: 45 :: 46 :: 3 :: 48 :: 49 :: 50 :: 51 :: 52 :: 47 :: 53 :: 54 :: 13 :: 14 :: 55 :: 56 :: 57 :: 58 :: 59 :: 60 :: 61 :: 62 :: 63 :: 64 :: 65 :: 66 :: 67 :: 68 :: 69 :: 70 :: 71 :: 72 :: 73 :: 74 :: 75 :: 76 :: 77 :: 78 :: 79 :: 80 :: 81 :: 82 :: 83 :: 84 :: 85 :: 86 :: 87 :: 88 :: 89 :: 90 :: 91 :: 92 :: 93 :: 94 :: 95 :: 96 :: 97 :: 98 :: 99 :: 100 :: 101 :: 102 :: 103 :: 15 :: 104 :: 1 :: 106 :: 107 :: 108 :: 109 :: 110 :: 111 :: 105 :: 112 :: 113 :: 16 :: 17 :: 114 :: 11 :: 115 :: 116 :: 117 :: 118 :: 119 :: 120 :: 18 :: 19 :: 121 :: 122 :: 20 :: 123 :: 124 :: 125 :: 126 :: 127 :: 128 :: 10 :: 129 :: 130 :: 131 :: 132 :: 133 :: 134 :: 135 :: 136 :: 137 :: 138 :: 139 :: 140 :: 141 :: 142 :: 143 :: 144 :: 145 :: 146 :: 147 :: 2 :: []) (fun g s' _ => s' 1 = .int .i64 0 ∧ s' 2 = .int .i64 0) 1 ⟨rfl, rfl⟩ ?_
  rintro _ sd V hSV ⟨h1, h2⟩
  refine W.fix h1 (W.fix (d := 2) h2 ?_)
  (refine jjD ?_; refine jjB ?_; refine jjC ?_; apply jI; exact eI rfl; apply jI; exact eI rfl; refine jZ rfl rfl (by omega) ?_; apply jJ; exact eI rfl; refine jz ?_; refine jjB ?_; refine jjB ?_; refine jjC ?_; apply jI; exact eI rfl; refine jjb rfl rfl (by omega) ?_; refine jz ?_; refine jjJ rfl ?_; refine jjB ?_; refine jjC ?_; apply jI; exact eS rfl; apply jI; exact eI rfl; apply jI; exact eI rfl; apply jI; exact eF rfl)
  refine jjQ (insert_none q _) rfl rfl ?_
  rintro _ w2 hS2 _
  (refine jz ?_; refine jjF ?_; refine jA rfl ⟨inferInstance, ?_⟩)
  trivial
omit he in
theorem SortFunc_none (w : World) : Ct Tryz.prog 65 [.slice none 0 0, .func (.func q) #[] #[]] w fun _ _ => True := by
  refine Ct.ofW (by simp) ?_
  (refine jjB ?_; refine jjC ?_; apply jI; exact eS rfl; refine jh rfl ?_; apply jJ; exact eI rfl; refine jz ?_; refine jjC ?_; apply jI; exact eS rfl; apply jI; exact eI rfl; apply jI; exact eI rfl)
  refine Ops.convI rfl rfl (show _ = (0 : Int) from by rfl) ?_
  skip
  refine Ops.callR rfl (Enters.h (P := Tryz.prog) (g := 99)) rfl (sh_bits_Len 0 _ (by omega) (by omega)) ?_
  rintro e w3 ⟨rfl, rfl⟩
  refine ⟨_, rfl, ?_⟩
  (apply jI; exact eF rfl)
  refine jjQ (pdq_none q _ _) rfl rfl ?_
  rintro _ w4 hS4 _
  (refine jz ?_; refine jA rfl ⟨inferInstance, ?_⟩)
  trivial
theorem Compact_none (bk : Nat) (w : World) : Ct Tryz.prog 66 [.slice none 0 0, .func (.func 67) #[] #[.pointer (some ⟨bk, 0, none⟩)]] w fun v _ => v = .slice none 0 0 := by
  refine Ct.ofW (by simp) ?_
  (refine jjB ?_; refine jjC ?_; apply jJ; exact eS rfl; refine jz ?_; refine jjB ?_; refine jjB ?_; refine jjC ?_; apply jI; exact eS rfl; refine jh rfl ?_; refine jjZ rfl rfl (by omega) ?_; refine jz ?_; refine jjJ rfl ?_; refine jjB ?_; refine jjC ?_; apply jI; exact eS rfl; apply jJ; exact eS rfl; refine jz ?_; refine jjF ?_; refine jB rfl rfl ⟨inferInstance, ?_⟩)
  exact rfl
variable (hf : Pre3 cf) (hc : CmpQ q cf)
include hf hc in
theorem SortAny (a : Option Addr) (c : Nat) (l : List Slp) (hg : ∀ x ∈ l, GdS x) (w : World) {B : Nat} (hO : OwnL w B 49 true 6 (.slice a l.length c) (l.map encSl)) (hB : B ≤ w.heap.size) (hl : l.length ≤ 1000000) (hmx : ∀ V, (∀ w0, Ext w0 w → w0.heap.size ≤ B → Ext w0 V) → MxI V) :
    Calls Tryz.prog 65 [.slice a l.length c, .func (.func q) #[] #[]].toArray w fun e w' => (∃ v, e = .returned v) ∧ (∀ w0, Ext w0 w → w0.heap.size ≤ B → Ext w0 w') ∧ ∃ r : List Slp, r.Perm l ∧ r.Pairwise (fun a b => cf b a ≠ -1) ∧ OwnL w' B 49 true 6 (.slice a l.length c) (r.map encSl) := by
  rcases hO.own.2 with ⟨e1, _⟩ | ⟨g, cap, cur, e1, hBg, _⟩
  · simp only [Value.slice.injEq] at e1
    obtain ⟨rfl, h0, rfl⟩ := e1
    obtain rfl := List.length_eq_zero_iff.1 h0
    have h := SortFunc_none q w
    unfold Ct at h
    exact Calls.mono h fun e w' ⟨v, h1, h2, _⟩ => ⟨⟨v, h1⟩, fun w0 h3 _ => h3.trans h2, [], List.Perm.refl _, List.Pairwise.nil, hO.ext h2⟩
  · simp only [Value.slice.injEq] at e1
    obtain ⟨rfl, _, rfl⟩ := e1
    refine Calls.mono (SortFunc_slip q cf hf hc g l.length _ l hg w hO hl fun V hV => hmx V fun w0 x0 hb => hV.ext x0 (by omega)) fun e w' ⟨h1, h2, r, h3, h4, h5⟩ => ⟨h1, fun w0 x0 hb => h2.ext x0 (by omega), r, h3, h4, h5.mono hBg⟩
include hc in
theorem CompactAny (bk : Nat) (a : Option Addr) (c : Nat) (l : List Slp) (hg : ∀ x ∈ l, GdS x) (w : World) {B : Nat} (hA : At w bk 0 [.func (.func q) #[] #[]]) (hbk : bk < B) (hO : OwnL w B 49 true 6 (.slice a l.length c) (l.map encSl)) (hB : B ≤ w.heap.size) (hl : l.length ≤ 1000000) (hmx : ∀ V, (∀ w0, Ext w0 w → w0.heap.size ≤ B → Ext w0 V) → MxI V) :
    Calls Tryz.prog 66 [.slice a l.length c, .func (.func 67) #[] #[.pointer (some ⟨bk, 0, none⟩)]].toArray w fun e w' => e = .returned (.slice a (cptL cf l).length c) ∧ (∀ w0, Ext w0 w → w0.heap.size ≤ B → Ext w0 w') ∧ OwnL w' B 49 true 6 (.slice a (cptL cf l).length c) ((cptL cf l).map encSl) := by
  rcases hO.own.2 with ⟨e1, _⟩ | ⟨g, cap, cur, e1, hBg, _⟩
  · simp only [Value.slice.injEq] at e1
    obtain ⟨rfl, h0, rfl⟩ := e1
    obtain rfl := List.length_eq_zero_iff.1 h0
    have h := Compact_none bk w
    unfold Ct at h
    exact Calls.mono h fun e w' ⟨v, h1, h2, h4⟩ => ⟨by rw [h1, h4]; rfl, fun w0 h3 _ => h3.trans h2, hO.ext h2⟩
  · simp only [Value.slice.injEq] at e1
    obtain ⟨rfl, _, rfl⟩ := e1
    refine Calls.mono (Compact_slip q cf hc bk g l.length _ l hg w hA (by omega) (by omega) hO hl fun V hV => hmx V fun w0 x0 hb => hV.ext x0 (by omega)) fun e w' ⟨h1, h2, h5⟩ => ⟨h1, fun w0 x0 hb => h2.ext x0 (by omega), h5⟩
end
end Go.Proofs.YtpijeomnplmakaaGreatDoor

/- What Ranks answers. -/
namespace Go.Proofs.YtpijeomnplmakaaGreatDoor
open Go.RowKit

def ranksR (l : List Slp) (n : Int) : List Int × Int :=
  if 60 < l.length then ([], 4) else if ¬ l.all slipB = true then ([], 31) else if ¬ (1 ≤ n ∧ n ≤ 4) then ([], 2) else (l.map fun s => (rankF (cmpBy n) l s : Int), 0)
theorem ranksR_ok {l : List Slp} {n : Int} (h1 : l.length ≤ 60) (h2 : l.all slipB = true) (h3 : 1 ≤ n ∧ n ≤ 4) : ranksR l n = (l.map fun s => (rankF (cmpBy n) l s : Int), 0) := by
  rw [ranksR, if_neg (by omega), if_neg (by simp [h2]), if_neg (by simp [h3])]
end Go.Proofs.YtpijeomnplmakaaGreatDoor

/- rack.Ranks: the ranks of slips. -/
namespace Go.Proofs.YtpijeomnplmakaaGreatDoor
open Go.RowKit Go.Sort

/-- The table of comparators. -/
abbrev bysC : List Value := [.nilFunc, .func (.func 224) #[] ([] : List Value).toArray, .func (.func 225) #[] ([] : List Value).toArray, .func (.func 227) #[] ([] : List Value).toArray, .func (.func 228) #[] ([] : List Value).toArray]
theorem cptGo_len {α : Type} {f : α → α → Int} : ∀ (r : List α) (p : α), (cptGo f p r).length ≤ r.length
  | [], _ => Nat.le_refl _
  | x :: r, p => by
    rw [cptGo]
    have := cptGo_len (f := f) r x
    split <;> simp <;> omega
theorem cpt_len {α : Type} {f : α → α → Int} (l : List α) : (cptL f l).length ≤ l.length := by
  cases l with
  | nil => exact Nat.le_refl _
  | cons x r => have := cptGo_len (f := f) r x; simp [cptL]; exact this
def RanksR (l : List Slp) (n : Int) (B : Nat) (v : Value) (w' : World) : Prop := ∃ (a : Option Addr) (c : Nat), v = .tuple #[.slice a (ranksR l n).1.length c, .int .i64 (ranksR l n).2] ∧ OwnL w' B 3 false 1 (.slice a (ranksR l n).1.length c) ((ranksR l n).1.map intV)
theorem ordR_self (x : Slp) : (ordR x x).2 = if slipB x = true then 0 else 31 := by
  rw [ordR]
  cases slipB x <;> rfl
/-- What the table holds for one way. -/
theorem by_row (w : World) (by_ : Int) (hb : 1 ≤ by_ ∧ by_ ≤ 4) (h1 : by_ = 1 → CmpQ 224 (cmpBy 1)) (hgb : At w 0 0 bysC) : ∃ (q : Nat) (j : Nat) (rest : List Value), by_ = (j : Int) ∧ j < 5 ∧ Enters Tryz.prog q ∧ CmpQ q (cmpBy by_) ∧ At w 0 (0 + j * 1) (.func (.func q) #[] #[] :: rest) := by
  have h4 : by_ = 1 ∨ by_ = 2 ∨ by_ = 3 ∨ by_ = 4 := by omega
  rcases h4 with rfl | rfl | rfl | rfl
  · exact ⟨224, 1, _, rfl, by omega, inferInstance, h1 rfl, hgb.drop 1⟩
  · exact ⟨225, 2, _, rfl, by omega, inferInstance, by2_slip, hgb.drop 2⟩
  · exact ⟨227, 3, _, rfl, by omega, inferInstance, by3_slip, hgb.drop 3⟩
  · exact ⟨228, 4, _, rfl, by omega, inferInstance, by4_slip, hgb.drop 4⟩
section
variable (a : Option Addr) (c : Nat) (l : List Slp) (by_ : Int) (w : World) [hgb : At w 0 0 bysC] [hmx : MxI w] [hrow : RowI w (.slice a l.length c) true 6 (l.map encSl)]
set_option maxHeartbeats 4000000 in
theorem Ranks_rack (hq1 : by_ = 1 → CmpQ 224 (cmpBy 1)) (hs : ∀ x ∈ l, SmallS x) (hb : 0 ≤ by_ ∧ by_ ≤ 255) : Ct Tryz.prog 22 [.slice a l.length c, .int .u8 by_] w fun v w' => RanksR l by_ w.heap.size v w' := by
  refine Ct.ofW (by simp) ?_
  by_cases h60 : 60 < l.length
  · (refine jjB ?_; refine jjC ?_; apply jJ; exact eS rfl; apply jJ; exact eI rfl; refine jz ?_; refine jjB ?_; refine jjB ?_; refine jjC ?_; apply jI; exact eS rfl; refine jh rfl ?_; refine jjd rfl rfl (by omega) ?_; refine jz ?_; refine jjJ rfl ?_; refine jjB ?_; refine jjC ?_; apply jJ; exact eS rfl; apply jJ; exact eI rfl; refine jz ?_; refine jjF ?_; refine jC rfl rfl rfl ⟨inferInstance, ?_⟩)
    have e : ranksR l by_ = ([], 4) := by rw [ranksR, if_pos h60]
    unfold RanksR; rw [e]
    exact ⟨none, 0, rfl, OwnL.nil _ _ _ _ _⟩
  (refine jjB ?_; refine jjC ?_; apply jJ; exact eS rfl; apply jJ; exact eI rfl; refine jz ?_; refine jjB ?_; refine jjB ?_; refine jjC ?_; apply jI; exact eS rfl; refine jh rfl ?_; refine jje rfl rfl (by omega) ?_; refine jz ?_; refine jjK rfl ?_; refine jjG ?_; refine jjB ?_; refine jjB ?_; refine jjC ?_; apply jI; exact eS rfl; refine jh rfl ?_; apply jI; exact eI rfl; refine jz ?_; refine jjD ?_)
  refine W.keep0 [(0, .slice a l.length c), (1, .int .u8 by_), (20, .slice a l.length c), (21, .int .i64 (l.length : Int)), (22, .int .i64 ((0 : Nat) : Int))] ⟨eS rfl, eI rfl, eS rfl, eI rfl, eI rfl, trivial⟩ fun s0 => ?_
  refine W.loop (23 :: 24 :: 25 :: 7 :: 27 :: 28 :: 29 :: 26 :: 30 :: 31 :: 8 :: 9 :: 32 :: 33 :: 34 :: 4 :: 5 :: 35 :: 22 :: []) (fun g s' _ => ∃ k : Nat, s' 22 = .int .i64 (k : Int) ∧ g = l.length - k ∧ k ≤ l.length ∧ ∀ j (h : j < l.length), j < k → slipB l[j] = true) l.length ⟨0, rfl, rfl, Nat.zero_le _, fun j _ h => absurd h (Nat.not_lt_zero _)⟩ ?_
  rintro _ sd V hSV ⟨k, h22, rfl, hk, hpre⟩
  refine W.fix h22 ?_
  clear h22
  by_cases hk1 : k < l.length
  · have hx := hs l[k] (List.getElem_mem hk1)
    (refine jjB ?_; refine jjC ?_; refine jjZ rfl rfl (by omega) ?_; refine jz ?_; refine jjB ?_; refine jjJ rfl ?_; refine jjG ?_; refine jjB ?_; refine jjD ?_; refine jjB ?_; refine jjC ?_; refine jF rfl rfl rfl (map_get (by omega)) ?_; intro _ _ _; refine jQ rfl rfl ?_)
    (apply jjR rfl; (intro _; first|exact eI rfl|exact eB rfl|exact eP rfl|exact eS rfl|exact eT rfl|exact eA rfl|exact eU rfl|exact eF rfl|exact eM rfl|exact eN rfl|exact rfl); exact rfl; exact rfl; exact rfl; exact rfl; intro b7 w_b7 hb_b7 hs_b7 hS_b7 hk_b7; have hA_b7 := Bk.of hk_b7)
    have hA7 : At w_b7 b7 0 (encSl l[k]).cells.toList := Bk.toAt (h := hA_b7)
    (refine jz ?_; refine jjB ?_; refine jjC ?_; refine jO rfl rfl rfl rfl ?_; refine jO rfl rfl rfl rfl ?_)
    refine jjQ (Order_slip _ l[k] l[k] hx hx) rfl rfl ?_
    rintro _ w8 hS8 rfl
    by_cases hr : slipB l[k] = true
    · rw [ordR_self, if_pos hr]
      (apply jI; exact eU rfl; refine ju rfl rfl ?_; refine ju rfl rfl ?_; apply jJ; exact eI rfl; apply jJ; exact eI rfl; refine jz ?_; refine jjB ?_; refine jjC ?_; apply jI; exact eI rfl; refine jjk rfl rfl (by omega) ?_; refine jz ?_; refine jjK rfl ?_; refine jjG ?_; refine jjC ?_; refine jY rfl rfl (by omega) ?_; apply jI; exact eI rfl; refine jz ?_)
      refine ⟨rfl, by ((refine Same.upd rfl ?_; refine Same.upd rfl ?_; refine Same.upd rfl ?_; refine Same.upd rfl ?_; refine Same.upd rfl ?_; refine Same.upd rfl ?_; refine Same.upd rfl ?_; refine Same.upd rfl ?_; refine Same.upd rfl ?_; refine Same.upd rfl ?_; refine Same.upd rfl ?_; refine Same.upd rfl ?_; refine Same.upd rfl ?_; refine Same.upd rfl ?_; refine Same.upd rfl ?_; refine Same.upd rfl ?_; refine Same.upd rfl ?_; exact Same.ovN)), l.length - (k + 1), by omega, inferInstance, k + 1, congrArg (Value.int .i64) (by omega), rfl, by omega, fun j h1 h2 => ?_⟩
      rcases Nat.lt_or_ge j k with c1 | c1
      · exact hpre j h1 c1
      · obtain rfl : j = k := by omega
        exact hr
    · rw [ordR_self, if_neg hr]
      (apply jI; exact eU rfl; refine ju rfl rfl ?_; refine ju rfl rfl ?_; apply jJ; exact eI rfl; apply jJ; exact eI rfl; refine jz ?_; refine jjB ?_; refine jjC ?_; apply jI; exact eI rfl; refine jjj rfl rfl (by omega) ?_; refine jz ?_; refine jjJ rfl ?_; refine jjB ?_; refine jjC ?_; apply jI; exact eI rfl; apply jJ; exact eS rfl; apply jJ; exact eI rfl; refine jz ?_; refine jjF ?_; refine jC rfl rfl rfl ⟨inferInstance, ?_⟩)
      have e : ranksR l by_ = ([], 31) := by
        rw [ranksR, if_neg h60, if_pos fun h => hr (List.all_eq_true.1 h _ (List.getElem_mem hk1))]
      unfold RanksR; rw [e]
      exact ⟨none, 0, rfl, OwnL.nil _ _ _ _ _⟩
  have hall : l.all slipB = true := List.all_eq_true.2 fun x hx => by
    obtain ⟨j, hj, rfl⟩ := List.mem_iff_getElem.1 hx
    exact hpre j hj (by omega)
  have hgd : ∀ x ∈ l, GdS x := fun x hx => ⟨List.all_eq_true.1 hall x hx, hs x hx⟩
  clear hpre hk
  (refine jjB ?_; refine jjC ?_; refine jja rfl rfl (by omega) ?_; refine jz ?_; refine jjB ?_; refine jjK rfl ?_; refine jjE ?_; refine jjB ?_; refine jjB ?_; refine jjC ?_; apply jI; exact eI rfl)
  refine Ops.convI rfl rfl (wrapi (by omega) (by omega)) ?_
  skip
  (refine jjP (v := .int _ _) rfl (by exact rfl) (by exact rfl) (by exact rfl) (by exact rfl) ?_; intro b38 w_b38 hb_b38 hs_b38 hS_b38 hk_b38; have hR_b38 := RowV.one (agg := false) (k := 1) rfl hk_b38)
  ((skip); refine jjQ (in_rack 1 4 _ [by_] _ hR_b38) rfl rfl ?_)
  rintro _ w3 hS3 rfl
  rw [all_one]
  by_cases hby : 1 ≤ by_ ∧ by_ ≤ 4
  rotate_left
  · have e : ranksR l by_ = ([], 2) := by rw [ranksR, if_neg h60, if_neg (by simp [hall]), if_pos hby]
    rw [show inB 1 4 by_ = false by rw [inB]; exact decide_eq_false hby]
    (refine jq rfl ?_; refine jz ?_; refine jjJ rfl ?_; refine jjB ?_; refine jjC ?_; apply jJ; exact eS rfl; apply jJ; exact eI rfl; refine jz ?_; refine jjF ?_; refine jC rfl rfl rfl ⟨inferInstance, ?_⟩)
    unfold RanksR; rw [e]
    exact ⟨none, 0, rfl, OwnL.nil _ _ _ _ _⟩
  rw [show inB 1 4 by_ = true by rw [inB]; exact decide_eq_true hby]
  have hE3 : Ext w w3 := inferInstance
  obtain ⟨q, j, rest, hj, hj5, he, hc, hAq⟩ := by_row w3 by_ hby hq1 (hgb.ext hE3)
  have hf := pre_by by_
  have e : ranksR l by_ = (l.map fun s => (rankF (cmpBy by_) l s : Int), 0) := ranksR_ok (by omega) hall hby
  unfold RanksR
  rw [e]
  clear e
  generalize cmpBy by_ = cf at *
  (refine jp rfl ?_; refine jz ?_; refine jjK rfl ?_; refine jjG ?_; refine jjB ?_; refine jjC ?_; apply jI; exact eI rfl)
  refine Ops.indexAP j rfl rfl hj (by simpa using hj5) ?_
  (refine jm ?_; refine jn rfl ?_; refine jP rfl rfl rfl ?_)
  (apply jjR rfl; (intro _; first|exact eI rfl|exact eB rfl|exact eP rfl|exact eS rfl|exact eT rfl|exact eA rfl|exact eU rfl|exact eF rfl|exact eM rfl|exact eN rfl|exact rfl); exact rfl; exact rfl; exact rfl; exact rfl; intro b10 w_b10 hb_b10 hs_b10 hS_b10 hk_b10; have hA_b10 := Bk.of hk_b10)
  have hA10 : At w_b10 b10 0 [.func (.func q) #[] #[]] := Bk.toAt (h := hA_b10)
  have hEb : Ext w w_b10 := inferInstance
  have hr10 : RowI w_b10 (.slice a l.length c) true 6 (l.map encSl) := inferInstance
  (refine jz ?_; refine jjB ?_; refine jjC ?_; apply jI; exact eS rfl)
  refine jjQ (Clone_Slip a c l _ (by omega)) rfl rfl ?_
  rintro _ w13 hS13 ⟨ca, cc, rfl, hO13⟩
  have hbl : b10 < w_b10.heap.size := hA10.lt
  (apply jJ; exact eS rfl; refine jz ?_; refine jjB ?_; refine jjC ?_; apply jI; exact eS rfl; refine jN rfl rfl rfl ?_)
  refine Ops.callR rfl (Enters.h (P := Tryz.prog) (g := 65)) rfl (SortAny q cf hf hc ca cc l hgd w13 hO13 hS13.size (by omega) fun V hV => (inferInstance : MxI w_b10).ext (hV _ hS13.ext (Nat.le_refl _))) ?_
  rintro e w14 ⟨⟨v14, rfl⟩, hx14, r, hp, hsr, hO14⟩
  refine ⟨_, rfl, ?_⟩
  have hE14 : Ext w_b10 w14 := hx14 _ hS13.ext (Nat.le_refl _)
  have hlr := hp.length_eq
  rw [← hlr] at hO14
  (refine jz ?_; refine jjB ?_; refine jjC ?_; apply jI; exact eS rfl; refine jv ?_)
  refine Ops.callR rfl (Enters.h (P := Tryz.prog) (g := 66)) (by rw [← hlr]; rfl) (CompactAny q cf hc b10 ca cc r (fun x hx => hgd x (hp.mem_iff.1 hx)) w14 (hA10.ext hE14) hbl hO14 hE14.size (by omega) fun V hV => (inferInstance : MxI w_b10).ext (hV _ hE14 (Nat.le_refl _))) ?_
  rintro e w15 ⟨rfl, hx15, hO15⟩
  refine ⟨_, rfl, ?_⟩
  have hE15 : Ext w_b10 w15 := hx15 _ hE14 (Nat.le_refl _)
  have hcp := cpt_facts hf hsr
  have hrk := fun s => rank_cpt hf (s := s) hp hsr
  have hgC : ∀ y ∈ cptL cf r, GdS y := fun y hy => hgd y (hp.mem_iff.1 (hcp.1 y hy))
  have hlC : (cptL cf r).length ≤ 1000000 := by
    have := cpt_len (f := cf) r
    omega
  have hpw := hcp.2.1
  generalize cptL cf r = C at *
  clear hx14 hx15 hsr hcp hp hO14 hO13
  have hE15' : Ext w w15 := hEb.trans hE15
  have hA15 : At w15 b10 0 [.func (.func q) #[] #[]] := hA10.ext hE15
  have hr15 : RowI w15 (.slice a l.length c) true 6 (l.map encSl) := ⟨hr10.h.ext hE15⟩
  have hrC : RowI w15 (.slice ca C.length cc) true 6 (C.map encSl) := ⟨hO15.row⟩
  have := hE15'.toStep
  (apply jJ; exact eS rfl; refine jz ?_; refine jjB ?_; refine jjC ?_; apply jJ; exact eS rfl; refine jz ?_; refine jjB ?_; refine jjB ?_; refine jjC ?_; apply jI; exact eS rfl; refine jh rfl ?_; apply jI; exact eI rfl; refine jz ?_; refine jjD ?_)
  refine W.keep0 [(10, .pointer (some ⟨b10, 0, none⟩)), (11, .slice ca C.length cc), (12, .slice none 0 0), (53, .slice a l.length c), (54, .int .i64 (l.length : Int)), (55, .int .i64 ((0 : Nat) : Int))] ⟨eP rfl, eS rfl, eS rfl, eS rfl, eI rfl, eI rfl, trivial⟩ fun s1 => ?_
  refine W.loopG (56 :: 57 :: 58 :: 14 :: 60 :: 61 :: 62 :: 63 :: 59 :: 64 :: 65 :: 15 :: 16 :: 66 :: 67 :: 68 :: 69 :: 12 :: 70 :: 55 :: []) (fun g s' V => ∃ (k : Nat) (dv : Value), s' 55 = .int .i64 (k : Int) ∧ s' 12 = dv ∧ g = l.length - k ∧ k ≤ l.length ∧ Ext w15 V ∧ OwnL V w15.heap.size 3 false 1 dv (((l.take k).map fun s => (rankF cf l s : Int)).map intV)) l.length ⟨0, _, rfl, rfl, rfl, Nat.zero_le _, Ext.refl _, OwnL.nil _ _ _ _ _⟩ ?_
  rintro _ sd2 V2 ⟨k, dv, h55, h12, rfl, hk, hEV, hO⟩
  refine W.fix h55 (W.fix (d := 12) h12 ?_)
  clear h55 h12
  obtain ⟨da, dc, rfl⟩ := hO.slice
  have hdl : (((l.take k).map fun s => (rankF cf l s : Int)).map intV).length = k := by simp; omega
  rw [hdl] at hO ⊢
  have := hEV.toStep
  by_cases hk1 : k < l.length
  rotate_left
  · obtain rfl : k = l.length := by omega
    rw [List.take_length] at hO
    (refine jjB ?_; refine jjC ?_; refine jja rfl rfl (by omega) ?_; refine jz ?_; refine jjB ?_; refine jjK rfl ?_; refine jjE ?_; refine jjB ?_; refine jjC ?_; apply jI; exact eS rfl; apply jJ; exact eS rfl; apply jJ; exact eI rfl; refine jz ?_; refine jjF ?_; refine jC rfl rfl rfl ⟨inferInstance, ?_⟩)
    exact ⟨da, dc, by rw [List.length_map]; rfl, by rw [List.length_map]; exact hO.mono hE15'.size⟩
  have hgk := List.getElem?_eq_getElem hk1
  have hgx := hgd l[k] (List.getElem_mem hk1)
  (refine jjB ?_; refine jjC ?_; refine jjZ rfl rfl (by omega) ?_; refine jz ?_; refine jjB ?_; refine jjJ rfl ?_; refine jjG ?_; refine jjB ?_; refine jjD ?_; refine jjB ?_; refine jjC ?_; refine jF rfl rfl rfl (map_get (by omega)) ?_; intro _ _ _; refine jQ rfl rfl ?_)
  (apply jjR rfl; (intro _; first|exact eI rfl|exact eB rfl|exact eP rfl|exact eS rfl|exact eT rfl|exact eA rfl|exact eU rfl|exact eF rfl|exact eM rfl|exact eN rfl|exact rfl); exact rfl; exact rfl; exact rfl; exact rfl; intro b14 w_b14 hb_b14 hs_b14 hS_b14 hk_b14; have hA_b14 := Bk.of hk_b14)
  have hA14 : At w_b14 b14 0 (encSl l[k]).cells.toList := Bk.toAt (h := hA_b14)
  have hEb14 : Ext w15 w_b14 := inferInstance
  have hrC14 : RowI w_b14 (.slice ca C.length cc) true 6 (C.map encSl) := inferInstance
  (refine jz ?_; refine jjB ?_; refine jjC ?_; apply jI; exact eS rfl; refine jO rfl rfl rfl rfl ?_; refine jN rfl rfl rfl ?_)
  refine jjQ (Search_slip q cf hf hc ca cc C l[k] hgC hgx w_b14 hlC hpw) rfl rfl ?_
  rintro _ w17 hS17 ⟨bb, rfl⟩
  rw [← hrk l[k]]
  (apply jI; exact eU rfl; refine ju rfl rfl ?_; refine ju rfl rfl ?_; apply jJ; exact eI rfl; apply jJ; exact eB rfl; refine jz ?_; refine jjC ?_; apply jI; exact eS rfl; apply jI; exact eI rfl)
  (refine jjP (v := .int _ _) rfl (by exact rfl) (by exact rfl) (by exact rfl) (by exact rfl) ?_; intro b68 w_b68 hb_b68 hs_b68 hS_b68 hk_b68; have hR_b68 := RowV.one (agg := false) (k := 1) rfl hk_b68)
  have hE68 : Ext V2 w_b68 := inferInstance
  refine Ops.appendL (hO.ext hE68) (by have := hE68.size; have := hEV.size; omega) hR_b68 rfl rfl rfl rfl rfl ?_ ?_ ?_
  · rw [hdl]; simp only [List.length_cons, List.length_nil]; omega
  · rw [hdl]; simp only [List.length_cons, List.length_nil]; omega
  intro v69 w69 hA69 hO69 _ _
  have hE69 : Ext w15 w69 := hA69.ext (hEV.trans hE68) (Nat.le_refl _)
  (apply jJ; exact rfl; refine jz ?_; refine jjC ?_; refine jY rfl rfl (by omega) ?_; apply jI; exact eI rfl; refine jz ?_)
  refine ⟨rfl, by ((refine Same.upd rfl ?_; refine Same.upd rfl ?_; refine Same.upd rfl ?_; refine Same.upd rfl ?_; refine Same.upd rfl ?_; refine Same.upd rfl ?_; refine Same.upd rfl ?_; refine Same.upd rfl ?_; refine Same.upd rfl ?_; refine Same.upd rfl ?_; refine Same.upd rfl ?_; refine Same.upd rfl ?_; refine Same.upd rfl ?_; refine Same.upd rfl ?_; refine Same.upd rfl ?_; refine Same.upd rfl ?_; refine Same.upd rfl ?_; refine Same.upd rfl ?_; refine Same.upd rfl ?_; refine Same.upd rfl ?_; refine Same.upd rfl ?_; refine Same.upd rfl ?_; exact Same.ovN)), l.length - (k + 1), by omega, k + 1, _, congrArg (Value.int .i64) (by omega), rfl, rfl, by omega, hE69, ?_⟩
  rw [take_snoc_get hgk, List.map_append, List.map_append]
  exact hO69
end
end Go.Proofs.YtpijeomnplmakaaGreatDoor

/- rack: passes, Runs, Passes, Proof. -/
namespace Go.Proofs.YtpijeomnplmakaaGreatDoor
open Go.RowKit

set_option maxHeartbeats 1000000 in
theorem passes_rack (bb : Nat) (v0 v1 : Value) (ae : Option Addr) (ce m b : Nat) (w : World) (hm : m ≤ 60) (hb : 2 ≤ b ∧ b ≤ 20) [hA : At w bb 0 [v0, .slice ae m ce, v1, .int .i64 (b : Int)]] :
    Ct Tryz.prog 54 [.pointer (some ⟨bb, 0, none⟩)] w fun v _ => ∃ p : Nat, PassR b m p ∧ v = .tuple #[.int .i64 ((p : Nat) : Int), .int .i64 (((if p = 0 then 0 else b ^ (p - 1) : Nat)) : Int)] := by
  refine Ct.ofW (by simp) ?_
  (refine jjB ?_; refine jjC ?_; apply jJ; exact eI rfl; apply jJ; exact eI rfl; refine jz ?_; refine jjB ?_; refine jjB ?_; refine jjC ?_; apply jJ; exact eI rfl; refine jz ?_; refine jjD ?_)
  refine W.loop (5 :: 6 :: 7 :: 8 :: 9 :: 10 :: 11 :: 12 :: 19 :: 20 :: 21 :: 2 :: 3 :: 13 :: 14 :: 15 :: 16 :: 17 :: 18 :: 4 :: []) (fun g s' _ => ∃ p : Nat, s' 2 = .int .i64 ((p : Nat) : Int) ∧ s' 3 = .int .i64 (((if p = 0 then 0 else b ^ (p - 1) : Nat)) : Int) ∧ s' 4 = .int .i64 ((b ^ p : Nat) : Int) ∧ g = 61 - p ∧ ∀ q, q < p → b ^ q ≤ m) 61 ⟨0, rfl, rfl, by simp only [Nat.pow_zero]; exact rfl, rfl, by omega⟩ ?_
  rintro _ sd w1 hS1 ⟨p, h2, h3, h4, rfl, hpre⟩
  refine W.fix h2 (W.fix (d := 3) h3 (W.fix (d := 4) h4 ?_))
  clear h2 h3 h4
  have hp60 := p_le_60 hb.1 hm hpre
  have hpw := pow_le_60 hb.2 hm hpre
  obtain ⟨P, hP⟩ : ∃ P, P = b ^ p := ⟨_, rfl⟩
  rw [← hP] at hpw
  rw [← hP]
  repeat' (first|((first|apply jI|apply jJ); (first|exact eI rfl|exact eP rfl))|(refine jM ?_; refine jN rfl rfl rfl ?_)|(refine jW ?_; (first|refine jY rfl rfl (by omega) ?_|refine jd rfl rfl ?_))|(refine jg ?_; refine jh rfl ?_)|(refine jm ?_; refine jn rfl ?_)|refine jw rfl ?_|refine jz ?_|(refine jjA ?_; (first|refine jjB ?_|refine jjC ?_|refine jjD ?_|refine jjE ?_|refine jjF ?_|refine jjG ?_))|(refine jjA ?_; (refine jjN rfl ?_ ?_ <;> intro _))|refine jC rfl rfl rfl ⟨inferInstance, ?_⟩)
  · have hle : P ≤ m := by omega
    have hmul : P * b ≤ 1200 * 20 := Nat.mul_le_mul hpw hb.2
    have hmul' : (P : Int) * (b : Int) = ((P * b : Nat) : Int) := by push_cast; rfl
    refine Ops.mul rfl rfl (by rw [hmul']; omega) ?_
    rw [hmul']
    (apply jJ; exact eI rfl; refine jz ?_)
    refine ⟨rfl, by ((refine Same.upd rfl ?_; refine Same.upd rfl ?_; refine Same.upd rfl ?_; refine Same.upd rfl ?_; refine Same.upd rfl ?_; refine Same.upd rfl ?_; refine Same.upd rfl ?_; refine Same.upd rfl ?_; refine Same.upd rfl ?_; refine Same.upd rfl ?_; refine Same.upd rfl ?_; refine Same.upd rfl ?_; refine Same.upd rfl ?_; refine Same.upd rfl ?_; refine Same.upd rfl ?_; refine Same.upd rfl ?_; refine Same.upd rfl ?_; refine Same.upd rfl ?_; refine Same.upd rfl ?_; refine Same.upd rfl ?_; refine Same.upd rfl ?_; refine Same.upd rfl ?_; refine Same.upd rfl ?_; exact Same.ovN)), 61 - (p + 1), by omega, inferInstance, p + 1, congrArg (Value.int .i64) (by omega), ?_, ?_, rfl, ?_⟩
    · rw [if_neg (Nat.succ_ne_zero p), Nat.add_sub_cancel, ← hP]; exact rfl
    · rw [Nat.pow_succ, ← hP]; exact rfl
    · intro q hq
      by_cases e : q = p
      · subst e; omega
      · exact hpre q (by omega)
  · exact ⟨p, ⟨by omega, hpre⟩, rfl⟩

theorem opE_boxes {d : List Int} {boxes : Int} (he : opE d boxes = 0) : 2 ≤ boxes ∧ boxes ≤ 20 := by
  simp only [opE] at he
  split at he
  · split at he
    · rename_i h; simpa [inB] using h
    · omega
  · omega
theorem opE_len {d : List Int} {boxes : Int} (he : opE d boxes = 0) : d.length ≤ 60 := by
  simp only [opE] at he
  split at he
  · exact deckB_len ‹_›
  · omega

section
variable (a : Option Addr) (c : Nat) (d : List Int) (boxes : Int) (w : World) (hl : d.length ≤ 1000000) [hrow : RowI w (.slice a d.length c) false 1 (d.map intV)]
include hl
/-- What Runs answers. -/
def RunsR (d : List Int) (v : Value) (w' : World) : Prop := ∃ a c, v = .tuple #[.slice a (if opE d 2 = 0 then numF d else []).length c, .int .i64 (opE d 2)] ∧ RowV w' false 1 (.slice a (if opE d 2 = 0 then numF d else []).length c) ((if opE d 2 = 0 then numF d else []).map intV)
theorem Runs_rack : Ct Tryz.prog 32 [.slice a d.length c] w fun v w' => RunsR d v w' := by
  refine Ct.ofW (by simp) ?_
  (refine jjB ?_; refine jjC ?_; apply jJ; exact eS rfl; apply jJ; exact eI rfl; refine jz ?_; refine jjB ?_; refine jjC ?_; apply jI; exact eS rfl)
  refine jjQ (open_rack a c d 2 _ hl) rfl rfl ?_
  rintro _ w2 hS2 (⟨he, rfl⟩ | ⟨he, bb, bn, ae, ce, rfl, _, _, hA, hN, hE⟩)
  · (apply jI; exact eU rfl; refine ju rfl rfl ?_; refine ju rfl rfl ?_; apply jJ; exact eN rfl; apply jJ; exact eI rfl; refine jz ?_; refine jjB ?_; refine jjB ?_; refine jjC ?_; apply jI; exact eI rfl; refine jjj rfl rfl (by omega) ?_; refine jz ?_; refine jjJ rfl ?_; refine jjB ?_; refine jjC ?_; apply jI; exact eI rfl; apply jJ; exact eS rfl; apply jJ; exact eI rfl; refine jz ?_; refine jjF ?_; refine jC rfl rfl rfl ⟨inferInstance, ?_⟩)
    refine ⟨none, 0, ?_, ?_⟩
    · rw [if_neg he]; exact rfl
    · rw [if_neg he]; exact RowV.nilS _ _ _ _ _
  · (apply jI; exact eU rfl; refine ju rfl rfl ?_; refine ju rfl rfl ?_; apply jJ; exact eP rfl; apply jJ; exact eI rfl; refine jz ?_; refine jjB ?_; refine jjB ?_; refine jjC ?_; apply jI; exact eI rfl; refine jjk rfl rfl (by omega) ?_; refine jz ?_; refine jjK rfl ?_; refine jjG ?_; refine jjB ?_; refine jjC ?_; apply jI; exact eP rfl; refine jw rfl ?_; refine jm ?_; refine jn rfl ?_; refine jm ?_; refine jn rfl ?_; refine jN rfl rfl rfl ?_; apply jJ; exact eS rfl; apply jJ; exact eI rfl; refine jz ?_; refine jjF ?_; refine jC rfl rfl rfl ⟨inferInstance, ?_⟩)
    refine ⟨some ⟨bn, 0, none⟩, d.length, ?_, ?_⟩
    · rw [if_pos he, he, numF_len]; exact rfl
    · rw [if_pos he, numF_len]; exact hN

theorem Passes_rack : Ct Tryz.prog 14 [.slice a d.length c, .int .i64 boxes] w fun v _ => ∃ p : Nat, (if opE d boxes = 0 then PassR boxes.toNat (endF d).length p else p = 0) ∧ v = .tuple #[.int .i64 (p : Int), .int .i64 (opE d boxes)] := by
  refine Ct.ofW (by simp) ?_
  (refine jjB ?_; refine jjC ?_; apply jJ; exact eI rfl; apply jJ; exact eI rfl; refine jz ?_; refine jjB ?_; refine jjC ?_; apply jI; exact eS rfl; apply jI; exact eI rfl)
  refine jjQ (open_rack a c d boxes _ hl) rfl rfl ?_
  rintro _ w2 hS2 (⟨he, rfl⟩ | ⟨he, bb, bn, ae, ce, rfl, _, _, hA, hN, hE⟩)
  · (apply jI; exact eU rfl; refine ju rfl rfl ?_; refine ju rfl rfl ?_; apply jJ; exact eN rfl; apply jJ; exact eI rfl; refine jz ?_; refine jjB ?_; refine jjB ?_; refine jjC ?_; apply jI; exact eI rfl; refine jjj rfl rfl (by omega) ?_; refine jz ?_; refine jjJ rfl ?_; refine jjB ?_; refine jjC ?_; apply jI; exact eI rfl; apply jJ; exact eI rfl; apply jJ; exact eI rfl; refine jz ?_; refine jjF ?_; refine jC rfl rfl rfl ⟨inferInstance, ?_⟩)
    exact ⟨0, by rw [if_neg he], rfl⟩
  · have hb := opE_boxes he
    have hdl := opE_len he
    have hel := endF_len d
    obtain ⟨b, rfl⟩ : ∃ b : Nat, boxes = b := ⟨boxes.toNat, by omega⟩
    (apply jI; exact eU rfl; refine ju rfl rfl ?_; refine ju rfl rfl ?_; apply jJ; exact eP rfl; apply jJ; exact eI rfl; refine jz ?_; refine jjB ?_; refine jjB ?_; refine jjC ?_; apply jI; exact eI rfl; refine jjk rfl rfl (by omega) ?_; refine jz ?_; refine jjK rfl ?_; refine jjG ?_; refine jjB ?_; refine jjC ?_; apply jI; exact eP rfl)
    refine jjQ (passes_rack bb _ _ ae ce (endF d).length b _ (by omega) (by omega)) rfl rfl ?_
    rintro _ w3 hS3 ⟨p, hp, rfl⟩
    (apply jI; exact eU rfl; refine ju rfl rfl ?_; refine ju rfl rfl ?_; apply jJ; exact eI rfl; apply jJ; exact eI rfl; refine jz ?_; refine jjB ?_; refine jjC ?_; apply jI; exact eI rfl; apply jJ; exact eI rfl; apply jJ; exact eI rfl; refine jz ?_; refine jjF ?_; refine jC rfl rfl rfl ⟨inferInstance, ?_⟩)
    exact ⟨p, by rw [if_pos he]; exact hp, by rw [he]; exact rfl⟩

/-- What Proof answers. -/
def ProofR (d : List Int) (boxes : Int) (v : Value) (w' : World) : Prop := ∃ (l : List (Int × Int)) (e : Int) (a : Option Addr) (c : Nat), v = .tuple #[.slice a l.length c, .int .i64 e] ∧ RowV w' true 2 (.slice a l.length c) (l.map encII) ∧
  ((opE d boxes ≠ 0 ∧ l = [] ∧ e = opE d boxes) ∨ (opE d boxes = 0 ∧ PassR boxes.toNat (endF d).length 0 ∧ l = [] ∧ e = 6) ∨ (opE d boxes = 0 ∧ ∃ p, PassR boxes.toNat (endF d).length (p + 1) ∧ l = (endF d).take (boxes.toNat ^ p) ∧ e = 0))
theorem Proof_rack : Ct Tryz.prog 17 [.slice a d.length c, .int .i64 boxes] w fun v w' => ProofR d boxes v w' := by
  refine Ct.ofW (by simp) ?_
  (refine jjB ?_; refine jjC ?_; apply jJ; exact eS rfl; apply jJ; exact eI rfl; refine jz ?_; refine jjB ?_; refine jjC ?_; apply jI; exact eS rfl; apply jI; exact eI rfl)
  refine jjQ (open_rack a c d boxes _ hl) rfl rfl ?_
  rintro _ w2 hS2 (⟨he, rfl⟩ | ⟨he, bb, bn, ae, ce, rfl, _, _, hA, hN, hE⟩)
  · (apply jI; exact eU rfl; refine ju rfl rfl ?_; refine ju rfl rfl ?_; apply jJ; exact eN rfl; apply jJ; exact eI rfl; refine jz ?_; refine jjB ?_; refine jjB ?_; refine jjC ?_; apply jI; exact eI rfl; refine jjj rfl rfl (by omega) ?_; refine jz ?_; refine jjJ rfl ?_; refine jjB ?_; refine jjC ?_; apply jI; exact eI rfl; apply jJ; exact eS rfl; apply jJ; exact eI rfl; refine jz ?_; refine jjF ?_; refine jC rfl rfl rfl ⟨inferInstance, ?_⟩)
    exact ⟨[], _, none, 0, rfl, RowV.nilS _ _ _ _ _, .inl ⟨he, rfl, rfl⟩⟩
  · have hb := opE_boxes he
    have hdl := opE_len he
    have hel := endF_len d
    obtain ⟨b, rfl⟩ : ∃ b : Nat, boxes = b := ⟨boxes.toNat, by omega⟩
    (apply jI; exact eU rfl; refine ju rfl rfl ?_; refine ju rfl rfl ?_; apply jJ; exact eP rfl; apply jJ; exact eI rfl; refine jz ?_; refine jjB ?_; refine jjB ?_; refine jjC ?_; apply jI; exact eI rfl; refine jjk rfl rfl (by omega) ?_; refine jz ?_; refine jjK rfl ?_; refine jjG ?_; refine jjB ?_; refine jjC ?_; apply jI; exact eP rfl)
    refine jjQ (passes_rack bb _ _ ae ce (endF d).length b _ (by omega) (by omega)) rfl rfl ?_
    rintro _ w3 hS3 ⟨p, hp, rfl⟩
    cases p with
    | zero =>
      (apply jI; exact eU rfl; refine ju rfl rfl ?_; refine ju rfl rfl ?_; apply jJ; exact eI rfl; apply jJ; exact eI rfl; refine jz ?_; refine jjB ?_; refine jjB ?_; refine jjC ?_; apply jI; exact eI rfl; refine jjh rfl rfl (by omega) ?_; refine jz ?_; refine jjJ rfl ?_; refine jjB ?_; refine jjC ?_; apply jJ; exact eS rfl; apply jJ; exact eI rfl; refine jz ?_; refine jjF ?_; refine jC rfl rfl rfl ⟨inferInstance, ?_⟩)
      exact ⟨[], _, none, 0, rfl, RowV.nilS _ _ _ _ _, .inr (.inl ⟨he, hp, rfl, rfl⟩)⟩
    | succ p =>
      have hpl := hp.2 p (by omega)
      (apply jI; exact eU rfl; refine ju rfl rfl ?_; refine ju rfl rfl ?_; apply jJ; exact eI rfl; apply jJ; exact eI rfl; refine jz ?_; refine jjB ?_; refine jjB ?_; refine jjC ?_; apply jI; exact eI rfl; refine jji rfl rfl (by omega) ?_; refine jz ?_; refine jjK rfl ?_; refine jjG ?_; refine jjB ?_; refine jjC ?_; apply jI; exact eP rfl; refine jw rfl ?_; refine jm ?_; refine jn rfl ?_; refine jm ?_; refine jn rfl ?_; refine jN rfl rfl rfl ?_; apply jI; exact eI rfl)
      rw [if_neg (Nat.succ_ne_zero p), Nat.add_sub_cancel]
      have hE3 : RowV w3 true 2 (.slice ae (endF d).length ce) ((endF d).map encII) := hE.ext hS3.ext
      refine Ops.sliceH (hi := b ^ p) hE3 rfl rfl rfl (by rw [List.length_map]; omega) ?_
      rintro _ hR ⟨a', c', rfl⟩
      (apply jJ; exact eS rfl; apply jJ; exact eI rfl; refine jz ?_; refine jjF ?_; refine jC rfl rfl rfl ⟨inferInstance, ?_⟩)
      have hlen : ((endF d).take (b ^ p)).length = b ^ p := by rw [List.length_take]; omega
      refine ⟨(endF d).take (b ^ p), 0, a', c', ?_, ?_, .inr (.inr ⟨he, p, hp, rfl, rfl⟩)⟩
      · rw [hlen]; exact rfl
      · rw [hlen, List.map_take]; exact hR
end
end Go.Proofs.YtpijeomnplmakaaGreatDoor

/- The references: lists of numbers that are the same. -/
namespace Go.Proofs.YtpijeomnplmakaaGreatDoor
open Go.RowKit

theorem RowV.place {w : World} {agg : Bool} {k l c j : Nat} {a : Option Addr} {xs : List Value} {x : Value} (h : RowV w agg k (.slice a l c) xs) (hj : xs[j]? = some x) : ∃ b o, a = some ⟨b, o, none⟩ ∧ At w b (o + j * k) x.cells.toList := by
  rcases h.at_ with ⟨rfl, _⟩ | ⟨b, o, c', hv, hl, hc⟩
  · simp at hj
  · simp only [Value.slice.injEq] at hv
    exact ⟨b, o, hv.1, hc j x hj⟩
theorem list_ne_len {α : Type} {xs ys : List α} (h : xs.length ≠ ys.length) : xs ≠ ys := fun e => h (by rw [e])
theorem list_ne_get {α : Type} {xs ys : List α} {k : Nat} (hk : k < xs.length) (hk' : k < ys.length) (h : xs[k] ≠ ys[k]) : xs ≠ ys := fun e => by subst e; exact h rfl
theorem list_eq_get {α : Type} {xs ys : List α} (hl : xs.length = ys.length) (h : ∀ k (h1 : k < xs.length) (h2 : k < ys.length), xs[k] = ys[k]) : xs = ys := List.ext_getElem hl h

theorem SameInts_ref (a1 a2 : Option Addr) (c1 c2 : Nat) (xs ys : List Int) (w : World) [h1 : RowI w (.slice a1 xs.length c1) false 1 (xs.map intV)] [h2 : RowI w (.slice a2 ys.length c2) false 1 (ys.map intV)] :
    Ct Tryz.prog 34 [.slice a1 xs.length c1, .slice a2 ys.length c2] w fun v _ => v = .bool (decide (xs = ys)) := by
  have hl1 := h1.h.len
  simp only [List.length_map] at hl1
  refine Ct.ofW (by simp) ?_
  repeat' (first|((first|apply jI|apply jJ); (first|exact eI rfl|exact eB rfl|exact eS rfl))|(refine jW ?_; refine jc rfl rfl ?_)|(refine jg ?_; refine jh rfl ?_)|refine jz ?_|(refine jjA ?_; (first|refine jjB ?_|refine jjC ?_|refine jjD ?_|refine jjF ?_|refine jjG ?_))|(refine jjA ?_; (refine jjN rfl ?_ ?_ <;> intro _))|refine jB rfl rfl ⟨inferInstance, ?_⟩)
  · exact congrArg Value.bool (decide_eq_false (list_ne_len (by omega))).symm
  · refine W.loop (11 :: 12 :: 13 :: 14 :: 17 :: 18 :: 19 :: 20 :: 21 :: 22 :: 23 :: 24 :: 25 :: 4 :: 15 :: 16 :: 5 :: []) (fun g s' _ => ∃ k : Nat, s' 5 = .int .i64 k ∧ g = xs.length - k ∧ k ≤ xs.length ∧ ∀ (j : Nat) (q1 : j < xs.length) (q2 : j < ys.length), j < k → xs[j] = ys[j]) xs.length ⟨0, rfl, rfl, by omega, by intros; omega⟩ ?_
    rintro _ d w' hS ⟨k, h5, rfl, hk, hpre⟩
    refine W.fix h5 ?_
    repeat' (first|((first|apply jI|apply jJ); (first|exact eI rfl|exact eB rfl|exact eS rfl))|(refine jW ?_; refine jX rfl rfl ?_)|(refine jg ?_; refine jh rfl ?_)|refine jz ?_|(refine jjA ?_; (first|refine jjB ?_|refine jjC ?_|refine jjD ?_|refine jjE ?_|refine jjF ?_|refine jjG ?_))|(refine jjA ?_; (refine jjN rfl ?_ ?_ <;> intro _))|refine jB rfl rfl ⟨inferInstance, ?_⟩)
    · have k1 : k < xs.length := by omega
      have k2 : k < ys.length := by omega
      refine W.draw (fun w'' => Ext w' w'') ?_
      intro V1 hS1
      obtain ⟨q1, o1, rfl, hA1⟩ := (h1.h.ext hS.ext).place (map_get k1)
      obtain ⟨q2, o2, rfl, hA2⟩ := (h2.h.ext hS.ext).place (map_get k2)
      rw [Nat.mul_one] at hA1 hA2
      refine jjV [0, 1, 2, 3, 4, 5, 6, 7, 8] (by decide +kernel) hS1.ext ?_
      (((apply jjT; exact rfl; rintro w' hq; have := hq.toStep; apply jI; exact eS rfl; refine jz ?_; exact ⟨rfl, rfl⟩; apply jjT; exact rfl; rintro w' hq; have := hq.toStep; apply jI; exact eI rfl; refine jz ?_; exact ⟨rfl, rfl⟩; apply jjT; exact rfl; rintro w' hq; have := hq.toStep; refine jG rfl rfl rfl (by omega) ?_; refine jz ?_; exact ⟨rfl, rfl⟩; apply jjT; exact rfl; rintro w' hq; have := hq.toStep; refine jQ rfl rfl ?_; refine jz ?_; exact ⟨rfl, rfl⟩; apply jjT; exact rfl; rintro w' hq; have := hq.toStep; apply jI; exact eS rfl; refine jz ?_; exact ⟨rfl, rfl⟩; apply jjT; exact rfl; rintro w' hq; have := hq.toStep; apply jI; exact eI rfl; refine jz ?_; exact ⟨rfl, rfl⟩; apply jjT; exact rfl; rintro w' hq; have := hq.toStep; refine jG rfl rfl rfl (by omega) ?_; refine jz ?_; exact ⟨rfl, rfl⟩; apply jjT; exact rfl; rintro w' hq; have := hq.toStep; refine jQ rfl rfl ?_; refine jz ?_; exact ⟨rfl, rfl⟩; apply jjT; exact rfl; rintro w' hq; have := hq.toStep; refine jc rfl rfl ?_; refine jz ?_; exact ⟨rfl, rfl⟩; refine jjU ?_)))
      refine jjX (by decide +kernel) hS1.ext ?_
      repeat' (first|((first|apply jI|apply jJ); (first|exact eI rfl|exact eB rfl))|(refine jW ?_; refine jY rfl rfl (by omega) ?_)|refine jz ?_|(refine jjA ?_; (first|refine jjB ?_|refine jjC ?_|refine jjF ?_|refine jjG ?_))|(refine jjA ?_; (refine jjN rfl ?_ ?_ <;> intro _))|refine jB rfl rfl ⟨inferInstance, ?_⟩)
      · exact congrArg Value.bool (decide_eq_false (list_ne_get k1 k2 ‹_›)).symm
      · refine ⟨rfl, by ((refine Same.upd rfl ?_; refine Same.upd rfl ?_; refine Same.upd rfl ?_; refine Same.upd rfl ?_; refine Same.upd rfl ?_; refine Same.upd rfl ?_; refine Same.upd rfl ?_; refine Same.upd rfl ?_; refine Same.upd rfl ?_; refine Same.upd rfl ?_; refine Same.upd rfl ?_; refine Same.upd rfl ?_; refine Same.upd rfl ?_; refine Same.upd rfl ?_; refine Same.upd rfl ?_; refine Same.upd rfl ?_; refine Same.upd rfl ?_; exact Same.ovN)), xs.length - (k + 1), by omega, inferInstance, k + 1, congrArg (Value.int .i64) (by omega), rfl, by omega, fun j q1 q2 hj => ?_⟩
        by_cases e : j = k
        · subst e; exact Decidable.not_not.1 ‹_›
        · exact hpre j q1 q2 (by omega)
    · exact congrArg Value.bool (decide_eq_true (list_eq_get (by omega) fun j q1 q2 => hpre j q1 q2 (by omega))).symm

end Go.Proofs.YtpijeomnplmakaaGreatDoor

/- The reference of rack: Deck, Great, twin. -/
namespace Go.Proofs.YtpijeomnplmakaaGreatDoor
open Go.RowKit

theorem deckB_of {d : List Int} (h : ∀ (j : Nat) (hj : j < d.length), inB 0 999 d[j] = true) : deckB d = decide ((d.length : Int) ≤ 60) := by
  have h1 : d.all (inB 0 999) = true := by
    rw [List.all_eq_true]
    intro x hx
    obtain ⟨i, hi, rfl⟩ := List.mem_iff_getElem.1 hx
    exact h i hi
  rw [deckB, h1, Bool.and_true, decide_eq_decide]; omega
theorem deckB_no {d : List Int} {k : Nat} (hk : k < d.length) (h : inB 0 999 d[k] = false) : deckB d = false := by
  have h1 : d.all (inB 0 999) = false := by rw [List.all_eq_false]; exact ⟨d[k], List.getElem_mem hk, by rw [h]; simp⟩
  simp [deckB, h1]

section
variable (a : Option Addr) (c : Nat) (d : List Int) (w : World) [hrow : RowI w (.slice a d.length c) false 1 (d.map intV)]
end

end Go.Proofs.YtpijeomnplmakaaGreatDoor

/- The proof engine, part 28: literals of slices of however many elements. -/
namespace Go.Proofs.YtpijeomnplmakaaGreatDoor
open Go.RowKit

/-- Zero cells of so many elements. -/
def zeroL (z : Value) (m : Nat) : List Value := (List.range m).map fun i => z.cells[i % z.cells.size]!
section rules
variable {P : Program} {ro : Option Nat} {n : Nat} {all rest : List Oper} {K : Sl → World → Prop} {s : Sl} {w : World} {d : Nat} {ty : Nat} {pos : String} {af : Array Edge} {t e : Nat}
theorem Ops.buildSliceF {len size bytes : Nat} {z : Value} {parts : Array (Nat × Operand)} {cells : List Value} [ht : TSl P t e] [hz : TS P e z size bytes] (h0 : Nat.blt 0 (len * size) = true) (h1 : Nat.blt (len * size) 10000 = true)
    (hf : fillL (fun i => some (i * size, size)) (zeroL z (len * size)) (parts.toList.map fun (i, x) => (i, ev n s x)) = some cells)
    (h : ∀ b w', b = w.heap.size → w'.heap.size = w.heap.size + 1 → Step w w' → Bk w' b cells e → Ops P ro n all rest K (upd s d (.slice (some ⟨b, 0, none⟩) len len)) w') :
    Ops P ro n all (⟨some d, .buildSlice t len parts, ty, pos, af, none⟩ :: rest) K s w := by
  have h0' : 0 < len * size := by simpa using h0
  have h1' : len * size < 10000 := by simpa using h1
  have hf2 := fillL_eq _ _ _ _ hf
  have e1 : (zeroL z (len * size)).toArray = (Array.range (len * size)).map (z.cells[· % z.cells.size]!) := by
    apply Array.ext'
    simp [zeroL]
  rw [e1] at hf2
  have e2 : (parts.map fun (p : Nat × Operand) => (p.1, ev n s p.2)).toList = parts.toList.map fun (i, x) => (i, ev n s x) := by simp
  refine Ops.ofRun (w' := w.alloc (.cells cells.toArray e)) rfl ?_ (h w.heap.size _ rfl (by simp) ⟨(Below.refl _ w).alloc (Nat.le_refl _) _⟩ (Bk.of (World.alloc_heap_new w _)))
  have hne : ¬ len * size = 0 := by omega
  have hbig : ¬ (16777216 < len * size) := by omega
  simp only [execOp, Instr.buildSlice, Sem.run_bind, run_underlying ht.h, run_sizeOf' w hz, Result.andThen_ok]
  simp [hbig, run_zeroValue' w hz, newRow]
  have hf3 : Instr.fill (fun i => some (i * size, size)) (Array.map (fun x => z.cells[x % z.cells.size]!) (Array.range (len * size))) (parts.toList.map fun p => (p.1, ev n s p.2)) = some cells.toArray := hf2
  simp [hf3]
  intro hc; exact absurd hc hne
end rules
/-- What such a literal reads as. -/
theorem Bk.rows {w : World} {b e k : Nat} {agg : Bool} {xs : List Value} (h : Bk w b (xs.flatMap (·.cells.toList)) e) (hf : ∀ x ∈ xs, fitsV agg k x = true) (hl : xs.length ≤ 140737488355328) : RowV w agg k (.slice (some ⟨b, 0, none⟩) xs.length xs.length) xs := by
  refine ⟨hl, hf, .inr ⟨b, 0, xs.length, rfl, Nat.le_refl _, fun j x hx => ⟨fun i v hv => ?_⟩⟩⟩
  have := flat_get (k := k) (xs := xs) (fun y hy => fitsV_cells (hf y hy)) hx hv
  have hc := (Bk.toAt (h := h)).h _ _ this
  rw [show 0 + j * k + i = 0 + (j * k + i) by omega]; exact hc
end Go.Proofs.YtpijeomnplmakaaGreatDoor

/- Helpers of postillaw06. -/
namespace Go.Proofs.YtpijeomnplmakaaGreatDoor
open Go.RowKit

theorem same_law6 (a1 a2 : Option Addr) (c1 c2 : Nat) (xs ys : List Int) (w : World) [h1 : RowI w (.slice a1 xs.length c1) false 1 (xs.map intV)] [h2 : RowI w (.slice a2 ys.length c2) false 1 (ys.map intV)] :
    Ct Tryz.prog 51 [.slice a1 xs.length c1, .slice a2 ys.length c2] w fun v _ => v = .bool (decide (xs = ys)) := by
  refine Ct.ofW (by simp) ?_
  (refine jjB ?_; refine jjC ?_; apply jJ; exact eB rfl; refine jz ?_; refine jjB ?_; refine jjC ?_; apply jI; exact eS rfl; apply jI; exact eS rfl)
  refine jjQ (SameInts_ref a1 a2 c1 c2 xs ys _) rfl rfl ?_
  rintro _ w2 hS2 rfl
  (apply jJ; exact eB rfl; refine jz ?_; refine jjF ?_; refine jB rfl rfl ⟨inferInstance, ?_⟩)
  exact rfl
/-- The deck of the examples. -/
def exD : List Int := [3, 1, 2, 1]
theorem deck_law6 (w : World) : Ct Tryz.prog 15 [] w fun v w' => ∃ b, v = .slice (some ⟨b, 0, none⟩) 4 4 ∧ RowV w' false 1 (.slice (some ⟨b, 0, none⟩) 4 4) (exD.map intV) := by
  refine Ct.ofW (by simp) ?_
  (refine jjB ?_; refine jjC ?_; apply jJ; exact eS rfl; refine jz ?_; refine jjB ?_; refine jjC ?_)
  refine Ops.buildSliceF (cells := [.int .i64 3, .int .i64 1, .int .i64 2, .int .i64 1]) rfl rfl rfl ?_
  intro b w2 hb2 hs2 hS2 hk2
  have hr : RowV w2 false 1 (.slice (some ⟨b, 0, none⟩) 4 4) (exD.map intV) := hk2.row (fun x hx => by simp at hx; rcases hx with rfl | rfl | rfl | rfl <;> rfl) (by simp)
  (apply jJ; exact eS rfl; refine jz ?_; refine jjF ?_; refine jB rfl rfl ⟨inferInstance, ?_⟩)
  exact ⟨b, rfl, hr⟩
theorem Deck_big (a : Option Addr) (c : Nat) (d : List Int) (w : World) [hrow : RowI w (.slice a d.length c) false 1 (d.map intV)] (hl : d.length ≤ 1000000000000000) : Ct Tryz.prog 31 [.slice a d.length c] w fun v _ => v = .bool (deckB d) := by
  refine Ct.ofW (by simp) ?_
  (refine jjB ?_; refine jjC ?_; apply jJ; exact eB rfl; refine jz ?_; refine jjB ?_; refine jjB ?_; refine jjC ?_; apply jJ; exact eI rfl; refine jz ?_; refine jjD ?_)
  refine W.loop (4 :: 5 :: 6 :: 7 :: 10 :: 11 :: 12 :: 13 :: 14 :: 15 :: 2 :: 8 :: 9 :: 3 :: []) (fun g s' _ => ∃ k : Nat, s' 3 = .int .i64 ((k : Nat) : Int) ∧ g = d.length - k ∧ k ≤ d.length ∧ ∀ (j : Nat) (hj : j < d.length), j < k → inB 0 999 d[j] = true) d.length ⟨0, rfl, rfl, Nat.zero_le _, by intros; omega⟩ ?_
  rintro _ sd w1 hS1 ⟨k, h3, rfl, hk, hpre⟩
  refine W.fix h3 ?_
  clear h3
  repeat' (first|((first|apply jI|apply jJ); (first|exact eI rfl|exact eB rfl|exact eS rfl))|(refine jM ?_; refine jQ rfl rfl ?_)|(refine jW ?_; (first|refine jX rfl rfl ?_|refine jd rfl rfl ?_))|(refine jg ?_; refine jh rfl ?_)|(refine jE ?_; (refine jF rfl rfl rfl (map_get (by omega)) ?_; intro _ _ _))|refine jz ?_|(refine jjA ?_; (first|refine jjB ?_|refine jjC ?_|refine jjD ?_|refine jjE ?_|refine jjF ?_|refine jjG ?_))|(refine jjA ?_; (refine jjN rfl ?_ ?_ <;> intro _))|refine jB rfl rfl ⟨inferInstance, ?_⟩)
  · have hk' : k < d.length := by omega
    refine jjQ (within_postilref06 d[k] 0 999 _) rfl rfl ?_
    rintro _ w2 hS2 rfl
    cases hb : inB 0 999 d[k]
    · (refine jq rfl ?_; refine jz ?_; refine jjJ rfl ?_; refine jjB ?_; refine jjC ?_; apply jJ; exact eB rfl; refine jz ?_; refine jjF ?_; refine jB rfl rfl ⟨inferInstance, ?_⟩)
      rw [deckB_no hk' hb]; exact rfl
    · (refine jp rfl ?_; refine jz ?_; refine jjK rfl ?_; refine jjG ?_; refine jjC ?_; apply jI; exact eI rfl; refine jY rfl rfl (by omega) ?_; apply jJ; exact eI rfl; refine jz ?_)
      refine ⟨rfl, by ((refine Same.upd rfl ?_; refine Same.upd rfl ?_; refine Same.upd rfl ?_; refine Same.upd rfl ?_; refine Same.upd rfl ?_; refine Same.upd rfl ?_; refine Same.upd rfl ?_; refine Same.upd rfl ?_; refine Same.upd rfl ?_; refine Same.upd rfl ?_; refine Same.upd rfl ?_; refine Same.upd rfl ?_; refine Same.upd rfl ?_; refine Same.upd rfl ?_; exact Same.ovN)), d.length - (k + 1), by omega, inferInstance, k + 1, congrArg (Value.int .i64) (by omega), rfl, by omega, fun i hi hik => ?_⟩
      by_cases e : i = k
      · subst e; exact hb
      · exact hpre i hi (by omega)
  · exact congrArg Value.bool (deckB_of fun i hi => hpre i hi (by omega)).symm
theorem ready_law6 (a : Option Addr) (c : Nat) (d : List Int) (boxes : Int) (w : World) (hl : d.length ≤ 1000000000000000) [hr : RowI w (.slice a d.length c) false 1 (d.map intV)] :
    Ct Tryz.prog 26 [.slice a d.length c, .int .i64 boxes] w fun v _ => v = .bool (deckB d && decide (2 ≤ boxes) && decide (boxes ≤ 20)) := by
  refine Ct.ofW (by simp) ?_
  (refine jjB ?_; refine jjC ?_; apply jJ; exact eB rfl; refine jz ?_; refine jjB ?_; refine jjC ?_; apply jI; exact eS rfl)
  obtain ⟨D, hD⟩ : ∃ D, deckB d = D := ⟨_, rfl⟩
  refine jjQ ((Deck_big a c d _ hl).mono fun v _ _ h => h.trans (by rw [hD])) rfl rfl ?_
  rintro _ w2 hS2 rfl
  rw [hD]
  cases D with
  | false =>
    (apply jI; exact eB rfl; refine jU rfl rfl rfl rfl ?_; refine jU rfl rfl rfl rfl ?_; apply jL rfl; exact eB rfl; apply jI; exact eB rfl; refine jU rfl rfl rfl rfl ?_; refine jU rfl rfl rfl rfl ?_; apply jL rfl; exact eB rfl; apply jJ; exact eB rfl; refine jz ?_; refine jjF ?_; refine jB rfl rfl ⟨inferInstance, ?_⟩)
    exact rfl
  | true =>
    by_cases h1 : 2 ≤ boxes
    · rw [decide_eq_true h1]
      by_cases h2 : boxes ≤ 20
      · rw [decide_eq_true h2]
        (apply jI; exact eB rfl; refine jT rfl rfl rfl ?_; apply jI; exact eI rfl; refine jT rfl rfl rfl ?_; refine jjf rfl rfl (by omega) ?_; apply jK rfl; exact eB rfl; apply jI; exact eB rfl; refine jT rfl rfl rfl ?_; apply jI; exact eI rfl; refine jT rfl rfl rfl ?_; refine jjb rfl rfl (by omega) ?_; apply jK rfl; exact eB rfl; apply jJ; exact eB rfl; refine jz ?_; refine jjF ?_; refine jB rfl rfl ⟨inferInstance, ?_⟩)
        exact rfl
      · rw [decide_eq_false h2]
        (apply jI; exact eB rfl; refine jT rfl rfl rfl ?_; apply jI; exact eI rfl; refine jT rfl rfl rfl ?_; refine jjf rfl rfl (by omega) ?_; apply jK rfl; exact eB rfl; apply jI; exact eB rfl; refine jT rfl rfl rfl ?_; apply jI; exact eI rfl; refine jT rfl rfl rfl ?_; refine jjc rfl rfl (by omega) ?_; apply jK rfl; exact eB rfl; apply jJ; exact eB rfl; refine jz ?_; refine jjF ?_; refine jB rfl rfl ⟨inferInstance, ?_⟩)
        exact rfl
    · rw [decide_eq_false h1]
      (apply jI; exact eB rfl; refine jT rfl rfl rfl ?_; apply jI; exact eI rfl; refine jT rfl rfl rfl ?_; refine jjg rfl rfl (by omega) ?_; apply jK rfl; exact eB rfl; apply jI; exact eB rfl; refine jU rfl rfl rfl rfl ?_; refine jU rfl rfl rfl rfl ?_; apply jL rfl; exact eB rfl; apply jJ; exact eB rfl; refine jz ?_; refine jjF ?_; refine jB rfl rfl ⟨inferInstance, ?_⟩)
      exact rfl
end Go.Proofs.YtpijeomnplmakaaGreatDoor

/- Plain facts: the examples' deck; what File answers. -/
namespace Go.Proofs.YtpijeomnplmakaaGreatDoor
open Go.RowKit

theorem exD_open : opE exD 2 = 0 ∧ opE exD 3 = 0 ∧ deckB exD = true := by decide +kernel
theorem exD_num : numF exD = [2, 0, 1, 0] := by decide +kernel
theorem exD_end : endF exD = [(3, 2), (2, 0)] := by decide +kernel
theorem pass_is {b m p q : Nat} (h : PassR b m p) (g1 : m < b ^ q) (g2 : ∀ i, i < q → b ^ i ≤ m) : p = q := h.uniq ⟨g1, g2⟩
theorem exD_pass2 {p : Nat} (h : PassR 2 (endF exD).length p) : p = 2 := pass_is (by rw [exD_end] at h; exact h) (by decide) (by decide)
theorem exD_plan2 : planP 2 2 (numF exD) = [[0, 0, 1, 0], [1, 0, 0, 0]] := by decide +kernel
theorem exD_sort : sortP 4 [[0, 0, 1, 0], [1, 0, 0, 0]] = [1, 3, 2, 0] := by decide +kernel
theorem exD_beg : BegR exD [1, 2, 1, 1] where
  len := rfl
  pos := by decide
  up i k h1 h2 := (show ∀ k, k < 4 → ∀ i, i < k → gd exD i ≤ gd exD k → gd [1, 2, 1, 1] k + 1 ≤ gd [1, 2, 1, 1] i by decide) k h2 i h1
  ex i hi := by
    rcases (show ∀ i, i < 4 → gd [1, 2, 1, 1] i = 1 ∨ i = 1 by decide) i hi with h | rfl
    · exact .inl h
    · exact .inr ⟨2, by decide⟩
theorem exD_chain : ChainR exD [0, 0, 1, 1] where
  len := rfl
  pos := by decide
  up i hi k h1 := (show ∀ i, i < 4 → ∀ k, k < i → gd exD k ≤ gd exD i → gd [0, 0, 1, 1] k + 1 ≤ gd [0, 0, 1, 1] i by decide) i hi k h1
  ex i hi := by
    rcases (show ∀ i, i < 4 → gd [0, 0, 1, 1] i = 0 ∨ i = 2 ∨ i = 3 by decide) i hi with h | rfl | rfl
    · exact .inl h
    · exact .inr ⟨1, by decide⟩
    · exact .inr ⟨1, by decide⟩
theorem exD_keep {C : List Int} (h : BegR exD C) : keepK exD C = [1, 2] := by
  obtain rfl := h.uniq exD_beg
  decide +kernel
theorem exD_mend {C : List Int} (h : BegR exD C) : (mendF exD (keepK exD C) exD.length).2.2 = [(0, 3), (2, 1)] := by
  rw [exD_keep h]
  decide +kernel
theorem exD_moved : movedF 4 [(0, 3), (2, 1)] = [1, 3, 2, 0] := by decide +kernel

/-! What File answers. -/
def fileE (l : List Slp) (by_ boxes : Int) : Int := if (ranksR l by_).2 = 0 then opE (ranksR l by_).1 boxes else (ranksR l by_).2
def fileL (l : List Slp) (by_ boxes : Int) : List Slp := if fileE l by_ boxes = 0 then (ordF (ranksR l by_).1).map fun i => l.getD i.toNat ((0, 0, 0), ⟨#[]⟩, ⟨#[]⟩, ⟨#[]⟩) else []
def FileR (l : List Slp) (by_ boxes : Int) (B : Nat) (v : Value) (w' : World) : Prop :=
  ∃ (p : Nat) (a : Option Addr) (c : Nat), (if fileE l by_ boxes = 0 then PassR boxes.toNat (endF (ranksR l by_).1).length p else p = 0) ∧
    v = .tuple #[.slice a (fileL l by_ boxes).length c, .int .i64 (p : Int), .int .i64 (fileE l by_ boxes)] ∧ OwnL w' B 49 true 6 (.slice a (fileL l by_ boxes).length c) ((fileL l by_ boxes).map encSl)

abbrev xSea : ByteArray := ⟨#[115, 101, 97]⟩
abbrev xOld : ByteArray := ⟨#[111, 108, 100]⟩
abbrev xIs : ByteArray := ⟨#[105, 115]⟩
abbrev xAnd : ByteArray := ⟨#[97, 110, 100]⟩
def exS : List Slp := [((0, 0, 0), xSea, ⟨#[]⟩, ⟨#[]⟩), ((0, 0, 0), xOld, ⟨#[]⟩, ⟨#[]⟩), ((0, 0, 0), xSea, ⟨#[]⟩, xIs), ((0, 0, 0), xAnd, ⟨#[]⟩, ⟨#[]⟩)]
theorem exS_right : exS.all slipB = true := by decide +kernel
theorem exS_small : ∀ s ∈ exS, SmallS s := by unfold SmallS; decide +kernel
theorem exS_ranks : ranksR exS 2 = ([2, 1, 2, 0], 0) := by
  rw [ranksR_ok (by decide) exS_right (by decide)]
  decide +kernel
theorem exS_err : fileE exS 2 2 = 0 := by rw [fileE, exS_ranks]; decide +kernel
theorem exS_file : fileL exS 2 2 = [((0, 0, 0), xAnd, ⟨#[]⟩, ⟨#[]⟩), ((0, 0, 0), xOld, ⟨#[]⟩, ⟨#[]⟩), ((0, 0, 0), xSea, ⟨#[]⟩, ⟨#[]⟩), ((0, 0, 0), xSea, ⟨#[]⟩, xIs)] := by
  rw [fileL, if_pos exS_err, exS_ranks]
  decide +kernel
theorem exS_pass {p : Nat} (h : if fileE exS 2 2 = 0 then PassR (2 : Int).toNat (endF (ranksR exS 2).1).length p else p = 0) : p = 2 := by
  rw [if_pos exS_err, exS_ranks] at h
  refine pass_is (m := 2) (b := 2) ?_ (by decide) (by decide)
  have e : (endF [2, 1, 2, 0]).length = 2 := by decide +kernel
  rw [← e]; exact h
end Go.Proofs.YtpijeomnplmakaaGreatDoor

/- rack.File: slips that are filed. -/
namespace Go.Proofs.YtpijeomnplmakaaGreatDoor
open Go.RowKit

/-- Results: a variable of its own (no struct), and two slots, where marks lie. -/
theorem fin3SM {P : Program} {fn : Func} {n N t ty b t1 t2 : Nat} {R : Value → World → Prop} {s : Sl} {ds : List Deferred} {w : World} {v : Value} {dd : TypeDesc} {e : Nat} (hf : fn.results = #[.cell t ty, .tmp t1, .tmp t2]) (ht : Nat.blt t n = true) (h1 : Nat.blt t1 n = true) (h2 : Nat.blt t2 n = true) (hs : s t = .pointer (some ⟨b, 0, none⟩)) (hb : Bk w b [v] e) [hu : TU P ty dd] (hag : TypeDesc.isAgg dd = false) (hm : Mks N w ds)
    (h : ∀ w', Grow N w w' → R (.tuple #[v, s t1, s t2]) w') : finM P fn n N R s ds w := by
  unfold finM
  refine ⟨hm, fun w' g => ⟨.tuple #[v, s t1, s t2], ?_, h w' g⟩⟩
  have e : (mkA n s []).tmps[t]?.getD undef = .pointer (some ⟨b, 0, none⟩) := by
    rw [mkA_getElem?, if_pos (by simpa using ht)]; exact hs
  have e1 : (mkA n s []).tmps[t1]?.getD undef = s t1 := by rw [mkA_getElem?, if_pos (by simpa using h1)]; rfl
  have e2 : (mkA n s []).tmps[t2]?.getD undef = s t2 := by rw [mkA_getElem?, if_pos (by simpa using h2)]; rfl
  have hc1 : w'.cell? ⟨b, 0, none⟩ = some v := Bk.cell1 (hb.grow g)
  have r1 := run_loadVar_cell (P := P) (w := w') hu hag hc1
  simp [results, hf, e, e1, e2, asAddr, r1]
section
variable (a : Option Addr) (c : Nat) (l : List Slp) (by_ boxes : Int) (w : World) [hgb : At w 0 0 bysC] [hmx : MxI w] [hrow : RowI w (.slice a l.length c) true 6 (l.map encSl)]
set_option maxHeartbeats 4000000 in
theorem File_rack (hq1 : by_ = 1 → CmpQ 224 (cmpBy 1)) (hs : ∀ x ∈ l, SmallS x) (hb : 0 ≤ by_ ∧ by_ ≤ 255) : Ct Tryz.prog 24 [.slice a l.length c, .int .u8 by_, .int .i64 boxes] w fun v w' => FileR l by_ boxes w.heap.size v w' := by
  refine Ct.ofWM (by simp) ?_
  (refine jjB ?_; refine jjC ?_)
  (refine jy rfl ?_; intro b3 w_b3 hb_b3 hs_b3 hS_b3 hk_b3; have hA_b3 := At.ofBlock hk_b3)
  ((skip); refine jjY ?_; intro b6 w_b6 hb_b6 hs_b6 hS_b6 hk_b6; have hA_b6 := Bk.of hk_b6)
  have hB6 : Bk w_b6 b6 [.slice none 0 0] 44 := hA_b6
  have z3 := hS_b3.size
  have z6 := hS_b6.size
  (apply jJ; exact eI rfl; apply jJ; exact eI rfl; refine jz ?_; refine jjB ?_; refine jjC ?_; refine jN rfl rfl rfl ?_; apply jI; exact eI rfl)
  refine jjQ (Ranks_rack a c l by_ _ hq1 hs hb) rfl rfl ?_
  rintro _ w2 hS2 ⟨da, dc, rfl, hOd⟩
  have z2 := hS2.size
  have hfE : fileE l by_ boxes = if (ranksR l by_).2 = 0 then opE (ranksR l by_).1 boxes else (ranksR l by_).2 := rfl
  have hE2 : Ext w w2 := inferInstance
  by_cases he : (ranksR l by_).2 = 0
  rotate_left
  · rw [if_neg he] at hfE
    have hfL : fileL l by_ boxes = [] := by rw [fileL, if_neg (by rw [hfE]; exact he)]
    (apply jI; exact eU rfl; refine ju rfl rfl ?_; refine ju rfl rfl ?_; apply jJ; exact eS rfl; apply jJ; exact eI rfl; refine jz ?_; refine jjB ?_; refine jjB ?_; refine jjC ?_; apply jI; exact eI rfl; refine jjj rfl rfl (by omega) ?_; refine jz ?_; refine jjJ rfl ?_; refine jjB ?_; refine jjC ?_; apply jI; exact eI rfl)
    refine Ops.store rfl rfl rfl rfl rfl ?_
    intro V2 hp2
    (apply jJ; exact eI rfl; apply jJ; exact eI rfl; refine jz ?_; refine jjF ?_)
    refine fin3SM rfl rfl rfl rfl rfl (Bk.of hp2.new) rfl inferInstance fun w' g => ⟨(hp2.ext hE2 (by omega)).ofGrow g (Nat.le_refl _), 0, none, 0, ?_, ?_, ?_⟩
    · rw [if_neg (by rw [hfE]; exact he)]
    · rw [hfL, hfE]; exact rfl
    · rw [hfL]; exact OwnL.nil _ _ _ _ _
  rw [if_pos he] at hfE
  have hd : (ranksR l by_).1.length = l.length ∧ l.length ≤ 60 := by
    by_cases h1 : 60 < l.length
    · rw [ranksR, if_pos h1] at he; exact absurd he (by decide)
    by_cases h2 : l.all slipB = true
    · by_cases h3 : 1 ≤ by_ ∧ by_ ≤ 4
      · rw [ranksR_ok (by omega) h2 h3, List.length_map]; exact ⟨rfl, by omega⟩
      · rw [ranksR, if_neg h1, if_neg (by simp [h2]), if_pos h3] at he; exact absurd he (by decide)
    · rw [ranksR, if_neg h1, if_pos h2] at he; exact absurd he (by decide)
  have hfd : fileL l by_ boxes = if fileE l by_ boxes = 0 then (ordF (ranksR l by_).1).map fun i => l.getD i.toNat ((0, 0, 0), ⟨#[]⟩, ⟨#[]⟩, ⟨#[]⟩) else [] := rfl
  unfold FileR
  rw [he]
  generalize fileE l by_ boxes = FE at *
  generalize fileL l by_ boxes = FL at *
  generalize (ranksR l by_).1 = d at *
  have hrd : RowI w2 (.slice da d.length dc) false 1 (d.map intV) := ⟨hOd.row⟩
  (apply jI; exact eU rfl; refine ju rfl rfl ?_; refine ju rfl rfl ?_; apply jJ; exact eS rfl; apply jJ; exact eI rfl; refine jz ?_; refine jjB ?_; refine jjB ?_; refine jjC ?_; apply jI; exact eI rfl; refine jjk rfl rfl (by omega) ?_; refine jz ?_; refine jjK rfl ?_; refine jjG ?_; refine jjB ?_; refine jjC ?_; apply jI; exact eS rfl; apply jI; exact eI rfl)
  refine jjQ (open_rack da dc d boxes _ (by omega)) rfl rfl ?_
  rintro _ w4 hS4 (⟨ho, rfl⟩ | ⟨ho, bb, bn, ae, ce, rfl, hzb, _, hAb, -, -⟩)
  · have hE4 : Ext w w4 := inferInstance
    rw [if_neg (by rw [hfE]; exact ho)] at hfd
    (apply jI; exact eU rfl; refine ju rfl rfl ?_; refine ju rfl rfl ?_; apply jJ; exact eN rfl; apply jJ; exact eI rfl; refine jz ?_; refine jjB ?_; refine jjB ?_; refine jjC ?_; apply jI; exact eI rfl; refine jjj rfl rfl (by omega) ?_; refine jz ?_; refine jjJ rfl ?_; refine jjB ?_; refine jjC ?_; apply jI; exact eI rfl)
    refine Ops.store rfl rfl rfl rfl rfl ?_
    intro V2 hp2
    (apply jJ; exact eI rfl; apply jJ; exact eI rfl; refine jz ?_; refine jjF ?_)
    refine fin3SM rfl rfl rfl rfl rfl (Bk.of hp2.new) rfl inferInstance fun w' g => ⟨(hp2.ext hE4 (by omega)).ofGrow g (Nat.le_refl _), 0, none, 0, ?_, ?_, ?_⟩
    · rw [if_neg (by rw [hfE]; exact ho)]
    · rw [hfd, hfE]; exact rfl
    · rw [hfd]; exact OwnL.nil _ _ _ _ _
  rw [if_pos (by rw [hfE]; exact ho)] at hfd
  obtain ⟨hb2, hb20⟩ := opE_boxes ho
  obtain ⟨b, rfl⟩ : ∃ b : Nat, boxes = (b : Int) := ⟨boxes.toNat, by omega⟩
  rw [ho] at hfE
  subst hfE
  have z4 := hS4.size
  (apply jI; exact eU rfl; refine ju rfl rfl ?_; refine ju rfl rfl ?_; apply jJ; exact eP rfl; apply jJ; exact eI rfl; refine jz ?_; refine jjB ?_; refine jjB ?_; refine jjC ?_; apply jI; exact eI rfl; refine jjk rfl rfl (by omega) ?_; refine jz ?_; refine jjK rfl ?_; refine jjG ?_; refine jjB ?_; refine jjB ?_; refine jjC ?_; apply jI; exact eS rfl)
  ((skip); refine jjQ (order_rack da dc d _) rfl rfl ?_)
  rintro _ w9 hS9 ⟨bx, hbx9, hAx, rfl⟩
  have hE9 : Ext w w9 := inferInstance
  have hE29 : Ext w2 w9 := hS4.ext.trans hS9.ext
  have z9 := hS9.size
  have hax := hAx.lt
  have hol := ordF_len d
  have hb69 : Bk w9 b6 [.slice none 0 0] 44 := (hB6.ext hS2.ext).ext hE29
  have hA3 : At w9 b3 0 [.slice a l.length c] := inferInstance
  have hAb9 := hAb.ext hS9.ext
  have n6 : b6 < w9.heap.size := hb69.lt
  have n3 : b3 < b6 := by omega
  have nb : b6 < bb := by have := hB6.lt; omega
  have nx : b6 < bx := by have := hB6.lt; omega
  have nbb := hAb9.lt
  have hrl9 : RowV w9 true 6 (.slice a l.length c) (l.map encSl) := hrow.h.ext hE9
  (refine jz ?_; refine jjD ?_)
  refine W.rangeM w.heap.size (ordF d) encI (order1_rack bx da dc d (by omega)) rfl (fun _ => rfl) trivial inferInstance hE9.size
    (fun i V => Ext w V ∧ w9.heap.size ≤ V.heap.size ∧ At V b3 0 [.slice a l.length c] ∧ At V bx 0 [.slice da d.length dc] ∧ At V bb 0 [.slice (some ⟨bn, 0, none⟩) d.length d.length, .slice ae (opF d.length (ordF d)).2.1.length ce, .slice da d.length dc, .int .i64 (b : Int)] ∧ RowV V false 1 (.slice da d.length dc) (d.map intV) ∧ ∃ v, Bk V b6 [v] 44 ∧ OwnL V w9.heap.size 49 true 6 v ((((ordF d).take i).map fun i => l.getD i.toNat ((0, 0, 0), ⟨#[]⟩, ⟨#[]⟩, ⟨#[]⟩)).map encSl))
    (fun _ _ _ => False) ?hJ (fun _ _ _ _ h _ => h) ?hF ?h0 (MB w9.heap.size b6) ?hW1 ?hW2 ?hW3 (fun x s' _ => s' 3 = .pointer (some ⟨b3, 0, none⟩) ∧ s' 6 = .pointer (some ⟨b6, 0, none⟩) ∧ s' 11 = .int .i64 x) (fun _ _ _ _ h _ => h) ?hassign ?hbody ?hdone (fun _ _ _ _ _ _ _ h => h.elim)
  case hJ =>
    rintro i V V' ⟨h1, h2, h3, h4, h5, h6, v, h7, h8⟩ g
    exact ⟨h1.ofGrow g hE9.size, Nat.le_trans h2 g.size, h3.grow g, h4.grow g, h5.grow g, h6.grow g, v, h7.grow g, h8.grow g⟩
  case hF =>
    rintro i V ⟨h1, h2, h3, h4, h5, h6, _⟩
    exact ⟨h4, h6⟩
  case h0 => exact ⟨hE9, Nat.le_refl _, hA3, hAx, hAb9, hrd.h.ext hE29, _, hb69, OwnL.nil _ _ _ _ _⟩
  case hW1 => exact fun i V k ⟨h1, h2, h3, h4, h5, h6, v, h7, h8⟩ h => MB.lt h2 h7 h8 h
  case hW2 => exact fun i V V' k ⟨h1, h2, h3, h4, h5, h6, v, h7, h8⟩ g h => MB.back h7 g h
  case hW3 => exact fun V V' k g h => .inl (MB.grow (by omega) g h)
  case hassign =>
    intro l' i x V hx hJ hl hr
    (refine jjC ?_; apply jJ; exact eI rfl; refine jz ?_)
    exact ⟨rfl, Tr.refl _, Fr.refl _ _, hJ, rfl, rfl, rfl⟩
  case hbody =>
    rintro l' i x s' V hx ⟨h1, h2, h3, h4, h5, h6, v, h7, h8⟩ ⟨ha3, ha6, ha11⟩ hl hr
    have hxm := List.mem_of_getElem? hx
    rw [ordF, ssort_mem, upN_mem] at hxm
    obtain ⟨xi, rfl⟩ : ∃ xi : Nat, x = xi := ⟨x.toNat, by omega⟩
    have hlt := (List.getElem?_eq_some_iff.1 hx).1
    have hxl : xi < l.length := by omega
    refine W.fix (d := 3) ha3 (W.fix (d := 6) ha6 (W.fix (d := 11) ha11 ?_))
    clear ha3 ha6 ha11
    have hg : (l.map encSl)[xi]? = some (encSl l[xi]) := by rw [List.getElem?_map, List.getElem?_eq_getElem hxl]; rfl
    obtain ⟨pb, po, rfl, -⟩ := hrow.h.place' hg
    obtain ⟨va, vc, rfl⟩ := h8.slice
    have hbl : ∀ g, (Value.slice va (List.map encSl (((ordF d).take i).map fun i => l.getD i.toNat ((0, 0, 0), ⟨#[]⟩, ⟨#[]⟩, ⟨#[]⟩))).length vc).ownBlock = some g → w9.heap.size ≤ g := fun g hg => (h8.block g hg).1
    have hdb : ∀ g, (Value.slice da d.length dc).ownBlock = some g → g < w9.heap.size := fun g e => by
      have := (hOd.block g (by simpa using e)).2
      have := hE29.size
      omega
    have hnd6 : (Value.slice da d.length dc).ownBlock ≠ some b6 := fun e => by
      have := (hOd.block b6 (by simpa using e)).1
      have := hB6.lt
      omega
    have hne6 : (Value.slice va (List.map encSl (((ordF d).take i).map fun i => l.getD i.toNat ((0, 0, 0), ⟨#[]⟩, ⟨#[]⟩, ⟨#[]⟩))).length vc).ownBlock ≠ some b6 := fun e => by have := hbl b6 e; omega
    have hnb : ∀ b, b < w9.heap.size → (Value.slice va (List.map encSl (((ordF d).take i).map fun i => l.getD i.toNat ((0, 0, 0), ⟨#[]⟩, ⟨#[]⟩, ⟨#[]⟩))).length vc).ownBlock ≠ some b := fun b h e => by have := hbl b e; omega
    have hml : (List.map encSl (((ordF d).take i).map fun i => l.getD i.toNat ((0, 0, 0), ⟨#[]⟩, ⟨#[]⟩, ⟨#[]⟩))).length ≤ 60 := by
      rw [List.length_map, List.length_map, List.length_take]; omega
    (refine jjD ?_)
    refine W.draw (fun V' => At V' b3 0 [.slice (some ⟨pb, po, none⟩) l.length c] ∧ RowV V' true 6 (.slice (some ⟨pb, po, none⟩) l.length c) (l.map encSl)) ?_
    intro V1 hS1
    have s1 : At V1 b3 0 [.slice (some ⟨pb, po, none⟩) l.length c] ∧ RowV V1 true 6 (.slice (some ⟨pb, po, none⟩) l.length c) (l.map encSl) := ⟨h3.ext hS1.ext, hrow.h.ext (h1.trans hS1.ext)⟩
    refine jjV [1, 2] (by decide +kernel) s1 ?_
    (((apply jjT; exact rfl; rintro w' ⟨hq1, hq2⟩; refine jN rfl rfl rfl ?_; refine jz ?_; exact ⟨rfl, rfl⟩; apply jjT; exact rfl; rintro w' ⟨hq1, hq2⟩; apply jI; exact eI rfl; refine jz ?_; exact ⟨rfl, rfl⟩; refine jjU ?_)))
    refine jjV [3] (by decide +kernel) s1 (jjT (v := .pointer (some ⟨pb, po + xi * 6, none⟩)) rfl (fun w' q1 => ?_) (jjU ?_)); (refine jH xi rfl rfl rfl (by omega) ?_; refine jz ?_; exact ⟨rfl, rfl⟩)
    refine jjV [4] (by decide +kernel) s1 (jjT (v := encSl l[xi]) rfl (fun w' q1 => ?_) (jjU ?_)); (refine Ops.loadOA (off := 0) (place_k q1.2 hg) rfl rfl rfl rfl ?_; refine jz ?_; exact ⟨rfl, rfl⟩)
    refine jjl 0 5 (by decide +kernel) rfl rfl s1 ?b1 ?b2
    case b1 =>
      refine jR (Bk.cell1 (h7.ext hS1.ext)) rfl rfl ?_
      refine jz ?_
      apply jjW 5 (by decide +kernel) rfl s1
      (refine jjP (v := .agg _) rfl (by exact rfl) (by exact rfl) (by exact rfl) (by exact rfl) ?_; intro b10 w_b10 hb_b10 hs_b10 hS_b10 hk_b10; have hR_b10 := RowV.one (agg := true) (k := 6) rfl hk_b10)
      refine jz ?_
      have hEV : Ext V w_b10 := hS1.ext.trans hS_b10.ext
      have s2 : At w_b10 b3 0 [.slice (some ⟨pb, po, none⟩) l.length c] ∧ RowV w_b10 true 6 (.slice (some ⟨pb, po, none⟩) l.length c) (l.map encSl) := ⟨s1.1.ext hS_b10.ext, s1.2.ext hS_b10.ext⟩
      have z10 := hEV.size
      apply jjW 6 (by decide +kernel) rfl s2
      have hR1 : RowV w_b10 true 6 (.slice (some ⟨b10, 0, none⟩) 1 1) [encSl l[xi]] := hR_b10
      refine Ops.appendL (h8.ext hEV) (by omega) hR1 rfl rfl rfl rfl rfl ?_ ?_ ?_
      · simp only [List.length_cons, List.length_nil]; omega
      · simp only [List.length_cons, List.length_nil]; omega
      intro v2 V4 hA hO _ hown2
      have s3 : At V4 b3 0 [.slice (some ⟨pb, po, none⟩) l.length c] ∧ RowV V4 true 6 (.slice (some ⟨pb, po, none⟩) l.length c) (l.map encSl) := ⟨hA.at_ s2.1 (hnb _ (by omega)), hrow.h.ext (hA.ext (h1.trans hEV) hE9.size)⟩
      refine jz ?_
      have zA := hA.g.size
      obtain ⟨a2, c2, rfl⟩ := hO.slice
      apply jjW 7 (by decide +kernel) rfl s3
      have hB2 : Bk V4 b6 _ 44 := hA.bk (h7.ext hEV) hne6
      refine Ops.store rfl rfl rfl rfl rfl ?_
      intro V5 hp5
      refine jz ?_
      have s5 : At V5 b3 0 [.slice (some ⟨pb, po, none⟩) l.length c] ∧ RowV V5 true 6 (.slice (some ⟨pb, po, none⟩) l.length c) (l.map encSl) := ⟨hp5.at_ s3.1 (by omega), hrow.h.ext (hp5.ext (hA.ext (h1.trans hEV) hE9.size) (by omega))⟩
      refine jjX (by decide +kernel) s5 ?_
      have hB3 : Bk V5 b6 [.slice a2 (List.map encSl (((ordF d).take i).map fun i => l.getD i.toNat ((0, 0, 0), ⟨#[]⟩, ⟨#[]⟩, ⟨#[]⟩)) ++ [encSl l[xi]]).length c2] 44 := ⟨hp5.new⟩
      have hne2 : (Value.slice a2 (List.map encSl (((ordF d).take i).map fun i => l.getD i.toNat ((0, 0, 0), ⟨#[]⟩, ⟨#[]⟩, ⟨#[]⟩)) ++ [encSl l[xi]]).length c2).ownBlock ≠ some b6 := fun e => by rcases hown2 with h | h <;> rw [h] at e; exact hne6 e; cases e; omega
      skip
      refine ⟨(hEV.tr.trans hA.tr).trans (hp5.tr ⟨_, hB2.h, rfl⟩), ?_, hp5.ext (hA.ext (h1.trans hEV) hE9.size) (by omega), ?_, s5.1, hp5.at_ (hA.at_ (h4.ext hEV) (hnb _ (by omega))) (by omega), hp5.at_ (hA.at_ (h5.ext hEV) (hnb _ (by omega))) (by omega), hp5.row (hA.row (h6.ext hEV) fun g e e2 => ?_) hnd6, _, hB3, ?_⟩
      · exact (Fr.ofExt hEV fun k hk => .inl (MB.same h7 (h7.ext hEV) hk)).trans (MB.append n6 (h7.ext hEV) hA hp5 hB3 hown2)
      · have := hEV.size; rw [hp5.size]; omega
      · have := hbl g e
        have := hdb g e2
        omega
      · rw [take_snoc_get hx, List.map_append, List.map_append]
        simp only [List.map_cons, List.map_nil, Int.toNat_natCast]
        rw [show l.getD xi ((0, 0, 0), ⟨#[]⟩, ⟨#[]⟩, ⟨#[]⟩) = l[xi] by rw [List.getD_eq_getElem?_getD, List.getElem?_eq_getElem hxl]; rfl]
        exact hO.put hp5 hne2
    case b2 =>
      (refine jjP (v := .agg _) rfl (by exact rfl) (by exact rfl) (by exact rfl) (by exact rfl) ?_; intro b10 w_b10 hb_b10 hs_b10 hS_b10 hk_b10; have hR_b10 := RowV.one (agg := true) (k := 6) rfl hk_b10)
      refine jz ?_
      have hEV : Ext V w_b10 := hS1.ext.trans hS_b10.ext
      have s2 : At w_b10 b3 0 [.slice (some ⟨pb, po, none⟩) l.length c] ∧ RowV w_b10 true 6 (.slice (some ⟨pb, po, none⟩) l.length c) (l.map encSl) := ⟨s1.1.ext hS_b10.ext, s1.2.ext hS_b10.ext⟩
      have z10 := hEV.size
      apply jjW 0 (by decide +kernel) rfl s2
      refine jR (Bk.cell1 (h7.ext hEV)) rfl rfl ?_
      refine jz ?_
      apply jjW 6 (by decide +kernel) rfl s2
      have hR1 : RowV w_b10 true 6 (.slice (some ⟨b10, 0, none⟩) 1 1) [encSl l[xi]] := hR_b10
      refine Ops.appendL (h8.ext hEV) (by omega) hR1 rfl rfl rfl rfl rfl ?_ ?_ ?_
      · simp only [List.length_cons, List.length_nil]; omega
      · simp only [List.length_cons, List.length_nil]; omega
      intro v2 V4 hA hO _ hown2
      have s3 : At V4 b3 0 [.slice (some ⟨pb, po, none⟩) l.length c] ∧ RowV V4 true 6 (.slice (some ⟨pb, po, none⟩) l.length c) (l.map encSl) := ⟨hA.at_ s2.1 (hnb _ (by omega)), hrow.h.ext (hA.ext (h1.trans hEV) hE9.size)⟩
      refine jz ?_
      have zA := hA.g.size
      obtain ⟨a2, c2, rfl⟩ := hO.slice
      apply jjW 7 (by decide +kernel) rfl s3
      have hB2 : Bk V4 b6 _ 44 := hA.bk (h7.ext hEV) hne6
      refine Ops.store rfl rfl rfl rfl rfl ?_
      intro V5 hp5
      refine jz ?_
      have s5 : At V5 b3 0 [.slice (some ⟨pb, po, none⟩) l.length c] ∧ RowV V5 true 6 (.slice (some ⟨pb, po, none⟩) l.length c) (l.map encSl) := ⟨hp5.at_ s3.1 (by omega), hrow.h.ext (hp5.ext (hA.ext (h1.trans hEV) hE9.size) (by omega))⟩
      refine jjX (by decide +kernel) s5 ?_
      have hB3 : Bk V5 b6 [.slice a2 (List.map encSl (((ordF d).take i).map fun i => l.getD i.toNat ((0, 0, 0), ⟨#[]⟩, ⟨#[]⟩, ⟨#[]⟩)) ++ [encSl l[xi]]).length c2] 44 := ⟨hp5.new⟩
      have hne2 : (Value.slice a2 (List.map encSl (((ordF d).take i).map fun i => l.getD i.toNat ((0, 0, 0), ⟨#[]⟩, ⟨#[]⟩, ⟨#[]⟩)) ++ [encSl l[xi]]).length c2).ownBlock ≠ some b6 := fun e => by rcases hown2 with h | h <;> rw [h] at e; exact hne6 e; cases e; omega
      skip
      refine ⟨(hEV.tr.trans hA.tr).trans (hp5.tr ⟨_, hB2.h, rfl⟩), ?_, hp5.ext (hA.ext (h1.trans hEV) hE9.size) (by omega), ?_, s5.1, hp5.at_ (hA.at_ (h4.ext hEV) (hnb _ (by omega))) (by omega), hp5.at_ (hA.at_ (h5.ext hEV) (hnb _ (by omega))) (by omega), hp5.row (hA.row (h6.ext hEV) fun g e e2 => ?_) hnd6, _, hB3, ?_⟩
      · exact (Fr.ofExt hEV fun k hk => .inl (MB.same h7 (h7.ext hEV) hk)).trans (MB.append n6 (h7.ext hEV) hA hp5 hB3 hown2)
      · have := hEV.size; rw [hp5.size]; omega
      · have := hbl g e
        have := hdb g e2
        omega
      · rw [take_snoc_get hx, List.map_append, List.map_append]
        simp only [List.map_cons, List.map_nil, Int.toNat_natCast]
        rw [show l.getD xi ((0, 0, 0), ⟨#[]⟩, ⟨#[]⟩, ⟨#[]⟩) = l[xi] by rw [List.getD_eq_getElem?_getD, List.getElem?_eq_getElem hxl]; rfl]
        exact hO.put hp5 hne2
  case hdone =>
    rintro ds' V hmk htr ⟨h1, h2, h3, h4, h5, h6, v, h7, h8⟩
    rw [List.take_length] at h8
    obtain ⟨va, vc, rfl⟩ := h8.slice
    have hSV := h1.toStep
    have hm60 : (opF d.length (ordF d)).2.1.length ≤ 60 := by have := (opF_len d.length (ordF d)).2; omega
    (refine jjB ?_; refine jjC ?_; apply jI; exact eP rfl)
    refine jjQ (passes_rack bb _ _ ae ce (opF d.length (ordF d)).2.1.length b V hm60 ⟨by omega, by omega⟩) rfl rfl ?_
    rintro _ V2 hS2' ⟨p, hpp, rfl⟩
    have h72 := h7.ext hS2'.ext
    (apply jI; exact eU rfl; refine ju rfl rfl ?_; refine ju rfl rfl ?_; apply jJ; exact eI rfl; refine jz ?_; refine jjB ?_; refine jjC ?_; refine jN rfl rfl rfl ?_; apply jI; exact eI rfl)
    refine Ops.store rfl rfl rfl rfl rfl ?_
    intro V3 hp3
    (apply jJ; exact eI rfl; apply jJ; exact eI rfl; refine jz ?_; refine jjF ?_)
    have hne6 : (Value.slice va (List.map encSl ((ordF d).map fun i => l.getD i.toNat ((0, 0, 0), ⟨#[]⟩, ⟨#[]⟩, ⟨#[]⟩))).length vc).ownBlock ≠ some b6 := fun e => by have := (h8.block b6 e).1; omega
    have hO3 := ((h8.ext hS2'.ext).put hp3 hne6).mono hE9.size
    rw [hfd]
    rw [List.length_map] at hO3
    refine fin3SM rfl rfl rfl rfl rfl (Bk.of hp3.new) rfl (hmk.tr ((hS2'.ext.tr).trans (hp3.tr ⟨_, h72.h, rfl⟩))) fun w' g => ⟨(hp3.ext (h1.trans hS2'.ext) (by omega)).ofGrow g (Nat.le_refl _), p, va, vc, ?_, ?_, hO3.grow g⟩
    · rw [if_pos rfl]; exact hpp
    · rw [List.length_map]; exact rfl
end
end Go.Proofs.YtpijeomnplmakaaGreatDoor

/- slices.Clone of integers. -/
namespace Go.Proofs.YtpijeomnplmakaaGreatDoor
open Go.RowKit

theorem Clone_int (a : Option Addr) (c : Nat) (l : List Int) (w : World) (hl : l.length ≤ 1000000) [hrow : RowI w (.slice a l.length c) false 1 (l.map intV)] :
    Ct Tryz.prog 55 [.slice a l.length c] w fun v w' => OwnL w' w.heap.size 3 false 1 v (l.map intV) := by
  refine Ct.ofW (by simp) ?_
  (refine jjB ?_; refine jjC ?_; apply jJ; exact eS rfl; refine jz ?_; refine jjB ?_; refine jjB ?_; refine jjC ?_; apply jI; exact eS rfl)
  refine Ops.eqlNil rfl rfl ?_
  repeat' (first|(apply jJ; exact eS rfl)|refine jz ?_|(refine jjA ?_; (first|refine jjB ?_|refine jjC ?_|refine jjF ?_|refine jjG ?_))|(refine jjA ?_; (refine jjO rfl ?_ ?_ <;> intro _))|refine jB rfl rfl ⟨inferInstance, ?_⟩)
  · obtain rfl : a = none := by cases a with
      | none => rfl
      | some x => cases ‹(some x).isNone = true›
    have e : l = [] := by have := row_none hrow.h; simpa using this
    subst e
    exact OwnL.nil _ _ _ _ _
  · refine Ops.buildSlice0 ?_
    intro b3 w4 hb3 hs4 hS4 hk4
    have hO4 := OwnL.empty (agg := false) (k := 1) (B := w.heap.size) (by omega) hk4
    (apply jI; exact eS rfl)
    refine Ops.appendL hO4 (by omega) (hrow.h.ext inferInstance) rfl rfl rfl rfl (all_ints' l) ?_ ?_ ?_
    · simp only [List.length_map, List.length_nil]; omega
    · simp only [List.length_map, List.length_nil]; omega
    intro v5 w5 hA hO5 _ _
    rw [List.nil_append] at hO5
    have hE5 : Ext w w5 := hA.ext inferInstance (Nat.le_refl _)
    have hS5 := hE5.toStep
    (apply jJ; exact rfl; refine jz ?_; refine jjF ?_; refine jB rfl rfl ⟨inferInstance, ?_⟩)
    exact hO5
end Go.Proofs.YtpijeomnplmakaaGreatDoor

/- rack: Plan. -/
namespace Go.Proofs.YtpijeomnplmakaaGreatDoor
open Go.RowKit

theorem OwnW.only {w w' : World} {B e1 e2 kb : Nat} {v : Value} {rs : List Rw} (h : OwnW w B e1 e2 v rs) (o : Only kb w w') (hB : kb < B) : OwnW w' B e1 e2 v rs := ⟨o.own h.out hB, fun x hx => o.own (h.ins x hx) hB⟩

/-- What Plan answers. -/
def PlanR (d : List Int) (boxes : Int) (v : Value) (w' : World) : Prop :=
  (opE d boxes ≠ 0 ∧ v = .tuple #[.slice none 0 0, .int .i64 (opE d boxes)]) ∨
  (opE d boxes = 0 ∧ ∃ (p : Nat) (a : Option Addr) (c : Nat) (rs : List Rw), PassR boxes.toNat (endF d).length p ∧ v = .tuple #[.slice a rs.length c, .int .i64 0] ∧ rs.map (·.2.2) = planP boxes.toNat p (numF d) ∧ RowV w' false 1 (.slice a rs.length c) (rs.map encW) ∧ RowsI w' rs)

theorem rest_step {b k q : Nat} {N : List Int} (hq : q < N.length) (hN : ∀ y ∈ N, 0 ≤ y ∧ y ≤ 60) : ∃ x : Int, 0 ≤ x ∧ x ≤ 60 ∧ ((restP b (k + 1) N).take q ++ (restP b k N).drop q)[q]? = some x ∧
    ((restP b (k + 1) N).take q ++ (restP b k N).drop q).set q (x / (b : Int)) = (restP b (k + 1) N).take (q + 1) ++ (restP b k N).drop (q + 1) ∧ (rowP b k N).take (q + 1) = (rowP b k N).take q ++ [x % (b : Int)] := by
  have h1 : q < (restP b k N).length := by rw [restP_len]; exact hq
  have hg := List.getElem?_eq_getElem h1
  have hd := List.drop_eq_getElem_cons h1
  have hx : (restP b k N)[q] = N[q] / ((b ^ k : Nat) : Int) := by simp [restP]
  have hNq := hN _ (List.getElem_mem hq)
  obtain ⟨x, hxe⟩ : ∃ x, (restP b k N)[q] = x := ⟨_, rfl⟩
  rw [hxe] at hg hd hx
  have htl : q = ((restP b (k + 1) N).take q).length := by rw [List.length_take, restP_len]; omega
  have h0 : 0 ≤ x := by rw [hx]; exact Int.ediv_nonneg hNq.1 (by omega)
  have h60 : x ≤ 60 := by rw [hx]; have := Int.ediv_le_self ((b ^ k : Nat) : Int) hNq.1; omega
  have h2 : (restP b (k + 1) N)[q]? = some (x / (b : Int)) := by rw [← restP_succ, List.getElem?_map, hg]; rfl
  have h3 : (rowP b k N)[q]? = some (x % (b : Int)) := by rw [← rowP_rest, List.getElem?_map, hg]; rfl
  refine ⟨x, h0, h60, ?_, ?_, take_snoc_get h3⟩
  · rw [hd]; exact get_mid htl
  · rw [hd, set_mid htl, take_snoc_get h2, List.append_assoc]; rfl

section
variable (a : Option Addr) (c : Nat) (d : List Int) (boxes : Int) (w : World) (hl : d.length ≤ 1000000) [hrow : RowI w (.slice a d.length c) false 1 (d.map intV)]
include hl
set_option maxHeartbeats 4000000 in
theorem Plan_rack : Ct Tryz.prog 16 [.slice a d.length c, .int .i64 boxes] w fun v w' => PlanR d boxes v w' := by
  refine Ct.ofW (by simp) ?_
  (refine jjB ?_; refine jjC ?_; apply jJ; exact eS rfl; apply jJ; exact eI rfl; refine jz ?_; refine jjB ?_; refine jjC ?_; apply jI; exact eS rfl; apply jI; exact eI rfl)
  refine jjQ (open_rack a c d boxes _ hl) rfl rfl ?_
  rintro _ w2 hS2 (⟨he, rfl⟩ | ⟨he, bb, bn, ae, ce, rfl, _, _, hA, hN, hE⟩)
  · (apply jI; exact eU rfl; refine ju rfl rfl ?_; refine ju rfl rfl ?_; apply jJ; exact eN rfl; apply jJ; exact eI rfl; refine jz ?_; refine jjB ?_; refine jjB ?_; refine jjC ?_; apply jI; exact eI rfl; refine jjj rfl rfl (by omega) ?_; refine jz ?_; refine jjJ rfl ?_; refine jjB ?_; refine jjC ?_; apply jI; exact eI rfl; apply jJ; exact eS rfl; apply jJ; exact eI rfl; refine jz ?_; refine jjF ?_; refine jC rfl rfl rfl ⟨inferInstance, ?_⟩)
    exact .inl ⟨he, rfl⟩
  have hb := opE_boxes he
  have hdl := opE_len he
  have hel := endF_len d
  have hnl := numF_len d
  have hNm : ∀ y ∈ numF d, 0 ≤ y ∧ y ≤ 60 := fun y hy => by have := numF_mem hy; omega
  obtain ⟨b, rfl⟩ : ∃ b : Nat, boxes = b := ⟨boxes.toNat, by omega⟩
  (apply jI; exact eU rfl; refine ju rfl rfl ?_; refine ju rfl rfl ?_; apply jJ; exact eP rfl; apply jJ; exact eI rfl; refine jz ?_; refine jjB ?_; refine jjB ?_; refine jjC ?_; apply jI; exact eI rfl; refine jjk rfl rfl (by omega) ?_; refine jz ?_; refine jjK rfl ?_; refine jjG ?_; refine jjB ?_; refine jjC ?_; apply jI; exact eP rfl)
  refine jjQ (passes_rack bb _ _ ae ce (endF d).length b _ (by omega) (by omega)) rfl rfl ?_
  rintro _ w3 hS3 ⟨p, hp, rfl⟩
  have hp60 := hp.le (by omega) (by omega)
  (apply jI; exact eU rfl; refine ju rfl rfl ?_; refine ju rfl rfl ?_; apply jJ; exact eI rfl; apply jJ; exact eI rfl; refine jz ?_; refine jjB ?_; refine jjC ?_; apply jJ; exact eS rfl; refine jz ?_; refine jjB ?_; refine jjC ?_; apply jI; exact eP rfl; refine jw rfl ?_; refine jm ?_; refine jn rfl ?_; refine jm ?_; refine jn rfl ?_; refine jN rfl rfl rfl ?_)
  have hN3 : RowI w3 (.slice (some ⟨bn, 0, none⟩) (numF d).length d.length) false 1 ((numF d).map intV) := ⟨by rw [hnl]; exact hN.ext hS3.ext⟩
  have hC : Ct Tryz.prog 55 [.slice (some ⟨bn, 0, none⟩) d.length d.length] w3 fun v w' => ∃ ar cr, v = .slice ar d.length cr ∧ OwnL w' w3.heap.size 3 false 1 (.slice ar d.length cr) ((restP b 0 (numF d)).map intV) := by
    have h := Clone_int (some ⟨bn, 0, none⟩) d.length (numF d) w3 (by omega)
    rw [hnl] at h
    refine h.mono fun v w' _ hO => ?_
    obtain ⟨ar, cr, e⟩ := OwnL.slice hO
    rw [List.length_map, hnl] at e
    subst e
    rw [restP_zero]
    exact ⟨ar, cr, rfl, hO⟩
  refine jjQ hC rfl rfl ?_
  rintro _ w4 hS4 ⟨ar, cr, rfl, hO4⟩
  (apply jJ; exact eS rfl; refine jz ?_; refine jjB ?_; refine jjB ?_; refine jjC ?_; apply jI; exact eI rfl; apply jI; exact eI rfl; refine jz ?_; refine jjD ?_)
  have hE4 : Ext w w4 := inferInstance
  have hE3 : Ext w w3 := inferInstance
  have z3 := hE3.size
  have z4 := hS4.size
  refine W.keep0 [(1, .int .i64 (b : Int)), (10, .slice none 0 0), (11, .slice ar d.length cr), (35, .int .i64 ((p : Nat) : Int)), (36, .int .i64 ((0 : Nat) : Int))] ⟨eI rfl, eS rfl, eS rfl, eI rfl, eI rfl, trivial⟩ fun s0 => ?_
  refine W.loopG (37 :: 12 :: 38 :: 39 :: 40 :: 41 :: 42 :: 43 :: 44 :: 13 :: 14 :: 45 :: 46 :: 47 :: 48 :: 49 :: 50 :: 51 :: 52 :: 53 :: 54 :: 55 :: 56 :: 57 :: 58 :: 59 :: 60 :: 61 :: 62 :: 10 :: 63 :: 36 :: []) (fun g s' V => ∃ (k : Nat) (pv : Value) (ts : List Rw), s' 36 = .int .i64 ((k : Nat) : Int) ∧ s' 10 = pv ∧ g = p - k ∧ k ≤ p ∧ Ext w3 V ∧ w4.heap.size ≤ V.heap.size ∧ OwnL V w3.heap.size 3 false 1 (.slice ar d.length cr) ((restP b k (numF d)).map intV) ∧ (∀ g, ar = some ⟨g, 0, none⟩ → g < w4.heap.size) ∧ ts.map (·.2.2) = planP b k (numF d) ∧ OwnW V w4.heap.size 26 3 pv ts) p ⟨0, _, [], rfl, rfl, rfl, Nat.zero_le _, hS4.ext, Nat.le_refl _, hO4, fun g e => (hO4.block g (by rw [e]; rfl)).2, rfl, OwnW.nil _ _ _ _⟩ ?_
  clear hO4
  rintro _ sd V ⟨k, pv, ts, h36, h10, rfl, hk, hEV, hzV, hOr, hgr, hts, hOp⟩
  refine W.fix h36 (W.fix (d := 10) h10 ?_)
  clear h36 h10
  have htl : ts.length = k := by have := congrArg List.length hts; simpa [planP] using this
  repeat' (first|((first|apply jI|apply jJ); (first|exact eI rfl|exact eS rfl|exact rfl))|(refine jW ?_; refine jX rfl rfl ?_)|(refine jg ?_; refine jh rfl ?_)|refine jz ?_|(refine jjA ?_; (first|refine jjB ?_|refine jjC ?_|refine jjD ?_|refine jjE ?_|refine jjF ?_|refine jjG ?_))|(refine jjA ?_; (refine jjN rfl ?_ ?_ <;> intro _)))
  · have hkp : k < p := by omega
    have hm1 := hp.2 0 (by omega)
    have hd1 : 0 < d.length := by simp only [Nat.pow_zero] at hm1; omega
    obtain ⟨g, rfl, hg3, hOg⟩ := hOr.self (by rw [List.length_map, restP_len, hnl]; exact hd1)
    have hg4 := hgr g rfl
    have hDg : SD 3 V g d.length cr (restP b k (numF d)) := ⟨by rw [restP_len, hnl], hOg⟩
    refine W.keep [(1, .int .i64 (b : Int)), (10, pv), (11, .slice (some ⟨g, 0, none⟩) d.length cr), (12, .slice none 0 0), (35, .int .i64 ((p : Nat) : Int)), (36, .int .i64 ((k : Nat) : Int)), (38, .slice (some ⟨g, 0, none⟩) d.length cr), (39, .int .i64 ((d.length : Nat) : Int)), (40, .int .i64 ((0 : Nat) : Int))] (D := (37 :: 12 :: 38 :: 39 :: 40 :: 41 :: 42 :: 43 :: 44 :: 13 :: 14 :: 45 :: 46 :: 47 :: 48 :: 49 :: 50 :: 51 :: 52 :: 53 :: 54 :: 55 :: 56 :: 57 :: 58 :: 59 :: 60 :: 61 :: 62 :: 10 :: 63 :: 36 :: [])) (sO := upds s0 _) (by ((refine Same.upd rfl ?_; refine Same.upd rfl ?_; refine Same.upd rfl ?_; refine Same.upd rfl ?_; refine Same.upd rfl ?_; refine Same.upd rfl ?_; refine Same.upd rfl ?_; exact Same.ovN))) ⟨eI rfl, rfl, eS rfl, eS rfl, eI rfl, eI rfl, eS rfl, eI rfl, eI rfl, trivial⟩ fun s1 hs1 => ?_
    refine W.loopG (41 :: 42 :: 43 :: 44 :: 13 :: 14 :: 45 :: 46 :: 47 :: 48 :: 49 :: 50 :: 12 :: 51 :: 52 :: 53 :: 54 :: 55 :: 56 :: 57 :: 58 :: 40 :: []) (fun g' s' V2 => ∃ (q : Nat) (rv : Value), s' 40 = .int .i64 ((q : Nat) : Int) ∧ s' 12 = rv ∧ g' = d.length - q ∧ q ≤ d.length ∧ Only g V V2 ∧ SD 3 V2 g d.length cr ((restP b (k + 1) (numF d)).take q ++ (restP b k (numF d)).drop q) ∧ OwnL V2 V.heap.size 3 false 1 rv (((rowP b k (numF d)).take q).map intV)) d.length ⟨0, _, rfl, rfl, rfl, Nat.zero_le _, .ofExt (Ext.refl V), by rw [List.take_zero, List.drop_zero, List.nil_append]; exact hDg, by rw [List.take_zero]; exact OwnL.nil _ _ _ _ _⟩ ?_
    rintro _ sd2 V2 ⟨q, rv, h40, h12, rfl, hq, hOn, hD, hOv⟩
    refine W.fix h40 (W.fix (d := 12) h12 ?_)
    clear h40 h12
    have zV2 := hOn.size
    by_cases hql : q < d.length
    · obtain ⟨x, hx0, hx60, hgx, hset, hrow'⟩ := rest_step (b := b) (k := k) (q := q) (N := numF d) (by omega) hNm
      have hc0 := hD.get hgx
      (refine jjB ?_; refine jjC ?_; refine jjZ rfl rfl (by omega) ?_; refine jz ?_; refine jjB ?_; refine jjJ rfl ?_; refine jjG ?_; refine jjB ?_; refine jjD ?_; refine jjB ?_; refine jjC ?_; apply jI; exact eI rfl; refine jG rfl rfl rfl (by omega) ?_; refine jR (by assumption) rfl rfl ?_; apply jJ; exact eI rfl; apply jJ; exact eI rfl; refine jz ?_; refine jjB ?_; refine jjC ?_; apply jI; exact rfl; apply jI; exact eI rfl; apply jI; exact eI rfl)
      refine Ops.rem rfl rfl hx0 (by omega) ?_
      (refine jjP (v := .int _ _) rfl (by exact rfl) (by exact rfl) (by exact rfl) (by exact rfl) ?_; intro b5 w_b5 hb_b5 hs_b5 hS_b5 hk_b5; have hR_b5 := RowV.one (agg := false) (k := 1) rfl hk_b5)
      have z5 := hS_b5.size
      have hrl : ((rowP b k (numF d)).take q).length ≤ 60 := by rw [List.length_take]; omega
      refine Ops.appendL (hOv.ext hS_b5.ext) (by omega) hR_b5 rfl rfl rfl rfl (one_int _) ?_ ?_ ?_
      · rw [List.length_map]; simp only [List.length_cons, List.length_nil]; omega
      · rw [List.length_map]; simp only [List.length_cons, List.length_nil]; omega
      intro v6 w6 hA6 hO6 _ _
      have hOn6 : Only g V w6 := (hOn.trans (.ofExt hS_b5.ext)).app hA6 (Nat.le_refl _)
      have hD6 : SD 3 w6 g d.length cr ((restP b (k + 1) (numF d)).take q ++ (restP b k (numF d)).drop q) := ⟨hD.1, (hD.2.ext hS_b5.ext).app hA6 fun g' e1 e2 => by
        have := (hA6.from_ g' e2).1
        have := hDg.lt
        simp only [Value.ownBlock, Option.some.injEq] at e1
        omega⟩
      have hc6 := hD6.get hgx
      (apply jJ; exact rfl; refine jz ?_; refine jjC ?_; apply jI; exact eS rfl; apply jI; exact eI rfl; refine jG rfl rfl rfl (by omega) ?_; refine jR (by assumption) rfl rfl ?_; apply jI; exact eI rfl)
      refine Ops.quo rfl rfl hx0 (by omega) (by omega) ?_
      (refine jG rfl rfl rfl (by omega) ?_)
      refine OpsD.store (i := q) hD6 hql rfl (eI rfl) ?_
      intro w7 hOn7 hD7
      rw [hset] at hD7
      (refine jz ?_; refine jjC ?_; refine jY rfl rfl (by omega) ?_; apply jI; exact eI rfl; refine jz ?_)
      refine ⟨rfl, by ((refine Same.upd rfl ?_; refine Same.upd rfl ?_; refine Same.upd rfl ?_; refine Same.upd rfl ?_; refine Same.upd rfl ?_; refine Same.upd rfl ?_; refine Same.upd rfl ?_; refine Same.upd rfl ?_; refine Same.upd rfl ?_; refine Same.upd rfl ?_; refine Same.upd rfl ?_; refine Same.upd rfl ?_; refine Same.upd rfl ?_; refine Same.upd rfl ?_; refine Same.upd rfl ?_; refine Same.upd rfl ?_; refine Same.upd rfl ?_; refine Same.upd rfl ?_; refine Same.upd rfl ?_; refine Same.upd rfl ?_; refine Same.upd rfl ?_; refine Same.upd rfl ?_; refine Same.upd rfl ?_; refine Same.upd rfl ?_; exact Same.ovN)), d.length - (q + 1), by omega, q + 1, v6, congrArg (Value.int .i64) (by omega), rfl, rfl, by omega, hOn6.trans hOn7, hD7, ?_⟩
      rw [hrow', List.map_append]
      exact hOn7.own hO6 hDg.lt
    · obtain rfl : q = d.length := by omega
      have ht1 : (restP b (k + 1) (numF d)).take d.length = restP b (k + 1) (numF d) := List.take_of_length_le (by rw [restP_len, hnl]; omega)
      have ht2 : (restP b k (numF d)).drop d.length = [] := List.drop_of_length_le (by rw [restP_len, hnl]; omega)
      have ht3 : (rowP b k (numF d)).take d.length = rowP b k (numF d) := List.take_of_length_le (by rw [rowP_len, hnl]; omega)
      rw [ht1, ht2, List.append_nil] at hD
      rw [ht3] at hOv
      obtain ⟨a5, c5, rfl⟩ := hOv.slice
      rw [List.length_map] at hOv
      rw [List.length_map]
      have hOp2 := hOp.only hOn hg4
      (refine jjB ?_; refine jjC ?_; refine jja rfl rfl (by omega) ?_; refine jz ?_; refine jjB ?_; refine jjK rfl ?_; refine jjE ?_; refine jjC ?_; apply jI; exact rfl; apply jI; exact eS rfl)
      (refine jjP (v := .slice _ _ _) rfl (by exact rfl) (by exact rfl) (by exact rfl) (by exact rfl) ?_; intro b6 w_b6 hb_b6 hs_b6 hS_b6 hk_b6; have hR_b6 := RowV.one (agg := false) (k := 1) rfl hk_b6)
      have z6 := hS_b6.size
      have hxr : OwnL w_b6 w4.heap.size 3 false 1 (encW (a5, c5, rowP b k (numF d))) ((rowP b k (numF d)).map intV) := (hOv.ext hS_b6.ext).mono hzV
      refine Ops.appendL (hOp2.out.ext hS_b6.ext) (by omega) hR_b6 rfl rfl rfl rfl rfl ?_ ?_ ?_
      · simp only [List.length_map, List.length_cons, List.length_nil]; omega
      · simp only [List.length_map, List.length_cons, List.length_nil]; omega
      intro v7 w7 hA7 hO7 _ _
      have hE7 : Ext w3 w7 := hA7.ext ((hOn.ext hEV hg3).trans hS_b6.ext) z4
      have z7 := hE7.size
      have hD7 : OwnL w7 w3.heap.size 3 false 1 (.slice (some ⟨g, 0, none⟩) d.length cr) ((restP b (k + 1) (numF d)).map intV) := ((hD.2.ext hS_b6.ext).app hA7 fun g' e1 e2 => by
        have := (hA7.from_ g' e2).1
        simp only [Value.ownBlock, Option.some.injEq] at e1
        omega).mono hg3
      have hsz := hA7.g.size
      (apply jJ; exact rfl; refine jz ?_; refine jjC ?_; refine jY rfl rfl (by omega) ?_; apply jI; exact eI rfl; refine jz ?_)
      refine ⟨rfl, by ((refine Same.upd rfl ?_; refine Same.upd rfl ?_; refine Same.upd rfl ?_; refine Same.upd rfl ?_; refine Same.upd rfl ?_; refine Same.upd rfl ?_; refine Same.upd rfl ?_; refine Same.upd rfl ?_; refine Same.upd rfl ?_; refine Same.upd rfl ?_; refine Same.ovN' rfl ?_; assumption)), p - (k + 1), by omega, k + 1, v7, ts ++ [(a5, c5, rowP b k (numF d))], congrArg (Value.int .i64) (by omega), rfl, rfl, by omega, hE7, by omega, hD7, hgr, ?_, (hOp2.ext hS_b6.ext).snoc hxr hA7 hO7 (by decide)⟩
      rw [List.map_append, hts, planP_succ]; rfl
  · obtain rfl : k = p := by omega
    have hEw := hE3.trans hEV
    obtain ⟨a5, c5, rfl⟩ := hOp.out.slice
    rw [List.length_map]
    (refine jC rfl rfl rfl ⟨inferInstance, ?_⟩)
    refine .inr ⟨he, k, a5, c5, ts, hp, rfl, hts, ?_, hOp.rows⟩
    have := hOp.out.row
    rwa [List.length_map] at this
end
end Go.Proofs.YtpijeomnplmakaaGreatDoor

/- rack: Moved. -/
namespace Go.Proofs.YtpijeomnplmakaaGreatDoor
open Go.RowKit

/-- What Moved answers. -/
def MovedR (d : List Int) (ms : List (Int × Int)) (v : Value) (w' : World) : Prop := ∃ (l : List Int) (e : Int) (a : Option Addr) (c : Nat), v = .tuple #[.slice a l.length c, .int .i64 e] ∧ RowV w' false 1 (.slice a l.length c) (l.map intV) ∧
  ((deckB d = false ∧ l = [] ∧ e = 60) ∨ (deckB d = true ∧ 60 < ms.length ∧ l = [] ∧ e = 4) ∨ (deckB d = true ∧ ms.length ≤ 60 ∧ ms.any (mvBad d.length) = true ∧ l = [] ∧ e = 63) ∨ (deckB d = true ∧ ms.length ≤ 60 ∧ ms.any (mvBad d.length) = false ∧ l = movedF d.length ms ∧ e = 0))

section
variable (a pa : Option Addr) (c pc : Nat) (d : List Int) (ms : List (Int × Int)) (w : World) [hrow : RowI w (.slice a d.length c) false 1 (d.map intV)] [hp : RowI w (.slice pa ms.length pc) true 2 (ms.map encII)]
set_option maxHeartbeats 4000000 in
theorem Moved_rack (hl : d.length ≤ 1000000) (hml : ms.length ≤ 1000000) : Ct Tryz.prog 21 [.slice a d.length c, .slice pa ms.length pc] w fun v w' => MovedR d ms v w' := by
  refine Ct.ofW (by simp) ?_
  (refine jjB ?_; refine jjC ?_; apply jJ; exact eS rfl; apply jJ; exact eI rfl; refine jz ?_; refine jjB ?_; refine jjB ?_; refine jjC ?_; apply jI; exact eS rfl)
  refine jjQ (Check_rack a c d _ hl) rfl rfl ?_
  rintro _ w2 hS2 rfl
  cases hd : deckB d
  · (apply jJ; exact eI rfl; refine jz ?_; refine jjB ?_; refine jjC ?_; apply jI; exact eI rfl; refine jc rfl rfl ?_; refine jz ?_; refine jjJ rfl ?_; refine jjB ?_; refine jjC ?_; apply jI; exact eI rfl; apply jJ; exact eS rfl; apply jJ; exact eI rfl; refine jz ?_; refine jjF ?_; refine jC rfl rfl rfl ⟨inferInstance, ?_⟩)
    exact ⟨[], 60, none, 0, rfl, RowV.nilS _ _ _ _ _, .inl ⟨hd, rfl, rfl⟩⟩
  have hd60 := deckB_len hd
  by_cases hm60 : 60 < ms.length
  · (apply jJ; exact eI rfl; refine jz ?_; refine jjB ?_; refine jjC ?_; apply jI; exact eI rfl; refine jc rfl rfl ?_; refine jz ?_; refine jjK rfl ?_; refine jjG ?_; refine jjB ?_; refine jjB ?_; refine jjC ?_; apply jI; exact eS rfl; refine jh rfl ?_; refine jjd rfl rfl (by omega) ?_; refine jz ?_; refine jjJ rfl ?_; refine jjB ?_; refine jjC ?_; apply jJ; exact eS rfl; apply jJ; exact eI rfl; refine jz ?_; refine jjF ?_; refine jC rfl rfl rfl ⟨inferInstance, ?_⟩)
    exact ⟨[], 4, none, 0, rfl, RowV.nilS _ _ _ _ _, .inr (.inl ⟨hd, hm60, rfl, rfl⟩)⟩
  (apply jJ; exact eI rfl; refine jz ?_; refine jjB ?_; refine jjC ?_; apply jI; exact eI rfl; refine jc rfl rfl ?_; refine jz ?_; refine jjK rfl ?_; refine jjG ?_; refine jjB ?_; refine jjB ?_; refine jjC ?_; apply jI; exact eS rfl; refine jh rfl ?_; refine jje rfl rfl (by omega) ?_; refine jz ?_; refine jjK rfl ?_; refine jjG ?_; refine jjB ?_; refine jjC ?_; apply jJ; exact eS rfl; refine jz ?_; refine jjB ?_; refine jjB ?_; refine jjC ?_; apply jI; exact eS rfl; refine jh rfl ?_; apply jI; exact eI rfl; refine jz ?_; refine jjD ?_)
  have hE2 : Ext w w2 := inferInstance
  have z2 := hE2.size
  refine W.keep0 [(0, .slice a d.length c), (1, .slice pa ms.length pc), (7, .slice none 0 0), (23, .int .i64 ((d.length : Nat) : Int)), (24, .int .i64 ((0 : Nat) : Int))] ⟨eS rfl, eS rfl, eS rfl, eI rfl, eI rfl, trivial⟩ fun s0 => ?_
  refine W.loop (25 :: 26 :: 8 :: 27 :: 28 :: 29 :: 30 :: 7 :: 31 :: 24 :: []) (fun g s' V => ∃ (i : Nat) (v : Value), s' 24 = .int .i64 ((i : Nat) : Int) ∧ s' 7 = v ∧ g = d.length - i ∧ i ≤ d.length ∧ OwnL V w2.heap.size 3 false 1 v ((upN i).map intV)) d.length ⟨0, _, rfl, rfl, rfl, Nat.zero_le _, OwnL.nil _ _ _ _ _⟩ ?_
  rintro _ sd w4 hS4 ⟨i, v, h24, h7, rfl, hi, hO1⟩
  refine W.fix h24 (W.fix (d := 7) h7 ?_)
  clear h24 h7
  have z4 := hS4.size
  by_cases hid : i < d.length
  · (refine jjB ?_; refine jjC ?_; refine jjZ rfl rfl (by omega) ?_; refine jz ?_; refine jjB ?_; refine jjJ rfl ?_; refine jjG ?_; refine jjB ?_; refine jjD ?_; refine jjB ?_; refine jjC ?_; apply jI; exact eI rfl; apply jJ; exact eI rfl; refine jz ?_; refine jjC ?_; apply jI; exact rfl; apply jI; exact eI rfl)
    (refine jjP (v := .int _ _) rfl (by exact rfl) (by exact rfl) (by exact rfl) (by exact rfl) ?_; intro b5 w_b5 hb_b5 hs_b5 hS_b5 hk_b5; have hR_b5 := RowV.one (agg := false) (k := 1) rfl hk_b5)
    have z5 := hS_b5.size
    refine Ops.appendL (hO1.ext hS_b5.ext) (by omega) hR_b5 rfl rfl rfl rfl (one_int _) ?_ ?_ ?_
    · simp only [List.length_map, upN_len, List.length_cons, List.length_nil]; omega
    · simp only [List.length_map, upN_len, List.length_cons, List.length_nil]; omega
    intro v2 w6 hA6 hO6 _ _
    have hE6 : Ext w2 w6 := hA6.ext inferInstance (Nat.le_refl _)
    (apply jJ; exact rfl; refine jz ?_; refine jjC ?_; refine jY rfl rfl (by omega) ?_; apply jI; exact eI rfl; refine jz ?_)
    refine ⟨rfl, by ((refine Same.upd rfl ?_; refine Same.upd rfl ?_; refine Same.upd rfl ?_; refine Same.upd rfl ?_; refine Same.upd rfl ?_; refine Same.upd rfl ?_; refine Same.upd rfl ?_; refine Same.upd rfl ?_; refine Same.upd rfl ?_; refine Same.upd rfl ?_; refine Same.upd rfl ?_; refine Same.upd rfl ?_; exact Same.ovN)), d.length - (i + 1), by omega, hE6, i + 1, v2, congrArg (Value.int .i64) (by omega), rfl, rfl, by omega, ?_⟩
    rw [upN_succ, List.map_append]; exact hO6
  obtain rfl : i = d.length := by omega
  clear hid hi
  obtain ⟨av, cv, ev⟩ := hO1.slice
  rw [List.length_map, upN_len] at ev
  subst ev
  (refine jjB ?_; refine jjC ?_; refine jja rfl rfl (by omega) ?_; refine jz ?_; refine jjB ?_; refine jjK rfl ?_; refine jjE ?_; refine jjB ?_; refine jjB ?_; refine jjC ?_; apply jI; exact eS rfl; refine jh rfl ?_; apply jI; exact eI rfl; refine jz ?_; refine jjD ?_)
  refine W.keep0 [(0, .slice a d.length c), (1, .slice pa ms.length pc), (7, .slice av d.length cv), (32, .slice pa ms.length pc), (33, .int .i64 ((ms.length : Nat) : Int)), (34, .int .i64 ((0 : Nat) : Int))] ⟨eS rfl, eS rfl, eS rfl, eS rfl, eI rfl, eI rfl, trivial⟩ fun s1 => ?_
  refine W.loop (35 :: 36 :: 37 :: 10 :: 38 :: 39 :: 40 :: 41 :: 42 :: 43 :: 44 :: 45 :: 46 :: 47 :: 4 :: 5 :: 48 :: 34 :: []) (fun g s' V => ∃ k : Nat, s' 34 = .int .i64 ((k : Nat) : Int) ∧ g = ms.length - k ∧ k ≤ ms.length ∧ ∀ (j : Nat) (hj : j < ms.length), j < k → mvBad d.length ms[j] = false) ms.length ⟨0, rfl, rfl, Nat.zero_le _, by intros; omega⟩ ?_
  rintro _ sd2 w7 hS7 ⟨k, h34, rfl, hk, hpre⟩
  refine W.fix h34 ?_
  clear h34
  by_cases hkm : k < ms.length
  · (refine jjB ?_; refine jjC ?_; refine jjZ rfl rfl (by omega) ?_; refine jz ?_; refine jjB ?_; refine jjJ rfl ?_; refine jjG ?_; refine jjB ?_; refine jjD ?_; refine jjB ?_; refine jjC ?_; refine jF rfl rfl rfl (map_get (by omega)) ?_; intro _ _ _; refine jQ rfl rfl ?_)
    (apply jjR rfl; (intro _; first|exact eI rfl|exact eB rfl|exact eP rfl|exact eS rfl|exact eT rfl|exact eA rfl|exact eU rfl|exact eF rfl|exact eM rfl|exact eN rfl|exact rfl); exact rfl; exact rfl; exact rfl; exact rfl; intro b8 w_b8 hb_b8 hs_b8 hS_b8 hk_b8; have hA_b8 := Bk.of hk_b8)
    (refine jz ?_; refine jjB ?_; refine jjC ?_; apply jI; exact eS rfl; refine jh rfl ?_; refine jZ rfl rfl (by omega) ?_; refine jm ?_; refine jn rfl ?_; refine jN rfl rfl rfl ?_; refine jm ?_; refine jn rfl ?_; refine jN rfl rfl rfl ?_)
    refine Ops.buildSlice2 rfl rfl rfl rfl rfl ?_
    intro b9 w9 hb9 hs9 hS9 hB9
    have hR9 : RowV w9 false 1 (.slice (some ⟨b9, 0, none⟩) 2 2) ([ms[k].1, ms[k].2].map (.int .i64)) := Bk.row hB9 (by intro y hy; simp at hy; rcases hy with rfl | rfl <;> rfl) (by simp)
    refine jjQ (in_rack 0 ((d.length : Int) - 1) _ [ms[k].1, ms[k].2] _ hR9) rfl rfl ?_
    rintro _ w10 hS10 rfl
    have hall : [ms[k].1, ms[k].2].all (inB 0 ((d.length : Int) - 1)) = !mvBad d.length ms[k] := by simp [mvBad]
    rw [hall]
    cases hb : mvBad d.length ms[k]
    · (refine jp rfl ?_; refine jz ?_; refine jjK rfl ?_; refine jjG ?_; refine jjC ?_; refine jY rfl rfl (by omega) ?_; apply jI; exact eI rfl; refine jz ?_)
      refine ⟨rfl, by ((refine Same.upd rfl ?_; refine Same.upd rfl ?_; refine Same.upd rfl ?_; refine Same.upd rfl ?_; refine Same.upd rfl ?_; refine Same.upd rfl ?_; refine Same.upd rfl ?_; refine Same.upd rfl ?_; refine Same.upd rfl ?_; refine Same.upd rfl ?_; refine Same.upd rfl ?_; refine Same.upd rfl ?_; refine Same.upd rfl ?_; refine Same.upd rfl ?_; refine Same.upd rfl ?_; refine Same.upd rfl ?_; refine Same.upd rfl ?_; exact Same.ovN)), ms.length - (k + 1), by omega, inferInstance, k + 1, congrArg (Value.int .i64) (by omega), rfl, by omega, fun j hj hjk => ?_⟩
      by_cases e : j = k
      · subst e; exact hb
      · exact hpre j hj (by omega)
    · (refine jq rfl ?_; refine jz ?_; refine jjJ rfl ?_; refine jjB ?_; refine jjC ?_; apply jJ; exact eS rfl; apply jJ; exact eI rfl; refine jz ?_; refine jjF ?_; refine jC rfl rfl rfl ⟨inferInstance, ?_⟩)
      exact ⟨[], 63, none, 0, rfl, RowV.nilS _ _ _ _ _, .inr (.inr (.inl ⟨hd, by omega, List.any_eq_true.2 ⟨_, List.getElem_mem hkm, hb⟩, rfl, rfl⟩))⟩
  obtain rfl : k = ms.length := by omega
  have hany : ms.any (mvBad d.length) = false := by
    rw [List.any_eq_false]
    intro x hx
    obtain ⟨j, hj, rfl⟩ := List.mem_iff_getElem.1 hx
    rw [hpre j hj hj]; simp
  have hmb : ∀ m ∈ ms, mvBad d.length m = false := fun m hm => by
    rw [List.any_eq_false] at hany
    simpa using hany m hm
  clear hpre hkm hk
  have hE7 : Ext w2 w7 := hS4.ext.trans hS7.ext
  have hO7 := hO1.ext hS7.ext
  (refine jjB ?_; refine jjC ?_; refine jja rfl rfl (by omega) ?_; refine jz ?_; refine jjB ?_; refine jjK rfl ?_; refine jjE ?_; refine jjB ?_; refine jjB ?_; refine jjC ?_; apply jI; exact eS rfl; refine jh rfl ?_; apply jI; exact eI rfl; refine jz ?_; refine jjD ?_)
  refine W.keep0 [(7, .slice av d.length cv), (49, .slice pa ms.length pc), (50, .int .i64 ((ms.length : Nat) : Int)), (51, .int .i64 ((0 : Nat) : Int))] ⟨eS rfl, eS rfl, eI rfl, eI rfl, trivial⟩ fun s2 => ?_
  refine W.loopG (52 :: 53 :: 54 :: 12 :: 55 :: 56 :: 57 :: 58 :: 59 :: 13 :: 60 :: 61 :: 62 :: 63 :: 64 :: 65 :: 66 :: 67 :: 68 :: 69 :: 70 :: 71 :: 7 :: 72 :: 51 :: []) (fun g s' V => ∃ k : Nat, s' 51 = .int .i64 ((k : Nat) : Int) ∧ s' 7 = .slice av d.length cv ∧ g = ms.length - k ∧ k ≤ ms.length ∧ Ext w2 V ∧ OwnL V w2.heap.size 3 false 1 (.slice av d.length cv) ((movedF d.length (ms.take k)).map intV)) ms.length ⟨0, rfl, rfl, rfl, Nat.zero_le _, hE7, by rw [List.take_zero]; exact hO7⟩ ?_
  clear hO1 hO7
  rintro _ sd3 V ⟨k, h51, h7, rfl, hk, hEV, hO⟩
  refine W.fix h51 (W.fix (d := 7) h7 ?_)
  clear h51 h7
  have hEw := hE2.trans hEV
  have zV := hEV.size
  have hpV : RowI V (.slice pa ms.length pc) true 2 (ms.map encII) := ⟨hp.h.ext hEw⟩
  by_cases hkm : k < ms.length
  · have hgk := List.getElem?_eq_getElem hkm
    have hz := mvBad_no (hmb _ (List.getElem_mem hkm))
    obtain ⟨f, t, hf, ht, hft⟩ := hz
    have hLl : (movedF d.length (ms.take k)).length = d.length := movedF_len fun m hm => hmb m (List.mem_of_mem_take hm)
    have hsn : movedF d.length (ms.take (k + 1)) = mvF (movedF d.length (ms.take k)) f t := by rw [take_snoc_get hgk, movedF_snoc, hft]; rfl
    obtain ⟨g, rfl, hg2, hOg⟩ := hO.self (by rw [List.length_map, hLl]; omega)
    generalize movedF d.length (ms.take k) = L at *
    have hD : SD 3 V g d.length cv L := ⟨hLl, hOg⟩
    have hx := List.getElem?_eq_getElem (show f < L.length by omega)
    have hcx := hD.get hx
    (refine jjB ?_; refine jjC ?_; refine jjZ rfl rfl (by omega) ?_; refine jz ?_; refine jjB ?_; refine jjJ rfl ?_; refine jjG ?_; refine jjB ?_; refine jjD ?_; refine jjB ?_; refine jjC ?_; refine jF rfl rfl rfl (map_get (by omega)) ?_; intro _ _ _; refine jQ rfl rfl ?_)
    refine Ops.fix (d := 54) (v := encII ((f : Int), (t : Int))) (congrArg encII hft) ?_
    (apply jjR rfl; (intro _; first|exact eI rfl|exact eB rfl|exact eP rfl|exact eS rfl|exact eT rfl|exact eA rfl|exact eU rfl|exact eF rfl|exact eM rfl|exact eN rfl|exact rfl); exact rfl; exact rfl; exact rfl; exact rfl; intro b8 w_b8 hb_b8 hs_b8 hS_b8 hk_b8; have hA_b8 := Bk.of hk_b8)
    have z8 := hS_b8.size
    have hc8 : w_b8.cell? ⟨g, 0 + f, none⟩ = some (intV L[f]) := (hD.ext hS_b8.ext).get hx
    (refine jz ?_; refine jjB ?_; refine jjC ?_; apply jI; exact eS rfl; refine jm ?_; refine jn rfl ?_; refine jN rfl rfl rfl ?_; refine jG rfl rfl rfl (by omega) ?_; refine jR (by assumption) rfl rfl ?_; apply jJ; exact eI rfl; refine jz ?_)
    have hgl := hD.lt
    have hcap : d.length ≤ cv := by obtain ⟨cs, _, _, h, _⟩ := hOg.cells; exact h
    have hdl : d.length - 1 + 1 = d.length := by omega
    have hxe : L.getD f 0 = L[f] := by simp [List.getD_eq_getElem?_getD, hx]
    have hmv : mvF L f t = (L.eraseIdx f).take t ++ L[f] :: (L.eraseIdx f).drop t := by rw [mvF, hxe]
    refine W.draw (fun w' => Only g w_b8 w') ?_
    intro w1 hS1
    have hO1 : Only g w_b8 w1 := .ofExt hS1.ext
    refine jjV [0, 1, 2, 3, 4, 5, 7, 8, 9] (by decide +kernel) hO1 ?_
    (((apply jjT; exact rfl; rintro w' hq; have := hq.at_ (hA_b8.toAt) (show b8 ≠ g by omega); apply jI; exact eS rfl; refine jz ?_; exact ⟨rfl, rfl⟩; apply jjT; exact rfl; rintro w' hq; have := hq.at_ (hA_b8.toAt) (show b8 ≠ g by omega); refine jm ?_; refine jn rfl ?_; refine jz ?_; exact ⟨rfl, rfl⟩; apply jjT; exact rfl; rintro w' hq; have := hq.at_ (hA_b8.toAt) (show b8 ≠ g by omega); refine jN rfl rfl rfl ?_; refine jz ?_; exact ⟨rfl, rfl⟩; apply jjT; exact rfl; rintro w' hq; have := hq.at_ (hA_b8.toAt) (show b8 ≠ g by omega); refine jm ?_; refine jn rfl ?_; refine jz ?_; exact ⟨rfl, rfl⟩; apply jjT; exact rfl; rintro w' hq; have := hq.at_ (hA_b8.toAt) (show b8 ≠ g by omega); refine jN rfl rfl rfl ?_; refine jz ?_; exact ⟨rfl, rfl⟩; apply jjT; exact rfl; rintro w' hq; have := hq.at_ (hA_b8.toAt) (show b8 ≠ g by omega); refine jY rfl rfl (by omega) ?_; refine jz ?_; exact ⟨rfl, rfl⟩; apply jjT; exact rfl; rintro w' hq; have := hq.at_ (hA_b8.toAt) (show b8 ≠ g by omega); refine jm ?_; refine jn rfl ?_; refine jz ?_; exact ⟨rfl, rfl⟩; apply jjT; exact rfl; rintro w' hq; have := hq.at_ (hA_b8.toAt) (show b8 ≠ g by omega); refine jN rfl rfl rfl ?_; refine jz ?_; exact ⟨rfl, rfl⟩; apply jjT; exact rfl; rintro w' hq; have := hq.at_ (hA_b8.toAt) (show b8 ≠ g by omega); apply jI; exact eI rfl; refine jz ?_; exact ⟨rfl, rfl⟩; refine jjU ?_)))
    have hD1 := (hOg.ext hS_b8.ext).ext hS1.ext
    have hOV : Only g V w1 := (Only.ofExt hS_b8.ext).trans hO1
    have z1 := hOV.size
    refine jjl 6 10 (by decide +kernel) rfl rfl hO1 ?b1 ?b2
    case b1 =>
      refine Ops.callR rfl (Enters.h (P := Tryz.prog) (g := 63)) rfl (Delete_int g d.length cv f L w1 hD1 hf (by omega)) ?_
      rintro _ w3 ⟨rfl, hO3, hD3⟩
      refine ⟨_, rfl, ?_⟩
      refine jz ?_
      have hO13 := hO1.trans hO3
      have z3 := hO3.size
      apply jjW 10 (by decide +kernel) rfl hO13
      (refine jjP (v := .int _ _) rfl (by exact rfl) (by exact rfl) (by exact rfl) (by exact rfl) ?_; intro b9 w_b9 hb_b9 hs_b9 hS_b9 hk_b9; have hR_b9 := RowV.one (agg := false) (k := 1) rfl hk_b9)
      refine jz ?_
      have hO19 := hO13.trans (.ofExt hS_b9.ext)
      have hI := Insert_int g b9 (d.length - 1) cv t (L.eraseIdx f) L[f] w_b9 (hD3.ext hS_b9.ext) ⟨hk_b9⟩ (by omega) (by omega) (by omega) (by omega)
      rw [hdl, ← hmv] at hI
      apply jjW 11 (by decide +kernel) rfl hO19
      refine Ops.callR rfl (Enters.h (P := Tryz.prog) (g := 62)) rfl hI ?_
      rintro _ w4 ⟨rfl, hO4, hD4⟩
      refine ⟨_, rfl, ?_⟩
      refine jz ?_
      have hO14 := hO19.trans hO4
      refine jjV [12] (by decide +kernel) hO14 ?_
      (((apply jjT; exact rfl; rintro w' hq; apply jJ; exact eS rfl; refine jz ?_; exact ⟨rfl, rfl⟩; refine jjU ?_)))
      refine jjX (by decide +kernel) hO14 ?_
      (refine jjC ?_; refine jY rfl rfl (by omega) ?_; apply jI; exact eI rfl; refine jz ?_)
      refine ⟨rfl, by ((refine Same.upd rfl ?_; refine Same.upd rfl ?_; refine Same.upd rfl ?_; refine Same.upd rfl ?_; refine Same.upd rfl ?_; refine Same.upd rfl ?_; refine Same.upd rfl ?_; refine Same.upd rfl ?_; refine Same.upd rfl ?_; refine Same.upd rfl ?_; refine Same.upd rfl ?_; refine Same.upd rfl ?_; refine Same.upd rfl ?_; refine Same.upd rfl ?_; refine Same.upd rfl ?_; refine Same.upd rfl ?_; refine Same.upd rfl ?_; refine Same.upd rfl ?_; refine Same.upd rfl ?_; refine Same.upd rfl ?_; refine Same.upd rfl ?_; refine Same.upd rfl ?_; refine Same.upd rfl ?_; refine Same.upd rfl ?_; refine Same.upd rfl ?_; refine Same.upd rfl ?_; refine Same.upd rfl ?_; refine Same.upd rfl ?_; exact Same.ovN)), ms.length - (k + 1), by omega, k + 1, congrArg (Value.int .i64) (by omega), rfl, rfl, by omega, ((Only.ofExt hS_b8.ext).trans hO14).ext hEV hg2, ?_⟩
      rw [hsn]; exact hD4.mono hg2
    case b2 =>
      (refine jjP (v := .int _ _) rfl (by exact rfl) (by exact rfl) (by exact rfl) (by exact rfl) ?_; intro b9 w_b9 hb_b9 hs_b9 hS_b9 hk_b9; have hR_b9 := RowV.one (agg := false) (k := 1) rfl hk_b9)
      refine jz ?_
      have hO19 := hO1.trans (.ofExt hS_b9.ext)
      have z9 := hS_b9.size
      apply jjW 6 (by decide +kernel) rfl hO19
      refine Ops.callR rfl (Enters.h (P := Tryz.prog) (g := 63)) rfl (Delete_int g d.length cv f L w_b9 (hD1.ext hS_b9.ext) hf (by omega)) ?_
      rintro _ w3 ⟨rfl, hO3, hD3⟩
      refine ⟨_, rfl, ?_⟩
      refine jz ?_
      have hO13 := hO19.trans hO3
      have hI := Insert_int g b9 (d.length - 1) cv t (L.eraseIdx f) L[f] w3 hD3 (hO3.bk ⟨hk_b9⟩ (by omega)) (by omega) (by omega) (by omega) (by omega)
      rw [hdl, ← hmv] at hI
      apply jjW 11 (by decide +kernel) rfl hO13
      refine Ops.callR rfl (Enters.h (P := Tryz.prog) (g := 62)) rfl hI ?_
      rintro _ w4 ⟨rfl, hO4, hD4⟩
      refine ⟨_, rfl, ?_⟩
      refine jz ?_
      have hO14 := hO13.trans hO4
      refine jjV [12] (by decide +kernel) hO14 ?_
      (((apply jjT; exact rfl; rintro w' hq; apply jJ; exact eS rfl; refine jz ?_; exact ⟨rfl, rfl⟩; refine jjU ?_)))
      refine jjX (by decide +kernel) hO14 ?_
      (refine jjC ?_; refine jY rfl rfl (by omega) ?_; apply jI; exact eI rfl; refine jz ?_)
      refine ⟨rfl, by ((refine Same.upd rfl ?_; refine Same.upd rfl ?_; refine Same.upd rfl ?_; refine Same.upd rfl ?_; refine Same.upd rfl ?_; refine Same.upd rfl ?_; refine Same.upd rfl ?_; refine Same.upd rfl ?_; refine Same.upd rfl ?_; refine Same.upd rfl ?_; refine Same.upd rfl ?_; refine Same.upd rfl ?_; refine Same.upd rfl ?_; refine Same.upd rfl ?_; refine Same.upd rfl ?_; refine Same.upd rfl ?_; refine Same.upd rfl ?_; refine Same.upd rfl ?_; refine Same.upd rfl ?_; refine Same.upd rfl ?_; refine Same.upd rfl ?_; refine Same.upd rfl ?_; refine Same.upd rfl ?_; refine Same.upd rfl ?_; refine Same.upd rfl ?_; refine Same.upd rfl ?_; refine Same.upd rfl ?_; refine Same.upd rfl ?_; exact Same.ovN)), ms.length - (k + 1), by omega, k + 1, congrArg (Value.int .i64) (by omega), rfl, rfl, by omega, ((Only.ofExt hS_b8.ext).trans hO14).ext hEV hg2, ?_⟩
      rw [hsn]; exact hD4.mono hg2
  · obtain rfl : k = ms.length := by omega
    rw [List.take_length] at hO
    have hml := movedF_len hmb
    (refine jjB ?_; refine jjC ?_; refine jja rfl rfl (by omega) ?_; refine jz ?_; refine jjB ?_; refine jjK rfl ?_; refine jjE ?_; refine jjB ?_; refine jjC ?_; apply jI; exact eS rfl; apply jJ; exact eS rfl; apply jJ; exact eI rfl; refine jz ?_; refine jjF ?_; refine jC rfl rfl rfl ⟨inferInstance, ?_⟩)
    refine ⟨movedF d.length ms, 0, av, cv, ?_, ?_, .inr (.inr (.inr ⟨hd, by omega, hany, rfl, rfl⟩))⟩
    · rw [hml]; exact rfl
    · rw [hml]; exact hO.row
end
end Go.Proofs.YtpijeomnplmakaaGreatDoor

/- rack: Chains. -/
namespace Go.Proofs.YtpijeomnplmakaaGreatDoor
open Go.RowKit

/-- What Chains answers. -/
def ChainsR (d : List Int) (v : Value) (w' : World) : Prop := ∃ (l : List Int) (e : Int) (a : Option Addr) (c : Nat), v = .tuple #[.slice a l.length c, .int .i64 e] ∧ RowV w' false 1 (.slice a l.length c) (l.map intV) ∧
  ((deckB d = false ∧ l = [] ∧ e = 60) ∨ (deckB d = true ∧ ChainR d l ∧ e = 0))
theorem deckB_mem {d : List Int} (h : deckB d = true) : ∀ x ∈ d, 0 ≤ x ∧ x ≤ 999 := by
  intro x hx
  simp only [deckB, Bool.and_eq_true, List.all_eq_true] at h
  have := h.2 x hx
  simpa [inB] using this

section
variable (a : Option Addr) (c : Nat) (d : List Int) (w : World) [hrow : RowI w (.slice a d.length c) false 1 (d.map intV)]
set_option maxHeartbeats 4000000 in
theorem Chains_rack (hl : d.length ≤ 1000000) : Ct Tryz.prog 40 [.slice a d.length c] w fun v w' => ChainsR d v w' := by
  refine Ct.ofW (by simp) ?_
  (refine jjB ?_; refine jjC ?_; apply jJ; exact eS rfl; apply jJ; exact eI rfl; refine jz ?_; refine jjB ?_; refine jjB ?_; refine jjC ?_; apply jI; exact eS rfl)
  refine jjQ (Check_rack a c d _ hl) rfl rfl ?_
  rintro _ w2 hS2 rfl
  cases hd : deckB d
  · (apply jJ; exact eI rfl; refine jz ?_; refine jjB ?_; refine jjC ?_; apply jI; exact eI rfl; refine jc rfl rfl ?_; refine jz ?_; refine jjJ rfl ?_; refine jjB ?_; refine jjC ?_; apply jI; exact eI rfl; apply jJ; exact eS rfl; apply jJ; exact eI rfl; refine jz ?_; refine jjF ?_; refine jC rfl rfl rfl ⟨inferInstance, ?_⟩)
    exact ⟨[], 60, none, 0, rfl, RowV.nilS _ _ _ _ _, .inl ⟨hd, rfl, rfl⟩⟩
  have hd60 := deckB_len hd
  have hdm := deckB_mem hd
  (apply jJ; exact eI rfl; refine jz ?_; refine jjB ?_; refine jjC ?_; apply jI; exact eI rfl; refine jc rfl rfl ?_; refine jz ?_; refine jjK rfl ?_; refine jjG ?_; refine jjB ?_; refine jjC ?_; apply jJ; exact eS rfl; apply jJ; exact eS rfl; refine jz ?_; refine jjB ?_; refine jjB ?_; refine jjC ?_; apply jI; exact eS rfl; refine jh rfl ?_; apply jI; exact eI rfl; refine jz ?_; refine jjD ?_)
  have hE2 : Ext w w2 := inferInstance
  refine W.keep0 [(5, .slice none 0 0), (6, .slice none 0 0), (16, .slice a d.length c), (17, .int .i64 ((d.length : Nat) : Int)), (18, .int .i64 ((0 : Nat) : Int))] ⟨eS rfl, eS rfl, eS rfl, eI rfl, eI rfl, trivial⟩ fun s0 => ?_
  refine W.loop (19 :: 20 :: 21 :: 8 :: 23 :: 24 :: 25 :: 26 :: 22 :: 27 :: 28 :: 9 :: 10 :: 29 :: 30 :: 31 :: 32 :: 33 :: 34 :: 35 :: 36 :: 5 :: 37 :: 38 :: 39 :: 40 :: 41 :: 42 :: 43 :: 44 :: 6 :: 45 :: 18 :: []) (fun g s' V => ∃ (i : Nat) (lv cv : Value) (L C : List Int), s' 18 = .int .i64 ((i : Nat) : Int) ∧ s' 5 = lv ∧ s' 6 = cv ∧ g = d.length - i ∧ i ≤ d.length ∧ PatI (d.take i) L C ∧ L.length ≤ i ∧ OwnL V w2.heap.size 3 false 1 lv (L.map intV) ∧ OwnL V w2.heap.size 3 false 1 cv (C.map intV) ∧ ∀ g, lv.ownBlock = some g → cv.ownBlock ≠ some g) d.length ⟨0, _, _, [], [], rfl, rfl, rfl, rfl, Nat.zero_le _, by rw [List.take_zero]; exact PatI.nil, Nat.le_refl _, OwnL.nil _ _ _ _ _, OwnL.nil _ _ _ _ _, by intro g h; cases h⟩ ?_
  rintro _ sd V hSV ⟨i, lv, cv, L, C, h18, h5, h6, rfl, hi, hP, hLi, hOL, hOC, hne⟩
  refine W.fix h18 (W.fix (d := 5) h5 (W.fix (d := 6) h6 ?_))
  clear h18 h5 h6
  have zV := hSV.size
  have hCl : C.length = i := by rw [hP.ch.len, List.length_take]; omega
  obtain ⟨la, lc, e⟩ := hOL.slice
  rw [List.length_map] at e
  subst e
  by_cases hid : i < d.length
  · have hgi := List.getElem?_eq_getElem hid
    have hrm := hdm _ (List.getElem_mem hid)
    have hRL : RowI V (.slice la L.length lc) false 1 (L.map intV) := ⟨hOL.row⟩
    (refine jjB ?_; refine jjC ?_; refine jjZ rfl rfl (by omega) ?_; refine jz ?_; refine jjB ?_; refine jjJ rfl ?_; refine jjG ?_; refine jjB ?_; refine jjD ?_; refine jjB ?_; refine jjC ?_; refine jF rfl rfl rfl (map_get (by omega)) ?_; intro _ _ _; refine jQ rfl rfl ?_; apply jJ; exact eI rfl; refine jz ?_; refine jjB ?_; refine jjC ?_; apply jI; exact eS rfl; apply jI; exact eI rfl; refine jY rfl rfl (by omega) ?_)
    refine jjQ (BinarySearch_int la lc L (d[i] + 1) _ (by omega) fun p q hp hq hpq => by have := hP.srt p q hpq hq; rwa [gd_lt hp, gd_lt hq] at this) rfl rfl ?_
    rintro _ w3 hS3 ⟨n, q, rfl, hn, hlo, hhi⟩
    have hPn := hP.step (r := d[i]) (n := n) hn (fun j hj hjn => by rw [gd_lt hj]; have := hlo j hj hjn; omega) (fun j hj hjn => by rw [gd_lt hj]; have := hhi j hj hjn; omega)
    rw [← take_snoc_get hgi] at hPn
    have hOL3 := hOL.ext hS3.ext
    have hOC3 := hOC.ext hS3.ext
    have z3 := hS3.size
    clear hRL
    generalize d[i] = r at *
    by_cases hnL : n = L.length
    · (apply jI; exact eU rfl; refine ju rfl rfl ?_; refine ju rfl rfl ?_; apply jJ; exact eI rfl; apply jJ; exact eB rfl; refine jz ?_; refine jjB ?_; refine jjB ?_; refine jjC ?_; apply jI; exact eI rfl; apply jI; exact eS rfl; refine jh rfl ?_; refine jjh rfl rfl (by omega) ?_; refine jz ?_; refine jjJ rfl ?_; refine jjC ?_; apply jI; exact eS rfl; apply jI; exact eI rfl)
      (refine jjP (v := .int _ _) rfl (by exact rfl) (by exact rfl) (by exact rfl) (by exact rfl) ?_; intro b4 w_b4 hb_b4 hs_b4 hS_b4 hk_b4; have hR_b4 := RowV.one (agg := false) (k := 1) rfl hk_b4)
      have z4 := hS_b4.size
      refine Ops.appendL (hOL3.ext hS_b4.ext) (by omega) hR_b4 rfl rfl rfl rfl (one_int _) ?_ ?_ ?_
      · rw [List.length_map]; simp only [List.length_cons, List.length_nil]; omega
      · rw [List.length_map]; simp only [List.length_cons, List.length_nil]; omega
      intro v4 w4 hA4 hO4 _ hw4
      have hE4 : Ext w2 w4 := hA4.ext ((hSV.ext.trans hS3.ext).trans hS_b4.ext) (Nat.le_refl _)
      have hOC4 : OwnL w4 w2.heap.size 3 false 1 cv (C.map intV) := (hOC3.ext hS_b4.ext).app hA4 fun g' e1 e2 => hne g' e2 e1
      obtain ⟨a4, c4, e⟩ := hO4.slice
      simp only [List.length_append, List.length_map, List.length_cons, List.length_nil, Nat.zero_add] at e
      subst e
      obtain ⟨g, rfl, hg2, hOg⟩ := hO4.self (by simp)
      have hD : SD 3 w4 g (L.length + 1) c4 (L ++ [r]) := ⟨by simp, by rw [List.map_append]; exact hOg⟩
      have hneC : cv.ownBlock ≠ some g := fun e => by
        rcases hw4 with h | h
        · exact hne g (h.symm) e
        · have h1 := (hOC3.block g e).2
          simp only [Value.ownBlock, Option.some.injEq] at h
          omega
      (apply jJ; exact eS rfl; refine jz ?_; refine jjB ?_; refine jjC ?_; apply jI; exact eS rfl; apply jI; exact eI rfl; apply jI; exact eI rfl; refine jG rfl rfl rfl (by omega) ?_)
      refine OpsD.store (i := n) hD (by omega) rfl (eI rfl) ?_
      intro w5 hO5 hD5
      have hE5 : Ext w2 w5 := hO5.ext hE4 hg2
      have hOC5 := hO5.own' hOC4 (fun e => hneC e)
      have z5 := hE5.size
      (refine jz ?_; refine jjC ?_; apply jI; exact rfl; apply jI; exact eI rfl)
      (refine jjP (v := .int _ _) rfl (by exact rfl) (by exact rfl) (by exact rfl) (by exact rfl) ?_; intro b6 w_b6 hb_b6 hs_b6 hS_b6 hk_b6; have hR_b6 := RowV.one (agg := false) (k := 1) rfl hk_b6)
      have z6 := hS_b6.size
      refine Ops.appendL (hOC5.ext hS_b6.ext) (by omega) hR_b6 rfl rfl rfl rfl (one_int _) ?_ ?_ ?_
      · rw [List.length_map]; simp only [List.length_cons, List.length_nil]; omega
      · rw [List.length_map]; simp only [List.length_cons, List.length_nil]; omega
      intro v7 w7 hA7 hO7 _ hw7
      have hE7 : Ext w2 w7 := hA7.ext (hE5.trans hS_b6.ext) (Nat.le_refl _)
      have hL7 : OwnL w7 w2.heap.size 3 false 1 _ _ := (((hD5.2).ext hS_b6.ext).app hA7 (fun g' e1 e2 => by
        simp only [Value.ownBlock, Option.some.injEq] at e1
        subst e1
        exact hneC e2)).mono hg2
      (apply jJ; exact rfl; refine jz ?_; refine jjC ?_; refine jY rfl rfl (by omega) ?_; apply jI; exact eI rfl; refine jz ?_)
      refine ⟨rfl, by ((refine Same.upd rfl ?_; refine Same.upd rfl ?_; refine Same.upd rfl ?_; refine Same.upd rfl ?_; refine Same.upd rfl ?_; refine Same.upd rfl ?_; refine Same.upd rfl ?_; refine Same.upd rfl ?_; refine Same.upd rfl ?_; refine Same.upd rfl ?_; refine Same.upd rfl ?_; refine Same.upd rfl ?_; refine Same.upd rfl ?_; refine Same.upd rfl ?_; refine Same.upd rfl ?_; refine Same.upd rfl ?_; refine Same.upd rfl ?_; refine Same.upd rfl ?_; refine Same.upd rfl ?_; refine Same.upd rfl ?_; refine Same.upd rfl ?_; refine Same.upd rfl ?_; refine Same.upd rfl ?_; refine Same.upd rfl ?_; refine Same.upd rfl ?_; refine Same.upd rfl ?_; refine Same.upd rfl ?_; refine Same.upd rfl ?_; refine Same.upd rfl ?_; refine Same.upd rfl ?_; refine Same.upd rfl ?_; refine Same.upd rfl ?_; refine Same.upd rfl ?_; refine Same.upd rfl ?_; refine Same.upd rfl ?_; refine Same.upd rfl ?_; exact Same.ovN)), d.length - (i + 1), by omega, hE7, i + 1, _, v7, (L ++ [r]).set n r, C ++ [(n : Int)], congrArg (Value.int .i64) (by omega), rfl, rfl, rfl, by omega, ?_, ?_, hL7, ?_, ?_⟩
      · rw [if_pos hnL] at hPn; exact hPn
      · rw [List.length_set]; (try simp only [List.length_append, List.length_cons, List.length_nil]); omega
      · rw [List.map_append]; exact hO7
      · intro g' e1 e2
        have e1' : some g = some g' := e1
        obtain rfl := Option.some.inj e1'
        rcases hw7 with h | h
        · rw [h] at e2; exact hneC e2
        · rw [h] at e2; simp only [Option.some.injEq] at e2; have := hD5.lt; omega
    · (apply jI; exact eU rfl; refine ju rfl rfl ?_; refine ju rfl rfl ?_; apply jJ; exact eI rfl; apply jJ; exact eB rfl; refine jz ?_; refine jjB ?_; refine jjB ?_; refine jjC ?_; apply jI; exact eI rfl; apply jI; exact eS rfl; refine jh rfl ?_; refine jji rfl rfl (by omega) ?_; refine jz ?_; refine jjK rfl ?_; refine jjG ?_; refine jjB ?_; refine jjC ?_; apply jI; exact eS rfl; apply jI; exact eI rfl; apply jI; exact eI rfl)
      obtain ⟨g, rfl, hg2, hOg⟩ := hOL3.self (by rw [List.length_map]; omega)
      have hD : SD 3 w3 g L.length lc L := ⟨rfl, hOg⟩
      have hneC : cv.ownBlock ≠ some g := hne g rfl
      have hE3 : Ext w2 w3 := hSV.ext.trans hS3.ext
      (refine jG rfl rfl rfl (by omega) ?_)
      refine OpsD.store (i := n) hD (by omega) rfl (eI rfl) ?_
      intro w5 hO5 hD5
      have hE5 : Ext w2 w5 := hO5.ext hE3 hg2
      have hOC5 := hO5.own' hOC3 (fun e => hneC e)
      have z5 := hE5.size
      (refine jz ?_; refine jjC ?_; apply jI; exact rfl; apply jI; exact eI rfl)
      (refine jjP (v := .int _ _) rfl (by exact rfl) (by exact rfl) (by exact rfl) (by exact rfl) ?_; intro b6 w_b6 hb_b6 hs_b6 hS_b6 hk_b6; have hR_b6 := RowV.one (agg := false) (k := 1) rfl hk_b6)
      have z6 := hS_b6.size
      refine Ops.appendL (hOC5.ext hS_b6.ext) (by omega) hR_b6 rfl rfl rfl rfl (one_int _) ?_ ?_ ?_
      · rw [List.length_map]; simp only [List.length_cons, List.length_nil]; omega
      · rw [List.length_map]; simp only [List.length_cons, List.length_nil]; omega
      intro v7 w7 hA7 hO7 _ hw7
      have hE7 : Ext w2 w7 := hA7.ext (hE5.trans hS_b6.ext) (Nat.le_refl _)
      have hL7 : OwnL w7 w2.heap.size 3 false 1 _ _ := (((hD5.2).ext hS_b6.ext).app hA7 (fun g' e1 e2 => by
        simp only [Value.ownBlock, Option.some.injEq] at e1
        subst e1
        exact hneC e2)).mono hg2
      (apply jJ; exact rfl; refine jz ?_; refine jjC ?_; refine jY rfl rfl (by omega) ?_; apply jI; exact eI rfl; refine jz ?_)
      refine ⟨rfl, by ((refine Same.upd rfl ?_; refine Same.upd rfl ?_; refine Same.upd rfl ?_; refine Same.upd rfl ?_; refine Same.upd rfl ?_; refine Same.upd rfl ?_; refine Same.upd rfl ?_; refine Same.upd rfl ?_; refine Same.upd rfl ?_; refine Same.upd rfl ?_; refine Same.upd rfl ?_; refine Same.upd rfl ?_; refine Same.upd rfl ?_; refine Same.upd rfl ?_; refine Same.upd rfl ?_; refine Same.upd rfl ?_; refine Same.upd rfl ?_; refine Same.upd rfl ?_; refine Same.upd rfl ?_; refine Same.upd rfl ?_; refine Same.upd rfl ?_; refine Same.upd rfl ?_; refine Same.upd rfl ?_; refine Same.upd rfl ?_; refine Same.upd rfl ?_; refine Same.upd rfl ?_; refine Same.upd rfl ?_; refine Same.upd rfl ?_; refine Same.upd rfl ?_; refine Same.upd rfl ?_; refine Same.upd rfl ?_; exact Same.ovN)), d.length - (i + 1), by omega, hE7, i + 1, _, v7, (L).set n r, C ++ [(n : Int)], congrArg (Value.int .i64) (by omega), rfl, rfl, rfl, by omega, ?_, ?_, hL7, ?_, ?_⟩
      · rw [if_neg hnL] at hPn; exact hPn
      · rw [List.length_set]; (try simp only [List.length_append, List.length_cons, List.length_nil]); omega
      · rw [List.map_append]; exact hO7
      · intro g' e1 e2
        have e1' : some g = some g' := e1
        obtain rfl := Option.some.inj e1'
        rcases hw7 with h | h
        · rw [h] at e2; exact hneC e2
        · rw [h] at e2; simp only [Option.some.injEq] at e2; have := hD5.lt; omega
  · obtain rfl : i = d.length := by omega
    rw [List.take_length] at hP
    obtain ⟨ca, cc, e⟩ := hOC.slice
    rw [List.length_map] at e
    subst e
    (refine jjB ?_; refine jjC ?_; refine jja rfl rfl (by omega) ?_; refine jz ?_; refine jjB ?_; refine jjK rfl ?_; refine jjE ?_; refine jjB ?_; refine jjC ?_; apply jI; exact eS rfl; apply jJ; exact eS rfl; apply jJ; exact eI rfl; refine jz ?_; refine jjF ?_; refine jC rfl rfl rfl ⟨inferInstance, ?_⟩)
    refine ⟨C, 0, ca, cc, rfl, ?_, .inr ⟨hd, hP.ch, rfl⟩⟩
    have := hOC.row
    exact this
end
end Go.Proofs.YtpijeomnplmakaaGreatDoor

/- rack: keep, Keep. -/
namespace Go.Proofs.YtpijeomnplmakaaGreatDoor
open Go.RowKit

theorem longer_rack (a b : Option Addr) (c e : Nat) (l m : List Int) (w : World) (hl : l.length ≤ 1000000) [h1 : RowI w (.slice a l.length c) false 1 (l.map intV)] [h2 : RowI w (.slice b m.length e) false 1 (m.map intV)] :
    Ct Tryz.prog 102 [.slice a l.length c, .slice b m.length e] w fun v _ => v = .bool (longB l m) := by
  refine Ct.ofW (by simp) ?_
  by_cases c1 : m.length < l.length
  · (refine jjB ?_; refine jjC ?_; apply jJ; exact eB rfl; refine jz ?_; refine jjB ?_; refine jjC ?_; apply jI; exact eS rfl; refine jh rfl ?_; apply jI; exact eS rfl; refine jh rfl ?_; refine jjd rfl rfl (by omega) ?_; apply jI; exact eB rfl; refine jU rfl rfl rfl rfl ?_; refine jU rfl rfl rfl rfl ?_; refine jU rfl rfl rfl rfl ?_; refine jU rfl rfl rfl rfl ?_; refine jU rfl rfl rfl rfl ?_; refine jU rfl rfl rfl rfl ?_; refine jV rfl rfl ?_; refine jV rfl rfl ?_; refine jV rfl rfl ?_; refine jV rfl rfl ?_; refine jU rfl rfl rfl rfl ?_; apply jK rfl; exact eB rfl; apply jJ; exact eB rfl; refine jz ?_; refine jjF ?_; refine jB rfl rfl ⟨inferInstance, ?_⟩)
    rw [longB_longer c1]; exact rfl
  · by_cases c2 : l.length = m.length
    · (refine jjB ?_; refine jjC ?_; apply jJ; exact eB rfl; refine jz ?_; refine jjB ?_; refine jjC ?_; apply jI; exact eS rfl; refine jh rfl ?_; apply jI; exact eS rfl; refine jh rfl ?_; refine jje rfl rfl (by omega) ?_; apply jI; exact eB rfl; refine jT rfl rfl rfl ?_; apply jI; exact eS rfl; refine jT rfl rfl rfl ?_; refine jh rfl ?_; refine jT rfl rfl rfl ?_; apply jI; exact eS rfl; refine jT rfl rfl rfl ?_; refine jh rfl ?_; refine jT rfl rfl rfl ?_; refine jjh rfl rfl (by omega) ?_; refine jT rfl rfl rfl ?_; apply jI; exact eB rfl; refine jT rfl rfl rfl ?_; apply jI; exact eS rfl; refine jT rfl rfl rfl ?_; apply jI; exact eS rfl; refine jT rfl rfl rfl ?_)
      refine jjQ (CompareS_int a b c e l m _ hl) rfl rfl ?_
      rintro _ w2 hS2 rfl
      (refine jT rfl rfl rfl ?_; refine jX rfl rfl ?_; refine jT rfl rfl rfl ?_; apply jK rfl; exact eB rfl; apply jL rfl; exact eB rfl; apply jJ; exact eB rfl; refine jz ?_; refine jjF ?_; refine jB rfl rfl ⟨inferInstance, ?_⟩)
      exact congrArg Value.bool (by simp [longB, c2])
    · (refine jjB ?_; refine jjC ?_; apply jJ; exact eB rfl; refine jz ?_; refine jjB ?_; refine jjC ?_; apply jI; exact eS rfl; refine jh rfl ?_; apply jI; exact eS rfl; refine jh rfl ?_; refine jje rfl rfl (by omega) ?_; apply jI; exact eB rfl; refine jT rfl rfl rfl ?_; apply jI; exact eS rfl; refine jT rfl rfl rfl ?_; refine jh rfl ?_; refine jT rfl rfl rfl ?_; apply jI; exact eS rfl; refine jT rfl rfl rfl ?_; refine jh rfl ?_; refine jT rfl rfl rfl ?_; refine jji rfl rfl (by omega) ?_; refine jT rfl rfl rfl ?_; apply jI; exact eB rfl; refine jU rfl rfl rfl rfl ?_; refine jU rfl rfl rfl rfl ?_; refine jU rfl rfl rfl rfl ?_; refine jU rfl rfl rfl rfl ?_; refine jT rfl rfl rfl ?_; apply jL rfl; exact eB rfl; apply jL rfl; exact eB rfl; apply jJ; exact eB rfl; refine jz ?_; refine jjF ?_; refine jB rfl rfl ⟨inferInstance, ?_⟩)
      rw [longB_shorter (by omega)]; exact rfl

set_option maxHeartbeats 1000000 in
theorem first_rack (a : Option Addr) (c : Nat) (rs : List Rw) (w : World) (hl : rs.length ≤ 1000000) (hne : rs ≠ []) (hil : ∀ x ∈ rs, x.2.2.length ≤ 1000000) [h1 : RowI w (.slice a rs.length c) false 1 (rs.map encW)] [h2 : RowsI w rs] :
    Ct Tryz.prog 105 [.slice a rs.length c, .func (.func 102) #[] #[]] w fun v _ => ∃ x, x ∈ rs ∧ v = encW x ∧ x.2.2 = firstF (rs.map (·.2.2)) := by
  have h0 : 0 < rs.length := List.length_pos_iff.2 hne
  refine Ct.ofW (by simp) ?_
  (refine jjB ?_; refine jjC ?_; apply jJ; exact eS rfl; refine jz ?_; refine jjB ?_; refine jjC ?_; apply jJ; exact eS rfl; refine jz ?_; refine jjB ?_; refine jjB ?_; refine jjC ?_; apply jI; exact eS rfl; refine jh rfl ?_; apply jI; exact eI rfl; refine jz ?_; refine jjD ?_)
  refine W.loop (11 :: 12 :: 13 :: 14 :: 6 :: 7 :: 15 :: 16 :: 17 :: 18 :: 19 :: 20 :: 21 :: 22 :: 23 :: 5 :: 24 :: 10 :: []) (fun g s' V => ∃ (j : Nat) (v : Value), s' 10 = .int .i64 ((j : Nat) : Int) ∧ s' 5 = v ∧ g = rs.length - j ∧ j ≤ rs.length ∧ (j = 0 ∨ ∃ x, x ∈ rs ∧ v = encW x ∧ x.2.2 = firstF ((rs.take j).map (·.2.2)))) rs.length ⟨0, _, rfl, rfl, rfl, Nat.zero_le _, .inl rfl⟩ ?_
  rintro _ sd V hSV ⟨j, v, h10, h5, rfl, hj, hI⟩
  refine W.fix h10 (W.fix (d := 5) h5 ?_)
  clear h10 h5
  by_cases hjl : j < rs.length
  · have hg := List.getElem?_eq_getElem hjl
    rcases Nat.eq_zero_or_pos j with hj0 | hj0
    · subst hj0
      (refine jjB ?_; refine jjC ?_; refine jjZ rfl rfl (by omega) ?_; refine jz ?_; refine jjB ?_; refine jjJ rfl ?_; refine jjG ?_; refine jjB ?_; refine jjD ?_; refine jjB ?_; refine jjC ?_; apply jI; exact eI rfl; refine jF rfl rfl rfl (map_get (by omega)) ?_; intro _ _ _; refine jQ rfl rfl ?_; apply jJ; exact eI rfl; apply jJ; exact eS rfl; refine jz ?_; refine jjB ?_; refine jjC ?_; apply jI; exact eI rfl; refine jjh rfl rfl (by omega) ?_; apply jI; exact eB rfl; refine jU rfl rfl rfl rfl ?_; refine jU rfl rfl rfl rfl ?_; refine jU rfl rfl rfl rfl ?_; refine jU rfl rfl rfl rfl ?_; apply jK rfl; exact eB rfl; refine jz ?_; refine jjJ rfl ?_; refine jjC ?_; apply jI; exact eS rfl; apply jJ; exact eS rfl; refine jz ?_; refine jjC ?_; refine jY rfl rfl (by omega) ?_; apply jI; exact eI rfl; refine jz ?_)
      refine ⟨rfl, by ((refine Same.upd rfl ?_; refine Same.upd rfl ?_; refine Same.upd rfl ?_; refine Same.upd rfl ?_; refine Same.upd rfl ?_; refine Same.upd rfl ?_; refine Same.upd rfl ?_; refine Same.upd rfl ?_; refine Same.upd rfl ?_; refine Same.upd rfl ?_; refine Same.upd rfl ?_; refine Same.upd rfl ?_; refine Same.upd rfl ?_; refine Same.upd rfl ?_; refine Same.upd rfl ?_; refine Same.upd rfl ?_; refine Same.upd rfl ?_; refine Same.upd rfl ?_; refine Same.upd rfl ?_; refine Same.upd rfl ?_; exact Same.ovN)), rs.length - (0 + 1), by omega, inferInstance, 0 + 1, _, congrArg (Value.int .i64) (by omega), rfl, rfl, by omega, .inr ⟨rs[0], List.getElem_mem hjl, rfl, ?_⟩⟩
      rw [take_snoc_get hg, List.take_zero]; rfl
    · obtain ⟨x, hx, rfl, hxe⟩ := hI.resolve_left (by omega)
      have hrV : RowsI V rs := inferInstance
      have i1 := hrV.get hjl
      have i2 := RowI.mk (hrV.h x hx)
      have hil1 := hil _ (List.getElem_mem hjl)
      have hsn : firstF ((rs.take (j + 1)).map (·.2.2)) = betS (firstF ((rs.take j).map (·.2.2))) rs[j].2.2 := by
        rw [take_snoc_get hg, List.map_append]
        exact firstF_snoc (by rw [Ne, List.map_eq_nil_iff, List.take_eq_nil_iff]; rintro (h | h); omega; exact hne h) _
      (refine jjB ?_; refine jjC ?_; refine jjZ rfl rfl (by omega) ?_; refine jz ?_; refine jjB ?_; refine jjJ rfl ?_; refine jjG ?_; refine jjB ?_; refine jjD ?_; refine jjB ?_; refine jjC ?_; apply jI; exact eI rfl; refine jF rfl rfl rfl (map_get (by omega)) ?_; intro _ _ _; refine jQ rfl rfl ?_; apply jJ; exact eI rfl; apply jJ; exact eS rfl; refine jz ?_; refine jjB ?_; refine jjC ?_; apply jI; exact eI rfl; refine jji rfl rfl (by omega) ?_; apply jI; exact eB rfl; refine jT rfl rfl rfl ?_; apply jI; exact eF rfl; refine jT rfl rfl rfl ?_; apply jI; exact eS rfl; refine jT rfl rfl rfl ?_; apply jI; exact eS rfl; refine jT rfl rfl rfl ?_)
      refine jjQ (longer_rack rs[j].1 x.1 rs[j].2.1 x.2.1 rs[j].2.2 x.2.2 _ hil1) rfl rfl ?_
      rintro _ w2 hS2 rfl
      cases hb : longB rs[j].2.2 x.2.2
      · (apply jL rfl; exact eB rfl; refine jz ?_; refine jjK rfl ?_; refine jjG ?_; refine jjC ?_; refine jY rfl rfl (by omega) ?_; apply jI; exact eI rfl; refine jz ?_)
        refine ⟨rfl, by ((refine Same.upd rfl ?_; refine Same.upd rfl ?_; refine Same.upd rfl ?_; refine Same.upd rfl ?_; refine Same.upd rfl ?_; refine Same.upd rfl ?_; refine Same.upd rfl ?_; refine Same.upd rfl ?_; refine Same.upd rfl ?_; refine Same.upd rfl ?_; refine Same.upd rfl ?_; refine Same.upd rfl ?_; refine Same.upd rfl ?_; refine Same.upd rfl ?_; refine Same.upd rfl ?_; refine Same.upd rfl ?_; refine Same.upd rfl ?_; refine Same.upd rfl ?_; exact Same.ovN)), rs.length - (j + 1), by omega, inferInstance, j + 1, _, congrArg (Value.int .i64) (by omega), rfl, rfl, by omega, .inr ⟨x, hx, rfl, ?_⟩⟩
        rw [hsn, ← hxe, betS, hb]; rfl
      · (apply jL rfl; exact eB rfl; refine jz ?_; refine jjJ rfl ?_; refine jjC ?_; apply jI; exact eS rfl; apply jJ; exact eS rfl; refine jz ?_; refine jjC ?_; refine jY rfl rfl (by omega) ?_; apply jI; exact eI rfl; refine jz ?_)
        refine ⟨rfl, by ((refine Same.upd rfl ?_; refine Same.upd rfl ?_; refine Same.upd rfl ?_; refine Same.upd rfl ?_; refine Same.upd rfl ?_; refine Same.upd rfl ?_; refine Same.upd rfl ?_; refine Same.upd rfl ?_; refine Same.upd rfl ?_; refine Same.upd rfl ?_; refine Same.upd rfl ?_; refine Same.upd rfl ?_; refine Same.upd rfl ?_; refine Same.upd rfl ?_; refine Same.upd rfl ?_; refine Same.upd rfl ?_; refine Same.upd rfl ?_; refine Same.upd rfl ?_; refine Same.upd rfl ?_; refine Same.upd rfl ?_; exact Same.ovN)), rs.length - (j + 1), by omega, inferInstance, j + 1, _, congrArg (Value.int .i64) (by omega), rfl, rfl, by omega, .inr ⟨rs[j], List.getElem_mem hjl, rfl, ?_⟩⟩
        rw [hsn, ← hxe, betS, hb]; rfl
  · obtain rfl : j = rs.length := by omega
    rw [List.take_length] at hI
    (refine jjB ?_; refine jjC ?_; refine jja rfl rfl (by omega) ?_; refine jz ?_; refine jjB ?_; refine jjK rfl ?_; refine jjE ?_; refine jjB ?_; refine jjC ?_; apply jI; exact rfl; apply jJ; exact rfl; refine jz ?_; refine jjF ?_; refine jB rfl rfl ⟨inferInstance, ?_⟩)
    exact hI.resolve_left (by omega)

/-! ### The recursion -/
theorem At.ne_map {κ : Type} {encK : κ → Value} {w : World} {b o kb : Nat} {cs : List Value} {m : List (κ × Value)} (h : At w b o cs) (hm : MapE encK w kb m) (hc : cs ≠ []) : b ≠ kb := by
  rintro rfl
  obtain ⟨x, cs, rfl⟩ := List.exists_cons_of_ne_nil hc
  have h0 := h.h 0 x rfl
  obtain ⟨es, c, h1, _⟩ := hm.h
  simp [World.cell?, h1] at h0
theorem Only.atM {κ : Type} {encK : κ → Value} {w w' : World} {b o kb : Nat} {cs : List Value} {m : List (κ × Value)} (O : Only kb w w') (hm : MapE encK w kb m) (h : At w b o cs) : At w' b o cs := by
  cases cs with
  | nil => exact ⟨fun i v hv => by simp at hv⟩
  | cons x cs => exact O.at_ h (h.ne_map hm (by simp))
theorem Only.rowM {κ : Type} {encK : κ → Value} {w w' : World} {kb k : Nat} {agg : Bool} {v : Value} {xs : List Value} {m : List (κ × Value)} (O : Only kb w w') (hm : MapE encK w kb m) (h : RowV w agg k v xs) : RowV w' agg k v xs :=
  ⟨h.len, h.fit, h.at_.imp id fun ⟨b, o, c, hv, hl, hc⟩ => ⟨b, o, c, hv, hl, fun j x hx => O.atM hm (hc j x hx)⟩⟩
theorem OwnL.blockM {κ : Type} {encK : κ → Value} {w : World} {B e kb : Nat} {agg : Bool} {k : Nat} {v : Value} {xs : List Value} {m : List (κ × Value)} (h : OwnL w B e agg k v xs) (hm : MapE encK w kb m) : v.ownBlock ≠ some kb := by
  intro e
  rcases h.own.2 with ⟨rfl, _⟩ | ⟨g, cap, cur, rfl, _, hg, _⟩
  · simp [Value.ownBlock] at e
  · simp only [Value.ownBlock, Option.some.injEq] at e
    subst e
    obtain ⟨es, c, h1, _⟩ := hm.h
    rw [h1] at hg; simp at hg

structure Kc where
  bk : Nat
  bd : Nat
  bf : Nat
  bl : Nat
  kmb : Nat
  a : Option Addr
  c : Nat
  d : List Int
  C : List Int
def Kc.args (q : Kc) : List Value := [.pointer (some ⟨q.bk, 0, none⟩), .pointer (some ⟨q.bd, 0, none⟩), .pointer (some ⟨q.bf, 0, none⟩), .pointer (some ⟨q.bl, 0, none⟩)]
/-- The row that v is holds the best slips from k on. -/
def IsP (q : Kc) (w : World) (k : Nat) (v : Value) : Prop := ∃ a c, v = .slice a (pathK q.d q.C k).length c ∧ OwnL w 0 3 false 1 (.slice a (pathK q.d q.C k).length c) ((pathK q.d q.C k).map intV)
structure KV (q : Kc) (w : World) : Prop where
  kn : At w q.bk 0 [.map (some q.kmb)]
  dd : At w q.bd 0 [.slice q.a q.d.length q.c]
  ff : At w q.bf 0 [.func (.func 104) #[] q.args.toArray]
  lg : At w q.bl 0 [.func (.func 102) #[] #[]]
  row : RowV w false 1 (.slice q.a q.d.length q.c) (q.d.map intV)
  km : ∃ m, MapE (Value.int .i64) w q.kmb m ∧ ∀ n v, mget m n = some v → ∃ k : Nat, n = (k : Int) ∧ k < q.d.length ∧ IsP q w k v
theorem IsP.only {q : Kc} {w w' : World} {k : Nat} {v : Value} {m : List (Int × Value)} (h : IsP q w k v) (hm : MapE (Value.int .i64) w q.kmb m) (o : Only q.kmb w w') : IsP q w' k v := by
  obtain ⟨a, c, e, h⟩ := h
  exact ⟨a, c, e, o.own' h (h.blockM hm)⟩
theorem KV.only {q : Kc} {w w' : World} (f : KV q w) (o : Only q.kmb w w') (h : ∃ m, MapE (Value.int .i64) w' q.kmb m ∧ ∀ n v, mget m n = some v → ∃ k : Nat, n = (k : Int) ∧ k < q.d.length ∧ IsP q w' k v) : KV q w' := by
  obtain ⟨m, hm, _⟩ := f.km
  exact ⟨o.atM hm f.kn, o.atM hm f.dd, o.atM hm f.ff, o.atM hm f.lg, o.rowM hm f.row, h⟩
theorem KV.ext {q : Kc} {w w' : World} (f : KV q w) (e : Ext w w') : KV q w' := f.only (.ofExt e) (by
  obtain ⟨m, hm, h⟩ := f.km
  exact ⟨m, hm.ext e, fun n v hv => by obtain ⟨k, h1, h2, h3⟩ := h n v hv; exact ⟨k, h1, h2, h3.only hm (.ofExt e)⟩⟩)

set_option maxHeartbeats 4000000 in
theorem from_rack (q : Kc) (hb : BegR q.d q.C) (hd : q.d.length ≤ 1000) :
    ∀ (m i : Nat) (w : World), q.d.length - i ≤ m → i < q.d.length → KV q w →
      Calls Tryz.prog 104 ([Value.int .i64 (i : Int)] ++ q.args).toArray w fun e w' => ∃ v, e = .returned v ∧ IsP q w' i v ∧ Only q.kmb w w' ∧ KV q w' := by
  intro m
  induction m using Nat.strongRecOn with
  | _ m ih =>
  intro i w hm hi hK
  have := hK.kn
  have := hK.ff
  have := hK.lg
  have := hK.dd
  refine Calls.ofW (by simp [Kc.args]) ?_
  (refine jjB ?_; refine jjC ?_; apply jJ; exact eS rfl; refine jz ?_; refine jjB ?_; refine jjB ?_; refine jjC ?_; refine jN rfl rfl rfl ?_; apply jI; exact eI rfl)
  obtain ⟨mm, hmm, hok⟩ := hK.km
  refine Ops.lookupOk hmm rfl rfl ?_
  cases hg : mget mm (i : Int) with
  | some v =>
    obtain ⟨k, hk1, hk2, hP⟩ := hok _ _ hg
    obtain rfl : i = k := by omega
    (apply jI; exact eU rfl; refine ju rfl rfl ?_; refine ju rfl rfl ?_; apply jJ; exact rfl; apply jJ; exact eB rfl; refine jz ?_; refine jjB ?_; refine jjC ?_; apply jI; exact eB rfl; refine jz ?_; refine jjJ rfl ?_; refine jjB ?_; refine jjC ?_; apply jI; exact rfl; apply jJ; exact rfl; refine jz ?_; refine jjF ?_)
    exact jB rfl rfl ⟨_, rfl, hP, .ofExt (.refl w), hK⟩
  | none =>
    (apply jI; exact eU rfl; refine ju rfl rfl ?_; refine ju rfl rfl ?_; apply jJ; exact eS rfl; apply jJ; exact eB rfl; refine jz ?_; refine jjB ?_; refine jjC ?_; apply jI; exact eB rfl; refine jz ?_; refine jjK rfl ?_; refine jjG ?_; refine jjB ?_; refine jjC ?_)
    (refine jjP (v := .slice _ _ _) rfl (by exact rfl) (by exact rfl) (by exact rfl) (by exact rfl) ?_; intro b7 w_b7 hb_b7 hs_b7 hS_b7 hk_b7; have hR_b7 := RowV.one (agg := false) (k := 1) rfl hk_b7)
    have hO7 := OwnL.one (agg := false) (k := 1) (B := w.heap.size) rfl (by omega) hk_b7
    (apply jJ; exact eS rfl; refine jz ?_; refine jjB ?_; refine jjB ?_; refine jjC ?_; apply jI; exact eI rfl; refine jY rfl rfl (by omega) ?_; apply jJ; exact eI rfl; refine jz ?_; refine jjD ?_)
    have hkm := hmm.lt
    have hE7 : Ext w w_b7 := inferInstance
    have hS1 : ∀ k, i + 1 ≤ k → k < q.d.length → ((upR (i + 1) (k + 1)).filter fun j => decide (gd q.d i ≤ gd q.d j)).map (pathK q.d q.C) = ((upR (i + 1) k).filter fun j => decide (gd q.d i ≤ gd q.d j)).map (pathK q.d q.C) ++ if gd q.d i ≤ gd q.d k then [pathK q.d q.C k] else [] := by
      intro k h1 h2
      rw [upR_snoc h1, List.filter_append, List.map_append]
      congr 1
      by_cases hh : gd q.d i ≤ gd q.d k
      · rw [if_pos hh, List.filter_cons_of_pos (by rw [decide_eq_true_eq]; exact hh)]; rfl
      · rw [if_neg hh, List.filter_cons_of_neg (by rw [decide_eq_true_eq]; exact hh)]; rfl
    refine W.loopG (22 :: 23 :: 24 :: 25 :: 28 :: 29 :: 30 :: 31 :: 32 :: 33 :: 34 :: 35 :: 36 :: 37 :: 38 :: 39 :: 40 :: 41 :: 42 :: 9 :: 26 :: 27 :: 10 :: []) (fun g s' w' => ∃ (k : Nat) (v : Value) (rs : List Rw), s' 10 = .int .i64 ((k : Nat) : Int) ∧ s' 9 = v ∧ i + 1 ≤ k ∧ k ≤ q.d.length ∧ g = q.d.length - k ∧ rs.length ≤ k + 1 ∧ Only q.kmb w w' ∧ KV q w' ∧ OwnL w' w.heap.size 26 false 1 v (rs.map encW) ∧ (∀ x ∈ rs, OwnL w' 0 3 false 1 (encW x) (x.2.2.map intV)) ∧ rs.map (·.2.2) = [] :: ((upR (i + 1) k).filter fun j => decide (gd q.d i ≤ gd q.d j)).map (pathK q.d q.C)) (q.d.length - (i + 1)) ⟨i + 1, _, [(none, 0, [])], congrArg (Value.int .i64) (by omega), rfl, Nat.le_refl _, hi, rfl, by simp, .ofExt hE7, hK.ext hE7, hO7, by intro x hx; simp at hx; subst hx; exact OwnL.nil _ _ _ _ _, by rw [upR_nil (Nat.le_refl _)]; rfl⟩ ?_
    rintro _ sd w' ⟨k, v, rs, h10, h9, hik, hkn, rfl, hrl, hOn, hKk, hO, hRs, hrs⟩
    refine W.fix h10 (W.fix (d := 9) h9 ?_)
    clear h10 h9
    have z' := hOn.size
    have hEd := hKk.dd
    by_cases hkl : k < q.d.length
    · (refine jjB ?_; refine jjB ?_; refine jjC ?_; apply jI; exact eI rfl; refine jN rfl rfl rfl ?_; refine jh rfl ?_; refine jjZ rfl rfl (by omega) ?_; refine jz ?_; refine jjJ rfl ?_; refine jjG ?_; refine jjB ?_; refine jjD ?_; refine jjB ?_)
      refine W.draw (fun wq => Ext w' wq) ?_
      intro w1 hS1'
      have hz := hKk.row.place' (map_get hkl)
      obtain ⟨p1, o1, e1, hA1⟩ := hz
      have hz := hKk.row.place' (map_get hi)
      obtain ⟨p2, o2, e2, hA2⟩ := hz
      have e3 := e1.symm.trans e2
      cases e3
      rw [Nat.mul_one] at hA1 hA2
      have hdd : At w' q.bd 0 [.slice (some ⟨p1, o1, none⟩) q.d.length q.c] := by rw [← e1]; exact hKk.dd
      clear hEd
      refine jjV [0, 1, 2, 3, 4, 5, 6, 7, 8] (by decide +kernel) hS1'.ext ?_
      (((apply jjT; exact rfl; rintro wq hq; have := hq.toStep; refine jN rfl rfl rfl ?_; refine jz ?_; exact ⟨rfl, rfl⟩; apply jjT; exact rfl; rintro wq hq; have := hq.toStep; apply jI; exact eI rfl; refine jz ?_; exact ⟨rfl, rfl⟩; apply jjT; exact rfl; rintro wq hq; have := hq.toStep; refine jG rfl rfl rfl (by omega) ?_; refine jz ?_; exact ⟨rfl, rfl⟩; apply jjT; exact rfl; rintro wq hq; have := hq.toStep; refine jQ rfl rfl ?_; refine jz ?_; exact ⟨rfl, rfl⟩; apply jjT; exact rfl; rintro wq hq; have := hq.toStep; refine jN rfl rfl rfl ?_; refine jz ?_; exact ⟨rfl, rfl⟩; apply jjT; exact rfl; rintro wq hq; have := hq.toStep; apply jI; exact eI rfl; refine jz ?_; exact ⟨rfl, rfl⟩; apply jjT; exact rfl; rintro wq hq; have := hq.toStep; refine jG rfl rfl rfl (by omega) ?_; refine jz ?_; exact ⟨rfl, rfl⟩; apply jjT; exact rfl; rintro wq hq; have := hq.toStep; refine jQ rfl rfl ?_; refine jz ?_; exact ⟨rfl, rfl⟩; apply jjT; exact rfl; rintro wq hq; have := hq.toStep; refine jf rfl rfl ?_; refine jz ?_; exact ⟨rfl, rfl⟩; refine jjU ?_)))
      refine jjX (by decide +kernel) hS1'.ext ?_
      have hK1 := hKk.ext hS1'.ext
      have hOn1 := hOn.trans (.ofExt hS1'.ext)
      have g1 : gd q.d k = q.d[k] := gd_lt hkl
      have g2 : gd q.d i = q.d[i] := gd_lt hi
      have hlg := hK1.lg
      have hff := hK1.ff
      repeat' (first|((first|apply jI|apply jJ); (first|exact eI rfl|exact rfl))|(refine jM ?_; refine jN rfl rfl rfl ?_)|(refine jW ?_; refine jY rfl rfl (by omega) ?_)|refine jz ?_|(refine jjA ?_; (first|refine jjC ?_|refine jjG ?_))|(refine jjA ?_; (refine jjN rfl ?_ ?_ <;> intro _)))
      · have hh : gd q.d i ≤ gd q.d k := by rw [g1, g2]; assumption
        refine Ops.callR rfl (Enters.h (P := Tryz.prog) (g := 104)) rfl (ih (m - 1) (by omega) k _ (by omega) hkl hK1) ?_
        rintro _ w2 ⟨v2, rfl, ⟨a2, c2, rfl, hR2⟩, hOn2, hK2⟩
        refine ⟨_, rfl, ?_⟩
        (refine jjP (v := .slice _ _ _) rfl (by exact rfl) (by exact rfl) (by exact rfl) (by exact rfl) ?_; intro b8 w_b8 hb_b8 hs_b8 hS_b8 hk_b8; have hR_b8 := RowV.one (agg := false) (k := 1) rfl hk_b8)
        have z2 := hOn2.size
        have z1 := hOn1.size
        have z8 := hS_b8.size
        have hOn28 := hOn2.trans (.ofExt hS_b8.ext)
        obtain ⟨m1, hm1, _⟩ := hK1.km
        obtain ⟨m2, hm2, _⟩ := hK2.km
        have hOr := hOn2.own (hO.ext hS1'.ext) hkm
        refine Ops.appendL (hOr.ext hS_b8.ext) (by omega) hR_b8 rfl rfl rfl rfl rfl ?_ ?_ ?_
        · simp only [List.length_map, List.length_cons, List.length_nil]; omega
        · simp only [List.length_map, List.length_cons, List.length_nil]; omega
        intro v9 w9 hA9 hO9 _ _
        have hEA : Only q.kmb w w9 := (hOn1.trans hOn28).app hA9 (Nat.le_refl _)
        have hKb : v.ownBlock ≠ some q.kmb := fun e => by have := (hO.block _ e).1; omega
        have hrow : ∀ (x : Rw), OwnL w2 0 3 false 1 (encW x) (x.2.2.map intV) → OwnL w9 0 3 false 1 (encW x) (x.2.2.map intV) := fun x hx => (hx.ext hS_b8.ext).app hA9 ((hx.ext hS_b8.ext).ne (hOr.ext hS_b8.ext) (by decide))
        have hK9 : KV q w9 := hK.only hEA (by
          obtain ⟨m2, hm2, hok2⟩ := hK2.km
          refine ⟨m2, (hm2.ext hS_b8.ext).app hA9 hKb, fun n u hu => ?_⟩
          obtain ⟨k', h1, h2, a', c', h3, h4⟩ := hok2 n u hu
          exact ⟨k', h1, h2, a', c', h3, hrow (a', c', pathK q.d q.C k') h4⟩)
        (apply jJ; exact rfl; refine jz ?_; refine jjC ?_; apply jI; exact eI rfl; refine jY rfl rfl (by omega) ?_; apply jJ; exact eI rfl; refine jz ?_)
        refine ⟨rfl, by ((refine Same.upd rfl ?_; refine Same.upd rfl ?_; refine Same.upd rfl ?_; refine Same.upd rfl ?_; refine Same.upd rfl ?_; refine Same.upd rfl ?_; refine Same.upd rfl ?_; refine Same.upd rfl ?_; refine Same.upd rfl ?_; refine Same.upd rfl ?_; refine Same.upd rfl ?_; refine Same.upd rfl ?_; refine Same.upd rfl ?_; refine Same.upd rfl ?_; refine Same.upd rfl ?_; refine Same.upd rfl ?_; refine Same.upd rfl ?_; refine Same.upd rfl ?_; refine Same.upd rfl ?_; refine Same.upd rfl ?_; refine Same.upd rfl ?_; refine Same.upd rfl ?_; refine Same.upd rfl ?_; refine Same.upd rfl ?_; refine Same.upd rfl ?_; exact Same.ovN)), q.d.length - (k + 1), by omega, k + 1, v9, rs ++ [(a2, c2, pathK q.d q.C k)], congrArg (Value.int .i64) (by omega), rfl, by omega, by omega, rfl, by rw [List.length_append]; simp only [List.length_cons, List.length_nil]; omega, hEA, hK9, by rw [List.map_append]; exact hO9, ?_, ?_⟩
        · intro x hx
          rcases List.mem_append.1 hx with hx | hx
          · exact hrow x (hOn2.own' ((hRs x hx).ext hS1'.ext) (((hRs x hx).ext hS1'.ext).blockM hm1))
          · have : x = (a2, c2, pathK q.d q.C k) := by simpa using hx
            subst this
            exact hrow (a2, c2, pathK q.d q.C k) hR2
        · rw [hS1 k hik hkl, if_pos hh, List.map_append, hrs]; rfl
      · have hh : ¬ gd q.d i ≤ gd q.d k := by rw [g1, g2]; assumption
        refine ⟨rfl, by ((refine Same.upd rfl ?_; refine Same.upd rfl ?_; refine Same.upd rfl ?_; refine Same.upd rfl ?_; refine Same.upd rfl ?_; refine Same.upd rfl ?_; refine Same.upd rfl ?_; refine Same.upd rfl ?_; refine Same.upd rfl ?_; refine Same.upd rfl ?_; refine Same.upd rfl ?_; refine Same.upd rfl ?_; refine Same.upd rfl ?_; refine Same.upd rfl ?_; refine Same.upd rfl ?_; refine Same.upd rfl ?_; refine Same.upd rfl ?_; refine Same.upd rfl ?_; exact Same.ovN)), q.d.length - (k + 1), by omega, k + 1, v, rs, congrArg (Value.int .i64) (by omega), rfl, by omega, by omega, rfl, by omega, hOn1, hK1, hO.ext hS1'.ext, fun x hx => (hRs x hx).ext hS1'.ext, ?_⟩
        rw [hS1 k hik hkl, if_neg hh, List.append_nil]; exact hrs
    · obtain rfl : k = q.d.length := by omega
      obtain ⟨m', hm', hok'⟩ := hKk.km
      have hil : ∀ x ∈ rs, x.2.2.length ≤ 1000 := by
        intro x hx
        have h1 : x.2.2 ∈ rs.map (·.2.2) := List.mem_map.2 ⟨x, hx, rfl⟩
        rw [hrs, List.mem_cons] at h1
        rcases h1 with h1 | h1
        · rw [h1]; simp
        · obtain ⟨j, hj, h2⟩ := List.mem_map.1 h1
          have hj2 := (upR_mem.1 (List.mem_filter.1 hj).1).2
          have h3 := pathK_len hb j hj2
          have h4 := hb.le j hj2
          rw [← h2]; omega
      have hne : rs ≠ [] := by rintro rfl; simp at hrs
      obtain ⟨av, cv, rfl⟩ := hO.slice
      rw [List.length_map] at hO
      rw [List.length_map]
      (refine jjB ?_; refine jjB ?_; refine jjC ?_; apply jI; exact eI rfl; refine jN rfl rfl rfl ?_; refine jh rfl ?_; refine jja rfl rfl (by omega) ?_; refine jz ?_; refine jjK rfl ?_; refine jjE ?_; refine jjB ?_)
      refine W.draw (fun wq => Only q.kmb w' wq) ?_
      intro w1 hS1'
      have hO1 : Only q.kmb w' w1 := .ofExt hS1'.ext
      refine jjV [0, 1, 2, 4, 5] (by decide +kernel) hO1 ?_
      (((apply jjT; exact rfl; rintro wq hq; have := hq.atM hm' hKk.kn; have := hq.atM hm' hKk.lg; refine jN rfl rfl rfl ?_; refine jz ?_; exact ⟨rfl, rfl⟩; apply jjT; exact rfl; rintro wq hq; have := hq.atM hm' hKk.kn; have := hq.atM hm' hKk.lg; apply jI; exact eI rfl; refine jz ?_; exact ⟨rfl, rfl⟩; apply jjT; exact rfl; rintro wq hq; have := hq.atM hm' hKk.kn; have := hq.atM hm' hKk.lg; apply jI; exact eI rfl; refine jz ?_; exact ⟨rfl, rfl⟩; apply jjT; exact rfl; rintro wq hq; have := hq.atM hm' hKk.kn; have := hq.atM hm' hKk.lg; apply jI; exact eS rfl; refine jz ?_; exact ⟨rfl, rfl⟩; apply jjT; exact rfl; rintro wq hq; have := hq.atM hm' hKk.kn; have := hq.atM hm' hKk.lg; refine jN rfl rfl rfl ?_; refine jz ?_; exact ⟨rfl, rfl⟩; refine jjU ?_)))
      have z1 := hS1'.size
      refine jjl 3 6 (by decide +kernel) rfl rfl hO1 ?b1 ?b2
      case b1 =>
        (refine jjP (v := .int _ _) rfl (by exact rfl) (by exact rfl) (by exact rfl) (by exact rfl) ?_; intro b8 w_b8 hb_b8 hs_b8 hS_b8 hk_b8; have hR_b8 := RowV.one (agg := false) (k := 1) rfl hk_b8)
        have z8 := hS_b8.size
        refine jz ?_
        have hE18 : Ext w' w_b8 := hS1'.ext.trans hS_b8.ext
        apply jjW 6 (by decide +kernel) rfl (Only.ofExt hE18)
        have i1 : RowI w_b8 (.slice av rs.length cv) false 1 (rs.map encW) := ⟨(hO.ext hE18).row⟩
        have i2 : RowsI w_b8 rs := ⟨fun x hx => ((hRs x hx).ext hE18).row⟩
        refine jjQ (first_rack av cv rs _ (by omega) hne (fun x hx => by have := hil x hx; omega)) rfl rfl ?_
        rintro _ w3 hS3 ⟨x, hx, rfl, hxe⟩
        refine jz ?_
        have hE8 : Ext w' w3 := hE18.trans hS3.ext
        have z3 := hE8.size
        apply jjW 7 (by decide +kernel) rfl (Only.ofExt hE8)
        have hO8 := (OwnL.one (agg := false) (k := 1) (B := w'.heap.size) rfl (by omega) hk_b8).ext hS3.ext
        have hRx := ((hRs x hx).ext hE8).row
        have hLn : ([Value.int .i64 (i : Int)] ++ x.2.2.map intV) = (pathK q.d q.C i).map intV := by rw [pathK_first hb hi, hxe, hrs]; rfl
        have hxl : x.2.2.length ≤ 1000 := hil x hx
        refine Ops.appendL hO8 (by omega) hRx rfl rfl rfl rfl (all_ints' _) ?_ ?_ ?_
        · simp only [List.length_map, List.length_cons, List.length_nil]; omega
        · simp only [List.length_map, List.length_cons, List.length_nil]; omega
        intro v9 w9 hA9 hO9 _ _
        rw [hLn] at hO9
        obtain ⟨a9, c9, e9⟩ := hO9.slice
        rw [List.length_map] at e9
        subst e9
        refine jz ?_
        have hE9 : Ext w' w9 := hA9.ext hE8 (Nat.le_refl _)
        have hm9 := hm'.ext hE9
        apply jjW 8 (by decide +kernel) rfl (Only.ofExt hE9)
        refine Ops.mapUpdate hm9 rfl rfl rfl ?_
        intro w10 o10 hp10 hm10
        refine jz ?_
        have hO10 : Only q.kmb w' w10 := (Only.ofExt hE9).trans (.ofPut hp10)
        refine jjX (by decide +kernel) hO10 ?_
        have hP10 : IsP q w10 i (.slice a9 (pathK q.d q.C i).length c9) := ⟨a9, c9, rfl, (Only.ofPut hp10).own' (hO9.mono (Nat.zero_le _)) (hO9.blockM hm9)⟩
        have hK10 : KV q w10 := hKk.only hO10 (by
          refine ⟨_, hm10, fun n u hu => ?_⟩
          by_cases hn : n = (i : Int)
          · subst hn
            rw [mget_set_same] at hu
            obtain rfl := Option.some.inj hu
            exact ⟨i, rfl, hi, hP10⟩
          · rw [mget_set_other _ _ hn] at hu
            obtain ⟨k', h1, h2, h3⟩ := hok' n u hu
            exact ⟨k', h1, h2, h3.only hm' hO10⟩)
        have hkn10 := hK10.kn
        (refine jjB ?_; refine jjC ?_; refine jN rfl rfl rfl ?_; apply jI; exact eI rfl)
        refine Ops.lookup hm10 rfl rfl ?_
        rw [mget_set_same]
        (apply jJ; exact eS rfl; refine jz ?_; refine jjF ?_)
        exact jB rfl rfl ⟨_, rfl, hP10, hOn.trans hO10, hK10⟩
      case b2 =>
        have i1 : RowI w1 (.slice av rs.length cv) false 1 (rs.map encW) := ⟨(hO.ext hS1'.ext).row⟩
        have i2 : RowsI w1 rs := ⟨fun x hx => ((hRs x hx).ext hS1'.ext).row⟩
        refine jjQ (first_rack av cv rs _ (by omega) hne (fun x hx => by have := hil x hx; omega)) rfl rfl ?_
        rintro _ w3 hS3 ⟨x, hx, rfl, hxe⟩
        refine jz ?_
        have hE13 : Ext w' w3 := hS1'.ext.trans hS3.ext
        have z3 := hE13.size
        apply jjW 3 (by decide +kernel) rfl (Only.ofExt hE13)
        (refine jjP (v := .int _ _) rfl (by exact rfl) (by exact rfl) (by exact rfl) (by exact rfl) ?_; intro b8 w_b8 hb_b8 hs_b8 hS_b8 hk_b8; have hR_b8 := RowV.one (agg := false) (k := 1) rfl hk_b8)
        have z8 := hS_b8.size
        refine jz ?_
        have hE8 : Ext w' w_b8 := hE13.trans hS_b8.ext
        apply jjW 7 (by decide +kernel) rfl (Only.ofExt hE8)
        have hO8 := OwnL.one (agg := false) (k := 1) (B := w'.heap.size) rfl (by omega) hk_b8
        have hRx := ((hRs x hx).ext hE8).row
        have hLn : ([Value.int .i64 (i : Int)] ++ x.2.2.map intV) = (pathK q.d q.C i).map intV := by rw [pathK_first hb hi, hxe, hrs]; rfl
        have hxl : x.2.2.length ≤ 1000 := hil x hx
        refine Ops.appendL hO8 (by omega) hRx rfl rfl rfl rfl (all_ints' _) ?_ ?_ ?_
        · simp only [List.length_map, List.length_cons, List.length_nil]; omega
        · simp only [List.length_map, List.length_cons, List.length_nil]; omega
        intro v9 w9 hA9 hO9 _ _
        rw [hLn] at hO9
        obtain ⟨a9, c9, e9⟩ := hO9.slice
        rw [List.length_map] at e9
        subst e9
        refine jz ?_
        have hE9 : Ext w' w9 := hA9.ext hE8 (Nat.le_refl _)
        have hm9 := hm'.ext hE9
        apply jjW 8 (by decide +kernel) rfl (Only.ofExt hE9)
        refine Ops.mapUpdate hm9 rfl rfl rfl ?_
        intro w10 o10 hp10 hm10
        refine jz ?_
        have hO10 : Only q.kmb w' w10 := (Only.ofExt hE9).trans (.ofPut hp10)
        refine jjX (by decide +kernel) hO10 ?_
        have hP10 : IsP q w10 i (.slice a9 (pathK q.d q.C i).length c9) := ⟨a9, c9, rfl, (Only.ofPut hp10).own' (hO9.mono (Nat.zero_le _)) (hO9.blockM hm9)⟩
        have hK10 : KV q w10 := hKk.only hO10 (by
          refine ⟨_, hm10, fun n u hu => ?_⟩
          by_cases hn : n = (i : Int)
          · subst hn
            rw [mget_set_same] at hu
            obtain rfl := Option.some.inj hu
            exact ⟨i, rfl, hi, hP10⟩
          · rw [mget_set_other _ _ hn] at hu
            obtain ⟨k', h1, h2, h3⟩ := hok' n u hu
            exact ⟨k', h1, h2, h3.only hm' hO10⟩)
        have hkn10 := hK10.kn
        (refine jjB ?_; refine jjC ?_; refine jN rfl rfl rfl ?_; apply jI; exact eI rfl)
        refine Ops.lookup hm10 rfl rfl ?_
        rw [mget_set_same]
        (apply jJ; exact eS rfl; refine jz ?_; refine jjF ?_)
        exact jB rfl rfl ⟨_, rfl, hP10, hOn.trans hO10, hK10⟩
end Go.Proofs.YtpijeomnplmakaaGreatDoor

/- rack: keep, Keep. -/
namespace Go.Proofs.YtpijeomnplmakaaGreatDoor
open Go.RowKit

/-- The numbers are there. -/
theorem beg_exists : ∀ d : List Int, ∃ C, BegR d C
  | [] => ⟨[], rfl, by simp, by simp, by simp⟩
  | x :: d => by
    obtain ⟨C, h⟩ := beg_exists d
    have hv : ∀ n, n ≤ d.length → ∃ v : Int, 1 ≤ v ∧ (∀ k, k < n → x ≤ gd d k → gd C k + 1 ≤ v) ∧ (v = 1 ∨ ∃ k, k < n ∧ x ≤ gd d k ∧ v = gd C k + 1) := by
      intro n
      induction n with
      | zero => intro _; exact ⟨1, by omega, by intros; omega, .inl rfl⟩
      | succ n ih =>
        intro hn
        obtain ⟨v, h1, h2, h3⟩ := ih (by omega)
        by_cases hc : x ≤ gd d n ∧ v < gd C n + 1
        · refine ⟨gd C n + 1, by omega, fun k hk hx => ?_, .inr ⟨n, by omega, hc.1, rfl⟩⟩
          by_cases e : k = n
          · subst e; omega
          · have := h2 k (by omega) hx; omega
        · refine ⟨v, h1, fun k hk hx => ?_, ?_⟩
          · by_cases e : k = n
            · subst e; omega
            · exact h2 k (by omega) hx
          · rcases h3 with h3 | ⟨k, hk, h4⟩
            · exact .inl h3
            · exact .inr ⟨k, by omega, h4⟩
    obtain ⟨v, h1, h2, h3⟩ := hv d.length (Nat.le_refl _)
    have gs : ∀ (y : Int) (l : List Int) (k : Nat), gd (y :: l) (k + 1) = gd l k := fun y l k => by simp [gd]
    have gz : ∀ (y : Int) (l : List Int), gd (y :: l) 0 = y := fun y l => by simp [gd]
    refine ⟨v :: C, by simp [h.len], ?_, ?_, ?_⟩
    · intro i hi
      cases i with
      | zero => rw [gz]; exact h1
      | succ i => rw [gs]; exact h.pos i (by simpa using hi)
    · intro i k hik hk hd
      obtain ⟨k, rfl⟩ : ∃ k', k = k' + 1 := ⟨k - 1, by omega⟩
      rw [List.length_cons] at hk
      cases i with
      | zero =>
        rw [gz, gs] at hd ⊢
        exact h2 k (by omega) hd
      | succ i =>
        rw [gs, gs] at hd ⊢
        exact h.up i k (by omega) (by omega) hd
    · intro i hi
      rw [List.length_cons] at hi
      cases i with
      | zero =>
        rw [gz]
        rcases h3 with h3 | ⟨k, hk, h4, h5⟩
        · exact .inl h3
        · exact .inr ⟨k + 1, by omega, by simp; omega, by rw [gz, gs]; exact h4, by rw [gs]; exact h5⟩
      | succ i =>
        rw [gs]
        rcases h.ex i (by omega) with h3 | ⟨k, hk, h4, h5, h6⟩
        · exact .inl h3
        · exact .inr ⟨k + 1, by omega, by simp; omega, by rw [gs, gs]; exact h5, by rw [gs]; exact h6⟩

set_option maxHeartbeats 4000000 in
theorem keep_rack (a : Option Addr) (c : Nat) (d C : List Int) (w : World) (hb : BegR d C) (hd : d.length ≤ 1000) [hrow : RowI w (.slice a d.length c) false 1 (d.map intV)] :
    Ct Tryz.prog 71 [.slice a d.length c] w fun v w' => ∃ a' c', v = .slice a' (keepK d C).length c' ∧ OwnL w' w.heap.size 3 false 1 (.slice a' (keepK d C).length c') ((keepK d C).map intV) := by
  refine Ct.ofW (by simp) ?_
  (refine jjB ?_; refine jjC ?_)
  (refine jy rfl ?_; intro b1 w_b1 hb_b1 hs_b1 hS_b1 hk_b1; have hA_b1 := At.ofBlock hk_b1)
  (apply jJ; exact eS rfl; refine jz ?_; refine jjB ?_; refine jjC ?_)
  (apply jjR rfl; (intro _; first|exact eI rfl|exact eB rfl|exact eP rfl|exact eS rfl|exact eT rfl|exact eA rfl|exact eU rfl|exact eF rfl|exact eM rfl|exact eN rfl|exact rfl); exact rfl; exact rfl; exact rfl; exact rfl; intro b3 w_b3 hb_b3 hs_b3 hS_b3 hk_b3; have hA_b3 := Bk.of hk_b3)
  (refine jz ?_; refine jjB ?_; refine jjC ?_)
  refine Ops.makeMap (Value.int .i64) ?_
  intro kmb w1 hkb hs1 hS1 hM1
  skip
  (apply jjR rfl; (intro _; first|exact eI rfl|exact eB rfl|exact eP rfl|exact eS rfl|exact eT rfl|exact eA rfl|exact eU rfl|exact eF rfl|exact eM rfl|exact eN rfl|exact rfl); exact rfl; exact rfl; exact rfl; exact rfl; intro b4 w_b4 hb_b4 hs_b4 hS_b4 hk_b4; have hA_b4 := Bk.of hk_b4)
  (((refine jz ?_; refine jjB ?_; refine jjC ?_)); refine jjY ?_; intro b5 w_b5 hb_b5 hs_b5 hS_b5 hk_b5; have hA_b5 := Bk.of hk_b5)
  (refine jz ?_; refine jjB ?_; refine jjC ?_; refine jv ?_)
  refine Ops.store rfl rfl rfl rfl rfl ?_
  intro w4 hp4
  have hS4 : Step w_b4 w4 := (hp4.ext hS_b5.ext (by omega)).toStep
  have z4 := hp4.size
  have hlt := hrow
  have e4 : Ext w1 w4 := (hS_b4.ext).trans hS4.ext
  have hE4 : Ext w w4 := inferInstance
  have hm4 : MapE (Value.int .i64) w4 kmb [] := hM1.ext e4
  have hK : KV ⟨b4, b1, b5, b3, kmb, a, c, d, C⟩ w4 := ⟨inferInstance, inferInstance, (Bk.of (cs := [.func (.func 104) #[] [.pointer (some ⟨b4, 0, none⟩), .pointer (some ⟨b1, 0, none⟩), .pointer (some ⟨b5, 0, none⟩), .pointer (some ⟨b3, 0, none⟩)].toArray]) hp4.new).toAt, inferInstance, hrow.h.ext hE4, ⟨[], hm4, fun n v hv => by simp [mget] at hv⟩⟩
  have hkmb : w.heap.size ≤ kmb := by have := (inferInstance : Ext w w_b3).size; omega
  have hkm4 : kmb < w4.heap.size := hm4.lt
  have hfrom : ∀ (m i : Nat) (w : World), d.length - i ≤ m → i < d.length → KV ⟨b4, b1, b5, b3, kmb, a, c, d, C⟩ w → Calls Tryz.prog 104 ([Value.int .i64 (i : Int)] ++ [Value.pointer (some ⟨b4, 0, none⟩), .pointer (some ⟨b1, 0, none⟩), .pointer (some ⟨b5, 0, none⟩), .pointer (some ⟨b3, 0, none⟩)]).toArray w fun e w' => ∃ v, e = .returned v ∧ (∃ a c, v = .slice a (pathK d C i).length c ∧ OwnL w' 0 3 false 1 (.slice a (pathK d C i).length c) ((pathK d C i).map intV)) ∧ Only kmb w w' ∧ KV ⟨b4, b1, b5, b3, kmb, a, c, d, C⟩ w' := from_rack ⟨b4, b1, b5, b3, kmb, a, c, d, C⟩ hb hd
  (refine jz ?_; refine jjB ?_; refine jjC ?_)
  (refine jjP (v := .slice _ _ _) rfl (by exact rfl) (by exact rfl) (by exact rfl) (by exact rfl) ?_; intro b6 w_b6 hb_b6 hs_b6 hS_b6 hk_b6; have hR_b6 := RowV.one (agg := false) (k := 1) rfl hk_b6)
  have hO6 := OwnL.one (agg := false) (k := 1) (B := w4.heap.size) rfl (by omega) hk_b6
  (apply jJ; exact eS rfl; refine jz ?_; refine jjB ?_; refine jjB ?_; refine jjC ?_; refine jN rfl rfl rfl ?_; refine jh rfl ?_; apply jI; exact eI rfl; refine jz ?_; refine jjD ?_)
  have hE6 : Ext w4 w_b6 := inferInstance
  refine W.keep0 [(3, .pointer (some ⟨b3, 0, none⟩)), (5, .pointer (some ⟨b5, 0, none⟩)), (6, .slice (some ⟨b6, 0, none⟩) 1 1), (12, .int .i64 ((d.length : Nat) : Int)), (13, .int .i64 ((0 : Nat) : Int))] ⟨eP rfl, eP rfl, eS rfl, eI rfl, eI rfl, trivial⟩ fun s0 => ?_
  refine W.loopG (14 :: 15 :: 7 :: 16 :: 17 :: 18 :: 19 :: 20 :: 21 :: 6 :: 22 :: 13 :: []) (fun g s' w' => ∃ (k : Nat) (v : Value) (rs : List Rw), s' 13 = .int .i64 ((k : Nat) : Int) ∧ s' 6 = v ∧ k ≤ d.length ∧ g = d.length - k ∧ rs.length ≤ k + 1 ∧ Only kmb w4 w' ∧ KV ⟨b4, b1, b5, b3, kmb, a, c, d, C⟩ w' ∧ OwnL w' w4.heap.size 26 false 1 v (rs.map encW) ∧ (∀ x ∈ rs, OwnL w' 0 3 false 1 (encW x) (x.2.2.map intV)) ∧ rs.map (·.2.2) = [] :: (upR 0 k).map (pathK d C)) d.length ⟨0, _, [(none, 0, [])], rfl, rfl, Nat.zero_le _, rfl, by simp, .ofExt hE6, hK.ext hE6, hO6, by intro x hx; simp at hx; subst hx; exact OwnL.nil _ _ _ _ _, by rw [upR_nil (Nat.le_refl _)]; rfl⟩ ?_
  rintro _ sd w' ⟨k, v, rs, h13, h6, hkn, rfl, hrl, hOn, hKk, hO, hRs, hrs⟩
  refine W.fix h13 (W.fix (d := 6) h6 ?_)
  clear h13 h6
  have z' := hOn.size
  have hff : At w' b5 0 [.func (.func 104) #[] [.pointer (some ⟨b4, 0, none⟩), .pointer (some ⟨b1, 0, none⟩), .pointer (some ⟨b5, 0, none⟩), .pointer (some ⟨b3, 0, none⟩)].toArray] := hKk.ff
  have hlg : At w' b3 0 [.func (.func 102) #[] #[]] := hKk.lg
  by_cases hkl : k < d.length
  · (refine jjB ?_; refine jjC ?_; refine jjZ rfl rfl (by omega) ?_; refine jz ?_; refine jjB ?_; refine jjJ rfl ?_; refine jjG ?_; refine jjB ?_; refine jjD ?_; refine jjB ?_; refine jjC ?_; apply jI; exact eI rfl; apply jJ; exact eI rfl; refine jz ?_; refine jjC ?_; apply jI; exact rfl; refine jN rfl rfl rfl ?_; apply jI; exact eI rfl)
    refine Ops.callR rfl (Enters.h (P := Tryz.prog) (g := 104)) rfl (hfrom _ k _ (Nat.le_refl _) hkl hKk) ?_
    rintro _ w2 ⟨v2, rfl, ⟨a2, c2, rfl, hR2⟩, hOn2, hK2⟩
    refine ⟨_, rfl, ?_⟩
    (refine jjP (v := .slice _ _ _) rfl (by exact rfl) (by exact rfl) (by exact rfl) (by exact rfl) ?_; intro b8 w_b8 hb_b8 hs_b8 hS_b8 hk_b8; have hR_b8 := RowV.one (agg := false) (k := 1) rfl hk_b8)
    have z2 := hOn2.size
    have z8 := hS_b8.size
    obtain ⟨m1, hm1, _⟩ := hKk.km
    have hm1' : MapE (Value.int .i64) w' kmb m1 := hm1
    have hOr := hOn2.own hO hkm4
    refine Ops.appendL (hOr.ext hS_b8.ext) (by omega) hR_b8 rfl rfl rfl rfl rfl ?_ ?_ ?_
    · simp only [List.length_map, List.length_cons, List.length_nil]; omega
    · simp only [List.length_map, List.length_cons, List.length_nil]; omega
    intro v9 w9 hA9 hO9 _ _
    have hEA : Only kmb w4 w9 := (hOn.trans (hOn2.trans (.ofExt hS_b8.ext))).app hA9 (Nat.le_refl _)
    have hKb : v.ownBlock ≠ some kmb := fun e => by have := (hO.block _ e).1; omega
    have hrow9 : ∀ (x : Rw), OwnL w2 0 3 false 1 (encW x) (x.2.2.map intV) → OwnL w9 0 3 false 1 (encW x) (x.2.2.map intV) := fun x hx => (hx.ext hS_b8.ext).app hA9 ((hx.ext hS_b8.ext).ne (hOr.ext hS_b8.ext) (by decide))
    have hK9 : KV ⟨b4, b1, b5, b3, kmb, a, c, d, C⟩ w9 := hK.only hEA (by
      obtain ⟨m2, hm2, hok2⟩ := hK2.km
      refine ⟨m2, (hm2.ext hS_b8.ext).app hA9 hKb, fun n u hu => ?_⟩
      obtain ⟨k', h1, h2, a', c', h3, h4⟩ := hok2 n u hu
      exact ⟨k', h1, h2, a', c', h3, hrow9 (a', c', pathK d C k') h4⟩)
    (apply jJ; exact rfl; refine jz ?_; refine jjC ?_; refine jY rfl rfl (by omega) ?_; apply jI; exact eI rfl; refine jz ?_)
    refine ⟨rfl, by ((refine Same.upd rfl ?_; refine Same.upd rfl ?_; refine Same.upd rfl ?_; refine Same.upd rfl ?_; refine Same.upd rfl ?_; refine Same.upd rfl ?_; refine Same.upd rfl ?_; refine Same.upd rfl ?_; refine Same.upd rfl ?_; refine Same.upd rfl ?_; refine Same.upd rfl ?_; refine Same.upd rfl ?_; refine Same.upd rfl ?_; refine Same.upd rfl ?_; exact Same.ovN)), d.length - (k + 1), by omega, k + 1, v9, rs ++ [(a2, c2, pathK d C k)], congrArg (Value.int .i64) (by omega), rfl, by omega, rfl, by rw [List.length_append]; simp only [List.length_cons, List.length_nil]; omega, hEA, hK9, by rw [List.map_append]; exact hO9, ?_, ?_⟩
    · intro x hx
      rcases List.mem_append.1 hx with hx | hx
      · exact hrow9 x (hOn2.own' (hRs x hx) ((hRs x hx).blockM hm1'))
      · have : x = (a2, c2, pathK d C k) := by simpa using hx
        subst this
        exact hrow9 (a2, c2, pathK d C k) hR2
    · rw [upR_snoc (Nat.zero_le _), List.map_append, List.map_append, hrs]; rfl
  · obtain rfl : k = d.length := by omega
    have hil : ∀ x ∈ rs, x.2.2.length ≤ 1000 := by
      intro x hx
      have h1 : x.2.2 ∈ rs.map (·.2.2) := List.mem_map.2 ⟨x, hx, rfl⟩
      rw [hrs, List.mem_cons] at h1
      rcases h1 with h1 | h1
      · rw [h1]; simp
      · obtain ⟨j, hj, h2⟩ := List.mem_map.1 h1
        have hj2 := (upR_mem.1 hj).2
        have h3 := pathK_len hb j hj2
        have h4 := hb.le j hj2
        rw [← h2]; omega
    have hne : rs ≠ [] := by rintro rfl; simp at hrs
    obtain ⟨av, cv, rfl⟩ := hO.slice
    rw [List.length_map] at hO
    rw [List.length_map]
    have i1 : RowI w' (.slice av rs.length cv) false 1 (rs.map encW) := ⟨hO.row⟩
    have i2 : RowsI w' rs := ⟨fun x hx => (hRs x hx).row⟩
    (refine jjB ?_; refine jjC ?_; refine jja rfl rfl (by omega) ?_; refine jz ?_; refine jjB ?_; refine jjK rfl ?_; refine jjE ?_; refine jjB ?_; refine jjC ?_; apply jI; exact eS rfl; refine jN rfl rfl rfl ?_)
    refine jjQ (first_rack av cv rs _ (by omega) hne (fun x hx => by have := hil x hx; omega)) rfl rfl ?_
    rintro _ w3 hS3 ⟨x, hx, rfl, hxe⟩
    have hxl := hil x hx
    have hRx : RowI w3 (.slice x.1 x.2.2.length x.2.1) false 1 (x.2.2.map intV) := ⟨((hRs x hx).ext hS3.ext).row⟩
    have hke : x.2.2 = keepK d C := by rw [hxe, hrs]; rfl
    have hEw : Ext w w' := hOn.ext hE4 hkmb
    have hE3 := hEw.trans hS3.ext
    have z3 := hE3.size
    skip
    refine jjQ (Clone_int x.1 x.2.1 x.2.2 _ (by omega)) rfl rfl ?_
    intro v10 w10 hS10 hO10
    rw [hke] at hO10
    obtain ⟨a10, c10, rfl⟩ := OwnL.slice hO10
    rw [List.length_map] at hO10
    have hE10 := hE3.trans hS10.ext
    (apply jJ; exact eS rfl; refine jz ?_; refine jjF ?_; refine jB rfl rfl ⟨inferInstance, ?_⟩)
    exact ⟨a10, c10, by rw [List.length_map]; exact rfl, hO10.mono z3⟩

/-- What Keep answers. -/
def KeepA (d : List Int) (v : Value) (w' : World) : Prop := ∃ (l : List Int) (e : Int) (a : Option Addr) (c : Nat), v = .tuple #[.slice a l.length c, .int .i64 e] ∧ RowV w' false 1 (.slice a l.length c) (l.map intV) ∧
  ((deckB d = false ∧ l = [] ∧ e = 60) ∨ (deckB d = true ∧ e = 0 ∧ ∃ C, BegR d C ∧ l = keepK d C))
theorem Keep_rack (a : Option Addr) (c : Nat) (d : List Int) (w : World) [hrow : RowI w (.slice a d.length c) false 1 (d.map intV)] (hl : d.length ≤ 1000000) :
    Ct Tryz.prog 36 [.slice a d.length c] w fun v w' => KeepA d v w' := by
  refine Ct.ofW (by simp) ?_
  (refine jjB ?_; refine jjC ?_; apply jJ; exact eS rfl; apply jJ; exact eI rfl; refine jz ?_; refine jjB ?_; refine jjB ?_; refine jjC ?_; apply jI; exact eS rfl)
  refine jjQ (Check_rack a c d _ hl) rfl rfl ?_
  rintro _ w2 hS2 rfl
  cases hd : deckB d
  · (apply jJ; exact eI rfl; refine jz ?_; refine jjB ?_; refine jjC ?_; apply jI; exact eI rfl; refine jc rfl rfl ?_; refine jz ?_; refine jjJ rfl ?_; refine jjB ?_; refine jjC ?_; apply jI; exact eI rfl; apply jJ; exact eS rfl; apply jJ; exact eI rfl; refine jz ?_; refine jjF ?_; refine jC rfl rfl rfl ⟨inferInstance, ?_⟩)
    exact ⟨[], 60, none, 0, rfl, RowV.nilS _ _ _ _ _, .inl ⟨hd, rfl, rfl⟩⟩
  · have hd60 := deckB_len hd
    obtain ⟨C, hC⟩ := beg_exists d
    (apply jJ; exact eI rfl; refine jz ?_; refine jjB ?_; refine jjC ?_; apply jI; exact eI rfl; refine jc rfl rfl ?_; refine jz ?_; refine jjK rfl ?_; refine jjG ?_; refine jjB ?_; refine jjC ?_; apply jI; exact eS rfl)
    refine jjQ (keep_rack a c d C _ hC (by omega)) rfl rfl ?_
    rintro _ w3 hS3 ⟨a3, c3, rfl, hO3⟩
    (apply jJ; exact eS rfl; apply jJ; exact eI rfl; refine jz ?_; refine jjF ?_; refine jC rfl rfl rfl ⟨inferInstance, ?_⟩)
    exact ⟨keepK d C, 0, a3, c3, rfl, hO3.row, .inr ⟨hd, rfl, C, hC, rfl⟩⟩
end Go.Proofs.YtpijeomnplmakaaGreatDoor

/- rack: Mend. -/
namespace Go.Proofs.YtpijeomnplmakaaGreatDoor
open Go.RowKit

theorem Only.thru {kb g : Nat} {w0 w w' : World} (h : Only kb w0 w) (o : Only g w w') (hg : w0.heap.size ≤ g) : Only kb w0 w' :=
  ⟨o.os.trans h.os, o.tape.trans h.tape, o.output.trans h.output, Nat.le_trans h.size o.size, fun k hk hne => (o.other k (by have := h.size; omega) (by omega)).trans (h.other k hk hne)⟩
/-! Keys that are there once -/
abbrev NdK (m : List (Int × Value)) : Prop := (m.map (·.1)).Nodup
theorem mset_keys (m : List (Int × Value)) (k : Int) (v : Value) : ∀ x, x ∈ (mset m k v).map (·.1) → x = k ∨ x ∈ m.map (·.1) := by
  induction m with
  | nil => intro x hx; simp [mset] at hx; exact .inl hx
  | cons p m ih =>
    obtain ⟨y, u⟩ := p
    intro x hx
    rw [mset] at hx
    split at hx
    · subst_vars; exact .inr hx
    · simp only [List.map_cons, List.mem_cons] at hx ⊢
      rcases hx with hx | hx
      · exact .inr (.inl hx)
      · rcases ih x hx with h | h
        · exact .inl h
        · exact .inr (.inr h)
theorem NdK.set {m : List (Int × Value)} (h : NdK m) (k : Int) (v : Value) : NdK (mset m k v) := by
  induction m with
  | nil => simp [NdK, mset]
  | cons p m ih =>
    obtain ⟨y, u⟩ := p
    simp only [NdK, List.map_cons, List.nodup_cons] at h
    rw [mset]
    split
    · subst_vars; simp only [NdK, List.map_cons, List.nodup_cons]; exact h
    · simp only [NdK, List.map_cons, List.nodup_cons]
      refine ⟨fun hc => ?_, ih h.2⟩
      rcases mset_keys m k v y hc with e | e
      · rename_i hne; exact hne e.symm
      · exact h.1 e
theorem mget_no {m : List (Int × Value)} {k : Int} (h : k ∉ m.map (·.1)) : mget m k = none := by
  induction m with
  | nil => rfl
  | cons p m ih =>
    obtain ⟨y, u⟩ := p
    simp only [List.map_cons, List.mem_cons, not_or] at h
    rw [mget, if_neg h.1, ih h.2]
theorem NdK.del {m : List (Int × Value)} (h : NdK m) (k : Int) : NdK (mdel m k) ∧ (∀ x, x ∈ (mdel m k).map (·.1) → x ∈ m.map (·.1)) ∧ ∀ x, mget (mdel m k) x = if x = k then none else mget m x := by
  induction m with
  | nil => simp [NdK, mdel, mget]
  | cons p m ih =>
    obtain ⟨y, u⟩ := p
    simp only [NdK, List.map_cons, List.nodup_cons] at h
    obtain ⟨i1, i2, i3⟩ := ih h.2
    rw [mdel]
    split
    · subst_vars
      refine ⟨h.2, fun x hx => by simp only [List.map_cons, List.mem_cons]; exact .inr hx, fun x => ?_⟩
      rw [mget]
      by_cases e : x = y
      · subst e; rw [if_pos rfl, mget_no h.1]
      · rw [if_neg e, if_neg e]
    · rename_i hne
      refine ⟨?_, fun x hx => ?_, fun x => ?_⟩
      · simp only [NdK, List.map_cons, List.nodup_cons]
        exact ⟨fun hc => h.1 (i2 y hc), i1⟩
      · simp only [List.map_cons, List.mem_cons] at hx ⊢
        exact hx.imp id (i2 x)
      · rw [mget, mget, i3]
        by_cases e : x = y
        · subst e; rw [if_pos rfl, if_pos rfl, if_neg (fun h => hne h.symm)]
        · rw [if_neg e, if_neg e]
/-- The map of those that fell. -/
structure fallM (n : Nat) (S : List Int) (m : List (Int × Value)) : Prop where
  nd : NdK m
  get : ∀ x : Int, mget m x = if (0 ≤ x ∧ x < n) ∧ x ∉ S then some (.bool true) else none
theorem fallM.del {n : Nat} {S : List Int} {m : List (Int × Value)} (h : fallM n S m) (k : Int) : fallM n (k :: S) (mdel m k) := by
  obtain ⟨h1, _, h2⟩ := h.nd.del k
  refine ⟨h1, fun x => ?_⟩
  rw [h2, h.get]
  by_cases e : x = k
  · rw [if_pos e, if_neg (fun c => c.2 (by rw [e]; exact List.mem_cons_self))]
  · rw [if_neg e]
    congr 1
    simp [e]
theorem fallM.set {i : Nat} {m : List (Int × Value)} (h : fallM i [] m) : fallM (i + 1) [] (mset m (i : Int) (.bool true)) := by
  refine ⟨h.nd.set _ _, fun x => ?_⟩
  by_cases e : x = (i : Int)
  · subst e
    rw [mget_set_same, if_pos ⟨by omega, by simp⟩]
  · rw [mget_set_other _ _ e, h.get]
    by_cases c : 0 ≤ x ∧ x < (i : Int)
    · rw [if_pos ⟨c, by simp⟩, if_pos ⟨by omega, by simp⟩]
    · rw [if_neg (fun h => c h.1), if_neg (fun h => c (by omega))]

set_option maxHeartbeats 1000000 in
theorem Mend1_rack (b5 b1 b11 mb : Nat) (a : Option Addr) (c : Nat) (d S : List Int) (i k : Nat) (m : List (Int × Value)) (w : World) [h5 : At w b5 0 [.map (some mb)]] [h1 : At w b1 0 [.slice a d.length c]] [h11 : At w b11 0 [.int .i64 (i : Int)]] (hm : MapE (Value.int .i64) w mb m) (hf : fallM d.length S m) (hi : i < d.length) (hk : k < d.length) [hrow : RowI w (.slice a d.length c) false 1 (d.map intV)] :
    Ct Tryz.prog 74 [.int .i64 (k : Int), .pointer (some ⟨b5, 0, none⟩), .pointer (some ⟨b1, 0, none⟩), .pointer (some ⟨b11, 0, none⟩)] w fun v _ => v = .bool (pM d S i (k : Int)) := by
  refine Ct.ofW (by simp) ?_
  have g1 : gd d k = d[k] := gd_lt hk
  have g2 : gd d i = d[i] := gd_lt hi
  have hz := hrow.h.place' (map_get hk)
  obtain ⟨p1, o1, e1, hA1⟩ := hz
  subst e1
  have hz := hrow.h.place' (map_get hi)
  obtain ⟨p2, o2, e2, hA2⟩ := hz
  cases e2
  rw [Nat.mul_one] at hA1 hA2
  (refine jjB ?_; refine jjC ?_; apply jJ; exact eB rfl; refine jz ?_; refine jjB ?_)
  refine W.draw (fun w' => Ext w w') ?_
  intro w1 hS1
  refine jjV [0, 1] (by decide +kernel) hS1.ext ?_
  (((apply jjT; exact rfl; rintro w' hq; have := hq.toStep; refine jN rfl rfl rfl ?_; refine jz ?_; exact ⟨rfl, rfl⟩; apply jjT; exact rfl; rintro w' hq; have := hq.toStep; apply jI; exact eI rfl; refine jz ?_; exact ⟨rfl, rfl⟩; refine jjU ?_)))
  by_cases hS : (k : Int) ∈ S
  · have hv : mget m (k : Int) = none := by rw [hf.get, if_neg (fun h => h.2 hS)]
    refine jjV [2] (by decide +kernel) hS1.ext ?_
    apply jjT
    · exact rfl
    · intro wq hq
      refine Ops.lookup (hm.ext hq) rfl rfl ?_
      rw [hv]
      refine jz ?_
      exact ⟨rfl, rfl⟩
    refine jjU ?_
    refine jjV [3, 4, 5, 6, 7, 8, 9, 10, 11, 12, 13, 14, 15] (by decide +kernel) hS1.ext ?_
    (((apply jjT; exact rfl; rintro w' hq; have := hq.toStep; refine jq rfl ?_; refine jz ?_; exact ⟨rfl, rfl⟩; apply jjT; exact rfl; rintro w' hq; have := hq.toStep; apply jI; exact eB rfl; refine jz ?_; exact ⟨rfl, rfl⟩; apply jjT; exact rfl; rintro w' hq; have := hq.toStep; refine jT rfl rfl rfl ?_; refine jN rfl rfl rfl ?_; refine jz ?_; exact ⟨rfl, rfl⟩; apply jjT; exact rfl; rintro w' hq; have := hq.toStep; refine jT rfl rfl rfl ?_; apply jI; exact eI rfl; refine jz ?_; exact ⟨rfl, rfl⟩; apply jjT; exact rfl; rintro w' hq; have := hq.toStep; refine jT rfl rfl rfl ?_; refine jG rfl rfl rfl (by omega) ?_; refine jz ?_; exact ⟨rfl, rfl⟩; apply jjT; exact rfl; rintro w' hq; have := hq.toStep; refine jT rfl rfl rfl ?_; refine jQ rfl rfl ?_; refine jz ?_; exact ⟨rfl, rfl⟩; apply jjT; exact rfl; rintro w' hq; have := hq.toStep; refine jT rfl rfl rfl ?_; refine jN rfl rfl rfl ?_; refine jz ?_; exact ⟨rfl, rfl⟩; apply jjT; exact rfl; rintro w' hq; have := hq.toStep; refine jT rfl rfl rfl ?_; refine jN rfl rfl rfl ?_; refine jz ?_; exact ⟨rfl, rfl⟩; apply jjT; exact rfl; rintro w' hq; have := hq.toStep; refine jT rfl rfl rfl ?_; refine jG rfl rfl rfl (by omega) ?_; refine jz ?_; exact ⟨rfl, rfl⟩; apply jjT; exact rfl; rintro w' hq; have := hq.toStep; refine jT rfl rfl rfl ?_; refine jQ rfl rfl ?_; refine jz ?_; exact ⟨rfl, rfl⟩; apply jjT; exact rfl; rintro w' hq; have := hq.toStep; refine jT rfl rfl rfl ?_; refine je rfl rfl ?_; refine jz ?_; exact ⟨rfl, rfl⟩; apply jjT; exact rfl; rintro w' hq; have := hq.toStep; apply jK rfl; exact eB rfl; refine jz ?_; exact ⟨rfl, rfl⟩; apply jjT; exact rfl; rintro w' hq; have := hq.toStep; apply jJ; exact eB rfl; refine jz ?_; exact ⟨rfl, rfl⟩; refine jjU ?_)))
    refine jjX (by decide +kernel) hS1.ext ?_
    (refine jjF ?_; refine jB rfl rfl ⟨inferInstance, ?_⟩)
    exact congrArg Value.bool (by rw [pM, decide_eq_true hS, Bool.true_and, Int.toNat_natCast, g1, g2])
  · have hv : mget m (k : Int) = some (.bool true) := by rw [hf.get, if_pos ⟨by omega, hS⟩]
    refine jjV [2] (by decide +kernel) hS1.ext ?_
    apply jjT
    · exact rfl
    · intro wq hq
      refine Ops.lookup (hm.ext hq) rfl rfl ?_
      rw [hv]
      refine jz ?_
      exact ⟨rfl, rfl⟩
    refine jjU ?_
    refine jjV [3, 4, 5, 6, 7, 8, 9, 10, 11, 12, 13, 14, 15] (by decide +kernel) hS1.ext ?_
    (((apply jjT; exact rfl; rintro w' hq; have := hq.toStep; refine jp rfl ?_; refine jz ?_; exact ⟨rfl, rfl⟩; apply jjT; exact rfl; rintro w' hq; have := hq.toStep; apply jI; exact eB rfl; refine jz ?_; exact ⟨rfl, rfl⟩; apply jjT; exact rfl; rintro w' hq; have := hq.toStep; refine jU rfl rfl rfl rfl ?_; refine jz ?_; exact ⟨rfl, rfl⟩; apply jjT; exact rfl; rintro w' hq; have := hq.toStep; refine jU rfl rfl rfl rfl ?_; refine jz ?_; exact ⟨rfl, rfl⟩; apply jjT; exact rfl; rintro w' hq; have := hq.toStep; refine jU rfl rfl rfl rfl ?_; refine jz ?_; exact ⟨rfl, rfl⟩; apply jjT; exact rfl; rintro w' hq; have := hq.toStep; refine jU rfl rfl rfl rfl ?_; refine jz ?_; exact ⟨rfl, rfl⟩; apply jjT; exact rfl; rintro w' hq; have := hq.toStep; refine jU rfl rfl rfl rfl ?_; refine jz ?_; exact ⟨rfl, rfl⟩; apply jjT; exact rfl; rintro w' hq; have := hq.toStep; refine jU rfl rfl rfl rfl ?_; refine jz ?_; exact ⟨rfl, rfl⟩; apply jjT; exact rfl; rintro w' hq; have := hq.toStep; refine jU rfl rfl rfl rfl ?_; refine jz ?_; exact ⟨rfl, rfl⟩; apply jjT; exact rfl; rintro w' hq; have := hq.toStep; refine jU rfl rfl rfl rfl ?_; refine jz ?_; exact ⟨rfl, rfl⟩; apply jjT; exact rfl; rintro w' hq; have := hq.toStep; refine jU rfl rfl rfl rfl ?_; refine jz ?_; exact ⟨rfl, rfl⟩; apply jjT; exact rfl; rintro w' hq; have := hq.toStep; apply jL rfl; exact eB rfl; refine jz ?_; exact ⟨rfl, rfl⟩; apply jjT; exact rfl; rintro w' hq; have := hq.toStep; apply jJ; exact eB rfl; refine jz ?_; exact ⟨rfl, rfl⟩; refine jjU ?_)))
    refine jjX (by decide +kernel) hS1.ext ?_
    (refine jjF ?_; refine jB rfl rfl ⟨inferInstance, ?_⟩)
    exact congrArg Value.bool (by simp [pM, hS])

/-- What Mend answers. -/
def MendR (d : List Int) (v : Value) (w' : World) : Prop := ∃ (l : List (Int × Int)) (e : Int) (a : Option Addr) (c : Nat), v = .tuple #[.slice a l.length c, .int .i64 e] ∧ RowV w' true 2 (.slice a l.length c) (l.map encII) ∧
  ((deckB d = false ∧ l = [] ∧ e = 60) ∨ (deckB d = true ∧ e = 0 ∧ ∃ C, BegR d C ∧ l = (mendF d (keepK d C) d.length).2.2))
theorem keepK_mem {d C : List Int} (h : BegR d C) : ∀ x ∈ keepK d C, 0 ≤ x ∧ x < d.length := by
  have hp : ∀ (m i : Nat), d.length - i = m → i < d.length → ∀ x ∈ pathK d C i, 0 ≤ x ∧ x < d.length := by
    intro m
    induction m using Nat.strongRecOn with
    | ind m ih =>
      intro i hm hi x hx
      rw [pathK_eq hi, List.mem_cons] at hx
      rcases hx with rfl | hx
      · omega
      · cases hk : nextK d C i with
        | none => rw [hk] at hx; simp at hx
        | some k =>
          rw [hk] at hx
          have h1 := nextK_some hk
          exact ih (d.length - k) (by omega) k rfl h1.2.1 x hx
  intro x hx
  rw [keepK_rest h, restK] at hx
  cases hf : (upR 0 d.length).find? (nxB d C none (maxC C)) with
  | none => rw [hf] at hx; simp at hx
  | some k =>
    rw [hf] at hx
    have := upR_mem.1 (List.mem_of_find?_eq_some hf)
    exact hp _ k rfl this.2 x hx

set_option maxHeartbeats 8000000 in
theorem Mend_rack (a : Option Addr) (c : Nat) (d : List Int) (w : World) [hrow : RowI w (.slice a d.length c) false 1 (d.map intV)] (hl : d.length ≤ 1000000) :
    Ct Tryz.prog 35 [.slice a d.length c] w fun v w' => MendR d v w' := by
  refine Ct.ofW (by simp) ?_
  (refine jjB ?_; refine jjC ?_)
  (refine jy rfl ?_; intro b1 w_b1 hb_b1 hs_b1 hS_b1 hk_b1; have hA_b1 := At.ofBlock hk_b1)
  (apply jJ; exact eS rfl; apply jJ; exact eI rfl; refine jz ?_; refine jjB ?_; refine jjB ?_; refine jjC ?_; refine jN rfl rfl rfl ?_)
  refine jjQ (Check_rack a c d _ hl) rfl rfl ?_
  rintro _ w2 hS2 rfl
  cases hd : deckB d
  · (apply jJ; exact eI rfl; refine jz ?_; refine jjB ?_; refine jjC ?_; apply jI; exact eI rfl; refine jc rfl rfl ?_; refine jz ?_; refine jjJ rfl ?_; refine jjB ?_; refine jjC ?_; apply jI; exact eI rfl; apply jJ; exact eS rfl; apply jJ; exact eI rfl; refine jz ?_; refine jjF ?_; refine jC rfl rfl rfl ⟨inferInstance, ?_⟩)
    exact ⟨[], 60, none, 0, rfl, RowV.nilS _ _ _ _ _, .inl ⟨hd, rfl, rfl⟩⟩
  have hd60 := deckB_len hd
  obtain ⟨C, hC⟩ := beg_exists d
  (apply jJ; exact eI rfl; refine jz ?_; refine jjB ?_; refine jjC ?_; apply jI; exact eI rfl; refine jc rfl rfl ?_; refine jz ?_; refine jjK rfl ?_; refine jjG ?_; refine jjB ?_; refine jjC ?_)
  refine Ops.makeMap (Value.int .i64) ?_
  intro mb w3 hmb hs3 hS3 hM3
  skip
  (apply jjR rfl; (intro _; first|exact eI rfl|exact eB rfl|exact eP rfl|exact eS rfl|exact eT rfl|exact eA rfl|exact eU rfl|exact eF rfl|exact eM rfl|exact eN rfl|exact rfl); exact rfl; exact rfl; exact rfl; exact rfl; intro b5 w_b5 hb_b5 hs_b5 hS_b5 hk_b5; have hA_b5 := Bk.of hk_b5)
  (refine jz ?_; refine jjB ?_; refine jjC ?_; apply jJ; exact eS rfl; refine jz ?_; refine jjB ?_; refine jjB ?_; refine jjC ?_; refine jN rfl rfl rfl ?_; refine jh rfl ?_; apply jI; exact eI rfl; refine jz ?_; refine jjD ?_)
  have hE5 : Ext w w_b5 := inferInstance
  have hM5 : MapE (Value.int .i64) w_b5 mb [] := hM3.ext inferInstance
  have z5 := hE5.size
  have zmb : w.heap.size ≤ mb := by have := (inferInstance : Ext w w2).size; omega
  have hA1 : At w_b5 b1 0 [.slice a d.length c] := inferInstance
  have hA5 : At w_b5 b5 0 [.map (some mb)] := inferInstance
  have hn1 : b1 ≠ mb := hA1.ne_map hM5 (by simp)
  have hn5 : b5 ≠ mb := hA5.ne_map hM5 (by simp)
  have lmb := hM5.lt
  have hr5 : RowV w_b5 false 1 (.slice a d.length c) (d.map intV) := hrow.h.ext hE5
  refine W.keep0 [(1, .pointer (some ⟨b1, 0, none⟩)), (5, .pointer (some ⟨b5, 0, none⟩)), (6, .slice none 0 0), (21, .int .i64 ((d.length : Nat) : Int)), (22, .int .i64 ((0 : Nat) : Int))] ⟨eP rfl, eP rfl, eS rfl, eI rfl, eI rfl, trivial⟩ fun s0 => ?_
  refine W.loopG (23 :: 24 :: 7 :: 25 :: 26 :: 27 :: 28 :: 29 :: 30 :: 6 :: 31 :: 22 :: []) (fun g s' V => ∃ (i : Nat) (v : Value) (m : List (Int × Value)), s' 22 = .int .i64 ((i : Nat) : Int) ∧ s' 6 = v ∧ g = d.length - i ∧ i ≤ d.length ∧ Only mb w_b5 V ∧ MapE (Value.int .i64) V mb m ∧ fallM i [] m ∧ OwnL V w_b5.heap.size 3 false 1 v ((upN i).map intV)) d.length ⟨0, _, [], rfl, rfl, rfl, Nat.zero_le _, .ofExt (.refl _), hM5, ⟨List.Pairwise.nil, fun x => by rw [if_neg (by omega)]; rfl⟩, OwnL.nil _ _ _ _ _⟩ ?_
  rintro _ sd V ⟨i, v, m, h22, h6, rfl, hi, hOn, hM, hF, hO⟩
  refine W.fix h22 (W.fix (d := 6) h6 ?_)
  clear h22 h6
  have zV := hOn.size
  have hB5 := hOn.at_ hA5 hn5
  have hB1 := hOn.at_ hA1 hn1
  by_cases hid : i < d.length
  · (refine jjB ?_; refine jjC ?_; refine jjZ rfl rfl (by omega) ?_; refine jz ?_; refine jjB ?_; refine jjJ rfl ?_; refine jjG ?_; refine jjB ?_; refine jjD ?_; refine jjB ?_; refine jjC ?_; apply jI; exact eI rfl; apply jJ; exact eI rfl; refine jz ?_; refine jjB ?_; refine jjC ?_; refine jN rfl rfl rfl ?_; apply jI; exact eI rfl)
    refine Ops.mapUpdate (k := (i : Int)) hM rfl rfl rfl ?_
    intro w6 o6 hp6 hM6
    have z6 := hp6.size
    (refine jz ?_; refine jjC ?_; apply jI; exact rfl; apply jI; exact eI rfl)
    (refine jjP (v := .int _ _) rfl (by exact rfl) (by exact rfl) (by exact rfl) (by exact rfl) ?_; intro b7 w_b7 hb_b7 hs_b7 hS_b7 hk_b7; have hR_b7 := RowV.one (agg := false) (k := 1) rfl hk_b7)
    have z7 := hS_b7.size
    have hOn6 := (hOn.trans (.ofPut hp6)).trans (.ofExt hS_b7.ext)
    have hO6 := ((Only.ofPut hp6).own' hO (hO.blockM hM)).ext hS_b7.ext
    have hM7 := hM6.ext hS_b7.ext
    refine Ops.appendL hO6 (by omega) hR_b7 rfl rfl rfl rfl (one_int _) ?_ ?_ ?_
    · simp only [List.length_map, upN_len, List.length_cons, List.length_nil]; omega
    · simp only [List.length_map, upN_len, List.length_cons, List.length_nil]; omega
    intro v8 w8 hA8 hO8 _ _
    (apply jJ; exact rfl; refine jz ?_; refine jjC ?_; refine jY rfl rfl (by omega) ?_; apply jI; exact eI rfl; refine jz ?_)
    refine ⟨rfl, by ((refine Same.upd rfl ?_; refine Same.upd rfl ?_; refine Same.upd rfl ?_; refine Same.upd rfl ?_; refine Same.upd rfl ?_; refine Same.upd rfl ?_; refine Same.upd rfl ?_; refine Same.upd rfl ?_; refine Same.upd rfl ?_; refine Same.upd rfl ?_; refine Same.upd rfl ?_; refine Same.upd rfl ?_; refine Same.upd rfl ?_; refine Same.upd rfl ?_; exact Same.ovN)), d.length - (i + 1), by omega, i + 1, v8, _, congrArg (Value.int .i64) (by omega), rfl, rfl, by omega, hOn6.app hA8 (Nat.le_refl _), hM7.app hA8 (hO6.blockM hM7), hF.set, ?_⟩
    rw [upN_succ, List.map_append]; exact hO8
  obtain rfl : i = d.length := by omega
  clear hid hi
  obtain ⟨lv, lc, e⟩ := hO.slice
  rw [List.length_map, upN_len] at e
  subst e
  have hRV : RowI V (.slice a d.length c) false 1 (d.map intV) := ⟨hOn.rowM hM5 hr5⟩
  (refine jjB ?_; refine jjC ?_; refine jja rfl rfl (by omega) ?_; refine jz ?_; refine jjB ?_; refine jjK rfl ?_; refine jjE ?_; refine jjB ?_; refine jjB ?_; refine jjC ?_; refine jN rfl rfl rfl ?_)
  refine jjQ (keep_rack a c d C _ hC (by omega)) rfl rfl ?_
  rintro _ w9 hS9 ⟨ka, kc, rfl, hOk⟩
  have z9 := hS9.size
  have hKm := keepK_mem hC
  generalize hKe : keepK d C = K at *
  have hKl := hOk.len
  rw [List.length_map] at hKl
  (refine jh rfl ?_; apply jI; exact eI rfl; refine jz ?_; refine jjD ?_)
  have hOn9 := hOn.trans (.ofExt hS9.ext)
  refine W.keep0 [(1, .pointer (some ⟨b1, 0, none⟩)), (5, .pointer (some ⟨b5, 0, none⟩)), (6, .slice lv d.length lc), (33, .slice ka K.length kc), (34, .int .i64 ((K.length : Nat) : Int)), (35, .int .i64 ((0 : Nat) : Int))] ⟨eP rfl, eP rfl, eS rfl, eS rfl, eI rfl, eI rfl, trivial⟩ fun s1 => ?_
  refine W.loopG (36 :: 37 :: 38 :: 9 :: 39 :: 40 :: 41 :: 35 :: []) (fun g s' V' => ∃ (k : Nat) (m : List (Int × Value)) (S : List Int), s' 35 = .int .i64 ((k : Nat) : Int) ∧ g = K.length - k ∧ k ≤ K.length ∧ Only mb w_b5 V' ∧ MapE (Value.int .i64) V' mb m ∧ (∀ x, x ∈ S ↔ x ∈ K.take k) ∧ fallM d.length S m ∧ OwnL V' w_b5.heap.size 3 false 1 (.slice lv d.length lc) ((upN d.length).map intV) ∧ OwnL V' 0 3 false 1 (.slice ka K.length kc) (K.map intV)) K.length ⟨0, m, [], rfl, rfl, Nat.zero_le _, hOn9, hM.ext hS9.ext, by simp, hF, hO.ext hS9.ext, hOk.mono (Nat.zero_le _)⟩ ?_
  clear hOn9 hM hF hO hOk hOn hRV hB5 hB1 z9 hS9 zV
  rintro _ sd2 V2 ⟨k, m2, S, h35, rfl, hk, hOn, hM, hS, hF, hO, hOk⟩
  refine W.fix h35 ?_
  clear h35
  have zV := hOn.size
  have hB5 := hOn.at_ hA5 hn5
  have hB1 := hOn.at_ hA1 hn1
  by_cases hkl : k < K.length
  · have hgk := List.getElem?_eq_getElem hkl
    have hRK : RowI V2 (.slice ka K.length kc) false 1 (K.map intV) := ⟨hOk.row⟩
    (refine jjB ?_; refine jjC ?_; refine jjZ rfl rfl (by omega) ?_; refine jz ?_; refine jjB ?_; refine jjJ rfl ?_; refine jjG ?_; refine jjB ?_; refine jjD ?_; refine jjB ?_; refine jjC ?_; refine jF rfl rfl rfl (map_get (by omega)) ?_; intro _ _ _; refine jQ rfl rfl ?_; apply jJ; exact eI rfl; refine jz ?_; refine jjC ?_; refine jN rfl rfl rfl ?_; apply jI; exact eI rfl)
    refine Ops.deleteN (k := K[k]) hM rfl rfl ?_
    intro w6 o6 hp6 hM6
    (refine jz ?_; refine jjC ?_; refine jY rfl rfl (by omega) ?_; apply jI; exact eI rfl; refine jz ?_)
    refine ⟨rfl, by ((refine Same.upd rfl ?_; refine Same.upd rfl ?_; refine Same.upd rfl ?_; refine Same.upd rfl ?_; refine Same.upd rfl ?_; refine Same.upd rfl ?_; refine Same.upd rfl ?_; refine Same.upd rfl ?_; refine Same.upd rfl ?_; exact Same.ovN)), K.length - (k + 1), by omega, k + 1, _, K[k] :: S, congrArg (Value.int .i64) (by omega), rfl, by omega, hOn.trans (.ofPut hp6), hM6, fun x => ?_, hF.del _, (Only.ofPut hp6).own' hO (hO.blockM hM), (Only.ofPut hp6).own' hOk (hOk.blockM hM)⟩
    rw [take_snoc_get hgk, List.mem_cons, List.mem_append, List.mem_singleton, hS]
    exact Or.comm
  obtain rfl : k = K.length := by omega
  rw [List.take_length] at hS
  have hFK : fallM d.length K m2 := ⟨hF.nd, fun x => by simp only [hF.get, hS]⟩
  clear hF hS S hOk hk hkl
  (refine jjB ?_; refine jjC ?_; refine jja rfl rfl (by omega) ?_; refine jz ?_; refine jjB ?_; refine jjK rfl ?_; refine jjE ?_; refine jjB ?_; refine jjC ?_; apply jJ; exact eS rfl; refine jz ?_; refine jjB ?_; refine jjB ?_; refine jjC ?_; refine jN rfl rfl rfl ?_; refine jh rfl ?_; apply jI; exact eI rfl; refine jz ?_; refine jjD ?_)
  refine W.keep0 [(1, .pointer (some ⟨b1, 0, none⟩)), (5, .pointer (some ⟨b5, 0, none⟩)), (6, .slice lv d.length lc), (10, .slice none 0 0), (43, .int .i64 ((d.length : Nat) : Int)), (44, .int .i64 ((0 : Nat) : Int))] ⟨eP rfl, eP rfl, eS rfl, eS rfl, eI rfl, eI rfl, trivial⟩ fun s2 => ?_
  refine W.loopG (45 :: 46 :: 11 :: 47 :: 48 :: 49 :: 50 :: 51 :: 52 :: 53 :: 12 :: 54 :: 55 :: 56 :: 57 :: 58 :: 6 :: 59 :: 60 :: 61 :: 13 :: 62 :: 63 :: 64 :: 65 :: 66 :: 67 :: 68 :: 69 :: 70 :: 71 :: 72 :: 73 :: 74 :: 75 :: 76 :: 77 :: 78 :: 10 :: 79 :: 44 :: []) (fun g s' V' => ∃ (i : Nat) (m : List (Int × Value)) (ov : Value), s' 44 = .int .i64 ((i : Nat) : Int) ∧ s' 6 = .slice lv d.length lc ∧ s' 10 = ov ∧ g = d.length - i ∧ i ≤ d.length ∧ Only mb w_b5 V' ∧ MapE (Value.int .i64) V' mb m ∧ fallM d.length (mendF d K i).2.1 m ∧ OwnL V' w_b5.heap.size 3 false 1 (.slice lv d.length lc) ((mendF d K i).1.map intV) ∧ OwnL V' w_b5.heap.size 41 true 2 ov ((mendF d K i).2.2.map encII)) d.length ⟨0, m2, _, rfl, rfl, rfl, rfl, Nat.zero_le _, hOn, hM, hFK, hO, OwnL.nil _ _ _ _ _⟩ ?_
  clear hOn hM hFK hO hB5 hB1 zV
  rintro _ sd3 V3 ⟨i, m3, ov, h44, h6, h10, rfl, hi, hOn, hM, hF, hO, hOo⟩
  refine W.fix h44 (W.fix (d := 6) h6 (W.fix (d := 10) h10 ?_))
  clear h44 h6 h10
  have zV := hOn.size
  have hB5 := hOn.at_ hA5 hn5
  have hB1 := hOn.at_ hA1 hn1
  have hRV : RowI V3 (.slice a d.length c) false 1 (d.map intV) := ⟨hOn.rowM hM5 hr5⟩
  have hperm := mendF_perm d K i hi
  have hout := mendF_out d K i
  have hLl : (mendF d K i).1.length = d.length := by rw [hperm.length_eq, upN_len]
  by_cases hid : i < d.length
  · have hsucc := mendF_succ d K i
    generalize hst : mendF d K i = st at *
    obtain ⟨L, S, out⟩ := st
    simp only at hF hO hOo hperm hout hLl
    (refine jjB ?_; refine jjC ?_; refine jjZ rfl rfl (by omega) ?_; refine jz ?_; refine jjB ?_; refine jjJ rfl ?_; refine jjG ?_; refine jjB ?_; refine jjD ?_; refine jjB ?_; refine jjC ?_; apply jI; exact eI rfl)
    (apply jjR rfl; (intro _; first|exact eI rfl|exact eB rfl|exact eP rfl|exact eS rfl|exact eT rfl|exact eA rfl|exact eU rfl|exact eF rfl|exact eM rfl|exact eN rfl|exact rfl); exact rfl; exact rfl; exact rfl; exact rfl; intro b11 w_b11 hb_b11 hs_b11 hS_b11 hk_b11; have hA_b11 := Bk.of hk_b11)
    (refine jz ?_; refine jjB ?_; refine jjB ?_; refine jjC ?_; refine jN rfl rfl rfl ?_; refine jN rfl rfl rfl ?_)
    refine Ops.lookup (hM.ext inferInstance) rfl rfl ?_
    by_cases hiS : (i : Int) ∈ S
    · have hv : mget m3 (i : Int) = none := by rw [hF.get, if_neg (fun h => h.2 hiS)]
      have hnx : mendF d K (i + 1) = (L, S, out) := by rw [hsucc, mendS, if_pos hiS]
      rw [hv]
      (refine jq rfl ?_; refine jz ?_; refine jjJ rfl ?_; refine jjE ?_; refine jjC ?_; refine jY rfl rfl (by omega) ?_; apply jI; exact eI rfl; refine jz ?_)
      refine ⟨rfl, by ((refine Same.upd rfl ?_; refine Same.upd rfl ?_; refine Same.upd rfl ?_; refine Same.upd rfl ?_; refine Same.upd rfl ?_; refine Same.upd rfl ?_; refine Same.upd rfl ?_; refine Same.upd rfl ?_; refine Same.upd rfl ?_; refine Same.upd rfl ?_; refine Same.upd rfl ?_; refine Same.upd rfl ?_; exact Same.ovN)), d.length - (i + 1), by omega, i + 1, m3, ov, congrArg (Value.int .i64) (by omega), rfl, rfl, rfl, by omega, hOn.trans (.ofExt hS_b11.ext), hM.ext hS_b11.ext, ?_, ?_, ?_⟩
      · rw [hnx]; exact hF
      · rw [hnx]; exact hO.ext hS_b11.ext
      · rw [hnx]; exact hOo.ext hS_b11.ext
    · have hv : mget m3 (i : Int) = some (.bool true) := by rw [hF.get, if_pos ⟨by omega, hiS⟩]
      rw [hv]
      have hmem : (i : Int) ∈ L := by rw [hperm.mem_iff, upN_mem]; omega
      have hfx := idxOf_facts hmem
      generalize hfe : L.idxOf (i : Int) = f at *
      obtain ⟨hfl, hfg, hff⟩ := hfx
      obtain ⟨g, rfl, hg5, hOg⟩ := hO.self (by rw [List.length_map]; omega)
      have hgl := (hOg.block g rfl).2
      have hrl : (L.eraseIdx f).length = d.length - 1 := by rw [List.length_eraseIdx, if_pos hfl, hLl]
      have hrm : ∀ x ∈ L.eraseIdx f, 0 ≤ x ∧ x < d.length := fun x hx => by
        have : x ∈ L := List.mem_of_mem_eraseIdx hx
        rw [hperm.mem_iff, upN_mem] at this; exact this
      have htl := toM_le d S (L.eraseIdx f) i
      have htd : toM d S (L.eraseIdx f) i = if idxV (pM d S i) (L.eraseIdx f) < 0 then (L.eraseIdx f).length else (idxV (pM d S i) (L.eraseIdx f)).toNat := rfl
      have hnx : mendF d K (i + 1) = (mvF L f (toM d S (L.eraseIdx f) i), (i : Int) :: S, out ++ [((f : Int), ((toM d S (L.eraseIdx f) i : Nat) : Int))]) := by rw [hsucc, mendS, if_neg hiS, hfe]
      have hmv0 : mvF L f (toM d S (L.eraseIdx f) i) = (L.eraseIdx f).take (toM d S (L.eraseIdx f) i) ++ (i : Int) :: (L.eraseIdx f).drop (toM d S (L.eraseIdx f) i) := by
        have hx : L.getD f 0 = (i : Int) := by simp [List.getD_eq_getElem?_getD, hfg]
        rw [mvF, hx]
      generalize toM d S (L.eraseIdx f) i = t at *
      have hmv : mvF L f t = (L.eraseIdx f).take t ++ (i : Int) :: (L.eraseIdx f).drop t := hmv0
      have hcap : d.length ≤ lc := by obtain ⟨cs, _, _, h, _⟩ := hOg.cells; exact h
      have hdl : d.length - 1 + 1 = d.length := by omega
      have i1 : RowI w_b11 (.slice (some ⟨g, 0, none⟩) L.length lc) false 1 (L.map intV) := ⟨by rw [hLl]; exact (hO.ext hS_b11.ext).row⟩
      have hIx := Index_int (some ⟨g, 0, none⟩) lc L (i : Int) w_b11 (by omega) hfg hff
      rw [hLl] at hIx
      clear i1
      have hgm : mb ≠ g := fun e => hOg.blockM hM (by rw [e]; rfl)
      have hgo : ov.ownBlock ≠ some g := fun e => (hO.ne hOo (by decide)) g rfl e
      (refine jp rfl ?_; refine jz ?_; refine jjK rfl ?_; refine jjG ?_; refine jjB ?_; refine jjC ?_; apply jI; exact eS rfl; refine jN rfl rfl rfl ?_)
      refine jjQ hIx rfl rfl ?_
      rintro _ w12 hS12 rfl
      (apply jJ; exact eI rfl; refine jz ?_; refine jjB ?_; refine jjC ?_; apply jI; exact eS rfl; apply jI; exact eI rfl; apply jI; exact eI rfl; refine jY rfl rfl (by omega) ?_)
      have hE12 : Ext V3 w12 := hS_b11.ext.trans hS12.ext
      have z12 := hE12.size
      refine Ops.callR rfl (Enters.h (P := Tryz.prog) (g := 63)) rfl (Delete_int g d.length lc f L w12 (hO.ext hE12) (by omega) (by omega)) ?_
      rintro _ w13 ⟨rfl, hO13, hD13⟩
      refine ⟨_, rfl, ?_⟩
      have hOn13 : Only mb w_b5 w13 := (hOn.trans (.ofExt hE12)).thru hO13 hg5
      have hM13 : MapE (Value.int .i64) w13 mb m3 := hO13.map (hM.ext hE12) hgm
      have hOo13 : OwnL w13 w_b5.heap.size 41 true 2 ov (out.map encII) := hO13.own' (hOo.ext hE12) hgo
      have hB513 := hOn13.at_ hA5 hn5
      have hB113 := hOn13.at_ hA1 hn1
      have z13 := hO13.size
      have hB1113 : At w13 b11 0 [.int .i64 (i : Int)] := hO13.at_ ((hA_b11.toAt).ext hS12.ext) (by omega)
      have hRV13 : RowV w13 false 1 (.slice a d.length c) (d.map intV) := hOn13.rowM hM5 hr5
      (apply jJ; exact eS rfl; refine jz ?_; refine jjB ?_; refine jjC ?_; apply jI; exact eS rfl; refine jv ?_)
      refine jjQ (IndexFunc_int _ _ (.func (.func 74) #[] [.pointer (some ⟨b5, 0, none⟩), .pointer (some ⟨b1, 0, none⟩), .pointer (some ⟨b11, 0, none⟩)].toArray) intV (L.eraseIdx f) (pM d S i) (by have := hD13.row; exact this) ⟨_, _, rfl, inferInstance, fun w' x hx hs => ?_⟩) rfl rfl ?_
      · obtain ⟨xn, rfl⟩ : ∃ xn : Nat, x = xn := ⟨x.toNat, by have := hrm x hx; omega⟩
        have j5 := hB513.ext hs
        have j1 := hB113.ext hs
        have j11 := hB1113.ext hs
        have jr := RowI.mk (hRV13.ext hs)
        exact Mend1_rack b5 b1 b11 mb a c d S i xn m3 w' (hM13.ext hs) hF hid (by have := hrm _ hx; omega)
      rintro _ w15 hS15 rfl
      have hOn15 := hOn13.trans (.ofExt hS15.ext)
      have hM15 := hM13.ext hS15.ext
      have hOo15 := hOo13.ext hS15.ext
      have hD15 := hD13.ext hS15.ext
      have hB1115 := hB1113.ext hS15.ext
      have hB515 := hB513.ext hS15.ext
      have z15 := hS15.size
      generalize idxV (pM d S i) (L.eraseIdx f) = Z at *
      by_cases hZ : Z < 0
      · rw [if_pos hZ, hrl] at htd
        subst htd
        (apply jJ; exact eI rfl; refine jz ?_; refine jjB ?_; refine jjB ?_; refine jjC ?_; apply jI; exact eI rfl; refine jjZ rfl rfl (by omega) ?_; refine jz ?_; refine jjJ rfl ?_; refine jjC ?_; apply jI; exact eS rfl; refine jh rfl ?_; apply jJ; exact eI rfl; refine jz ?_; refine jjB ?_; refine jjC ?_; apply jI; exact eS rfl; apply jI; exact eI rfl; refine jN rfl rfl rfl ?_)
        (refine jjP (v := .int _ _) rfl (by exact rfl) (by exact rfl) (by exact rfl) (by exact rfl) ?_; intro b14 w_b14 hb_b14 hs_b14 hS_b14 hk_b14; have hR_b14 := RowV.one (agg := false) (k := 1) rfl hk_b14)
        have z14 := hS_b14.size
        have hI := Insert_int g b14 (d.length - 1) lc (d.length - 1) (L.eraseIdx f) (i : Int) w_b14 (hD15.ext hS_b14.ext) ⟨hk_b14⟩ (by omega) (by omega) (by omega) (by omega)
        rw [hdl, ← hmv] at hI
        skip
        refine Ops.callR rfl (Enters.h (P := Tryz.prog) (g := 62)) rfl hI ?_
        rintro _ w16 ⟨rfl, hO16, hD16⟩
        refine ⟨_, rfl, ?_⟩
        have hOn16 : Only mb w_b5 w16 := (hOn15.trans (.ofExt hS_b14.ext)).thru hO16 (by omega)
        have hM16 : MapE (Value.int .i64) w16 mb m3 := hO16.map (hM15.ext hS_b14.ext) hgm
        have hOo16 : OwnL w16 w_b5.heap.size 41 true 2 ov (out.map encII) := hO16.own' (hOo15.ext hS_b14.ext) hgo
        have hB516 := hOn16.at_ hA5 hn5
        have hB116 : At w16 b11 0 [.int .i64 (i : Int)] := hO16.at_ (hB1115.ext hS_b14.ext) (by omega)
        (apply jJ; exact eS rfl; refine jz ?_; refine jjB ?_; refine jjC ?_; refine jN rfl rfl rfl ?_; refine jN rfl rfl rfl ?_)
        refine Ops.deleteN (k := (i : Int)) hM16 rfl rfl ?_
        intro w17 o17 hp17 hM17
        have hOn17 := hOn16.trans (.ofPut hp17)
        have hO17 := (Only.ofPut hp17).own' hD16 (hD16.blockM hM16)
        have hOo17 := (Only.ofPut hp17).own' hOo16 (hOo16.blockM hM16)
        have z17 := hOn17.size
        (refine jz ?_; refine jjC ?_; apply jI; exact rfl; apply jI; exact eI rfl; apply jI; exact eI rfl)
        (refine jjS (cells := [.int .i64 ((f : Nat) : Int), .int .i64 ((d.length - 1 : Nat) : Int)]) ?_ ?_; exact rfl)
        (refine jjP (v := .agg _) rfl (by exact rfl) (by exact rfl) (by exact rfl) (by exact rfl) ?_; intro b18 w_b18 hb_b18 hs_b18 hS_b18 hk_b18; have hR_b18 := RowV.one (agg := true) (k := 2) rfl hk_b18)
        have z18 := hS_b18.size
        have hO18 := hO17.ext hS_b18.ext
        have hM18 := hM17.ext hS_b18.ext
        refine Ops.appendL (hOo17.ext hS_b18.ext) (by omega) hR_b18 rfl rfl rfl rfl rfl ?_ ?_ ?_
        · simp only [List.length_map, List.length_cons, List.length_nil]; omega
        · simp only [List.length_map, List.length_cons, List.length_nil]; omega
        intro v19 w19 hA19 hO19 _ _
        (apply jJ; exact rfl; refine jz ?_; refine jjC ?_; refine jY rfl rfl (by omega) ?_; apply jI; exact eI rfl; refine jz ?_)
        refine ⟨rfl, by ((refine Same.upd rfl ?_; refine Same.upd rfl ?_; refine Same.upd rfl ?_; refine Same.upd rfl ?_; refine Same.upd rfl ?_; refine Same.upd rfl ?_; refine Same.upd rfl ?_; refine Same.upd rfl ?_; refine Same.upd rfl ?_; refine Same.upd rfl ?_; refine Same.upd rfl ?_; refine Same.upd rfl ?_; refine Same.upd rfl ?_; refine Same.upd rfl ?_; refine Same.upd rfl ?_; refine Same.upd rfl ?_; refine Same.upd rfl ?_; refine Same.upd rfl ?_; refine Same.upd rfl ?_; refine Same.upd rfl ?_; refine Same.upd rfl ?_; refine Same.upd rfl ?_; refine Same.upd rfl ?_; refine Same.upd rfl ?_; refine Same.upd rfl ?_; refine Same.upd rfl ?_; refine Same.upd rfl ?_; refine Same.upd rfl ?_; refine Same.upd rfl ?_; refine Same.upd rfl ?_; refine Same.upd rfl ?_; refine Same.upd rfl ?_; refine Same.upd rfl ?_; refine Same.upd rfl ?_; refine Same.upd rfl ?_; refine Same.upd rfl ?_; refine Same.upd rfl ?_; refine Same.upd rfl ?_; refine Same.upd rfl ?_; refine Same.upd rfl ?_; refine Same.upd rfl ?_; refine Same.upd rfl ?_; refine Same.upd rfl ?_; refine Same.upd rfl ?_; refine Same.upd rfl ?_; refine Same.upd rfl ?_; exact Same.ovN)), d.length - (i + 1), by omega, i + 1, _, v19, congrArg (Value.int .i64) (by omega), rfl, rfl, rfl, by omega, (hOn17.trans (.ofExt hS_b18.ext)).app hA19 (Nat.le_refl _), hM18.app hA19 ((hOo17.ext hS_b18.ext).blockM hM18), ?_, ?_, ?_⟩
        · rw [hnx]; exact hF.del _
        · rw [hnx]; exact hO18.app hA19 (hO18.ne (hOo17.ext hS_b18.ext) (by decide))
        · rw [hnx, List.map_append]; exact hO19
      · rw [if_neg hZ] at htd
        obtain ⟨Zn, rfl⟩ : ∃ Zn : Nat, Z = Zn := ⟨Z.toNat, by omega⟩
        rw [Int.toNat_natCast] at htd
        subst htd
        (apply jJ; exact eI rfl; refine jz ?_; refine jjB ?_; refine jjB ?_; refine jjC ?_; apply jI; exact eI rfl; refine jja rfl rfl (by omega) ?_; refine jz ?_; refine jjK rfl ?_; refine jjG ?_; refine jjB ?_; refine jjC ?_; apply jI; exact eS rfl; apply jI; exact eI rfl; refine jN rfl rfl rfl ?_)
        (refine jjP (v := .int _ _) rfl (by exact rfl) (by exact rfl) (by exact rfl) (by exact rfl) ?_; intro b14 w_b14 hb_b14 hs_b14 hS_b14 hk_b14; have hR_b14 := RowV.one (agg := false) (k := 1) rfl hk_b14)
        have z14 := hS_b14.size
        have hI := Insert_int g b14 (d.length - 1) lc t (L.eraseIdx f) (i : Int) w_b14 (hD15.ext hS_b14.ext) ⟨hk_b14⟩ (by omega) (by omega) (by omega) (by omega)
        rw [hdl, ← hmv] at hI
        skip
        refine Ops.callR rfl (Enters.h (P := Tryz.prog) (g := 62)) rfl hI ?_
        rintro _ w16 ⟨rfl, hO16, hD16⟩
        refine ⟨_, rfl, ?_⟩
        have hOn16 : Only mb w_b5 w16 := (hOn15.trans (.ofExt hS_b14.ext)).thru hO16 (by omega)
        have hM16 : MapE (Value.int .i64) w16 mb m3 := hO16.map (hM15.ext hS_b14.ext) hgm
        have hOo16 : OwnL w16 w_b5.heap.size 41 true 2 ov (out.map encII) := hO16.own' (hOo15.ext hS_b14.ext) hgo
        have hB516 := hOn16.at_ hA5 hn5
        have hB116 : At w16 b11 0 [.int .i64 (i : Int)] := hO16.at_ (hB1115.ext hS_b14.ext) (by omega)
        (apply jJ; exact eS rfl; refine jz ?_; refine jjB ?_; refine jjC ?_; refine jN rfl rfl rfl ?_; refine jN rfl rfl rfl ?_)
        refine Ops.deleteN (k := (i : Int)) hM16 rfl rfl ?_
        intro w17 o17 hp17 hM17
        have hOn17 := hOn16.trans (.ofPut hp17)
        have hO17 := (Only.ofPut hp17).own' hD16 (hD16.blockM hM16)
        have hOo17 := (Only.ofPut hp17).own' hOo16 (hOo16.blockM hM16)
        have z17 := hOn17.size
        (refine jz ?_; refine jjC ?_; apply jI; exact rfl; apply jI; exact eI rfl; apply jI; exact eI rfl)
        (refine jjS (cells := [.int .i64 ((f : Nat) : Int), .int .i64 ((t : Nat) : Int)]) ?_ ?_; exact rfl)
        (refine jjP (v := .agg _) rfl (by exact rfl) (by exact rfl) (by exact rfl) (by exact rfl) ?_; intro b18 w_b18 hb_b18 hs_b18 hS_b18 hk_b18; have hR_b18 := RowV.one (agg := true) (k := 2) rfl hk_b18)
        have z18 := hS_b18.size
        have hO18 := hO17.ext hS_b18.ext
        have hM18 := hM17.ext hS_b18.ext
        refine Ops.appendL (hOo17.ext hS_b18.ext) (by omega) hR_b18 rfl rfl rfl rfl rfl ?_ ?_ ?_
        · simp only [List.length_map, List.length_cons, List.length_nil]; omega
        · simp only [List.length_map, List.length_cons, List.length_nil]; omega
        intro v19 w19 hA19 hO19 _ _
        (apply jJ; exact rfl; refine jz ?_; refine jjC ?_; refine jY rfl rfl (by omega) ?_; apply jI; exact eI rfl; refine jz ?_)
        refine ⟨rfl, by ((refine Same.upd rfl ?_; refine Same.upd rfl ?_; refine Same.upd rfl ?_; refine Same.upd rfl ?_; refine Same.upd rfl ?_; refine Same.upd rfl ?_; refine Same.upd rfl ?_; refine Same.upd rfl ?_; refine Same.upd rfl ?_; refine Same.upd rfl ?_; refine Same.upd rfl ?_; refine Same.upd rfl ?_; refine Same.upd rfl ?_; refine Same.upd rfl ?_; refine Same.upd rfl ?_; refine Same.upd rfl ?_; refine Same.upd rfl ?_; refine Same.upd rfl ?_; refine Same.upd rfl ?_; refine Same.upd rfl ?_; refine Same.upd rfl ?_; refine Same.upd rfl ?_; refine Same.upd rfl ?_; refine Same.upd rfl ?_; refine Same.upd rfl ?_; refine Same.upd rfl ?_; refine Same.upd rfl ?_; refine Same.upd rfl ?_; refine Same.upd rfl ?_; refine Same.upd rfl ?_; refine Same.upd rfl ?_; refine Same.upd rfl ?_; refine Same.upd rfl ?_; refine Same.upd rfl ?_; refine Same.upd rfl ?_; refine Same.upd rfl ?_; refine Same.upd rfl ?_; refine Same.upd rfl ?_; refine Same.upd rfl ?_; refine Same.upd rfl ?_; refine Same.upd rfl ?_; refine Same.upd rfl ?_; refine Same.upd rfl ?_; exact Same.ovN)), d.length - (i + 1), by omega, i + 1, _, v19, congrArg (Value.int .i64) (by omega), rfl, rfl, rfl, by omega, (hOn17.trans (.ofExt hS_b18.ext)).app hA19 (Nat.le_refl _), hM18.app hA19 ((hOo17.ext hS_b18.ext).blockM hM18), ?_, ?_, ?_⟩
        · rw [hnx]; exact hF.del _
        · rw [hnx]; exact hO18.app hA19 (hO18.ne (hOo17.ext hS_b18.ext) (by decide))
        · rw [hnx, List.map_append]; exact hO19
  · obtain rfl : i = d.length := by omega
    obtain ⟨oa, oc, rfl⟩ := hOo.slice
    rw [List.length_map]
    rw [List.length_map] at hOo
    have hEw : Ext w V3 := hOn.ext hE5 zmb
    (refine jjB ?_; refine jjC ?_; refine jja rfl rfl (by omega) ?_; refine jz ?_; refine jjB ?_; refine jjK rfl ?_; refine jjE ?_; refine jjB ?_; refine jjC ?_; apply jI; exact eS rfl; apply jJ; exact eS rfl; apply jJ; exact eI rfl; refine jz ?_; refine jjF ?_; refine jC rfl rfl rfl ⟨inferInstance, ?_⟩)
    exact ⟨_, 0, oa, oc, rfl, hOo.row, .inr ⟨hd, rfl, C, hC, by rw [hKe]⟩⟩
end Go.Proofs.YtpijeomnplmakaaGreatDoor
