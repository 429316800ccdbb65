/- Texts of the proof, part 6: Eng45, Gk4, Eng46, LawRh. -/
import Derived.Test.YtpijeomnplmakaaGreatDoorRC5
/- The proof engine, part 45: regions that draw their order, by numbers. -/
namespace Go.Proofs.YtpijeomnplmakaaGreatDoor
open Go.RowKit

theorem freeN_ok {M i : Nat} {ri : RowN} : ∀ {R : List RowN} {k : Nat}, freeN M i ri k R = true → ∀ p r, R[p]? = some r → k + p ≠ i → M.testBit (k + p) = false → r.1.testBit i = false → apartN ri r = true
  | [], k, _, p, r, hr, _, _, _ => by simp at hr
  | q :: R, k, h, p, r, hr, hne, hM, hb => by
    rw [freeN, Bool.and_eq_true] at h
    cases p with
    | zero =>
      have e : q = r := by simpa using hr
      subst e
      have h1 := h.1
      rw [Nat.add_zero] at hM hne
      rw [hM, hb] at h1
      cases hk : Nat.beq k i
      · rw [hk] at h1; simpa using h1
      · exact absurd (Nat.eq_of_beq_eq_true hk) hne
    | succ p => exact freeN_ok (k := k + 1) h.2 p r (by simpa using hr) (by omega) (by rw [show k + 1 + p = k + (p + 1) by omega]; exact hM) hb
def isReady (R : List RowN) (M i : Nat) : Bool := match R[i]? with
  | some r => !M.testBit i && Nat.beq (r.1 &&& M) r.1
  | none => false
def okF (R : List RowN) : List Nat → Nat → Bool
  | [], _ => true
  | i :: is, M => isReady R M i && freeR R M i && okF R is (2 ^ i ||| M)
def maskF (M : Nat) (is : List Nat) : Nat := is.foldl (fun m i => 2 ^ i ||| m) M
theorem Takes.nil_iff {P : Program} {ro : Option Nat} {n : Nat} {all : List Oper} {S : World → Prop} {K : Sl → Prop} {s : Sl} : Takes P ro n all S [] K s ↔ K s := by with_unfolding_all exact Iff.rfl
theorem Takes.cons_iff {P : Program} {ro : Option Nat} {n : Nat} {all : List Oper} {S : World → Prop} {K : Sl → Prop} {i : Nat} {is : List Nat} {s : Sl} : Takes P ro n all S (i :: is) K s ↔ ∃ o v, all[i]? = some o ∧ (∀ w, S w → Ops P ro n all [o] (fun s' w' => s' = putS s o.dst v ∧ w' = w) s w) ∧ Takes P ro n all S is K (putS s o.dst v) := by with_unfolding_all exact Iff.rfl
section
variable (P : Program) (ro : Option Nat) (n : Nat) (all : List Oper) (S : World → Prop) (K : Sl → World → Prop)
/-- Whatever has been listed as M tells: all orders of the rest end, and K. -/
def AnyF (R : List RowN) (fuel M : Nat) (s : Sl) (w : World) : Prop :=
  rowsOf all = R → niceAll all = true → ∀ listed : Array Bool, Lm listed all.length M → AnyS P ro n all S K fuel listed s w
end
section
variable {P : Program} {ro : Option Nat} {n : Nat} {all : List Oper} {S : World → Prop} {K : Sl → World → Prop} {R : List RowN}
theorem free_of {oi : Oper} {i M : Nat} {listed : Array Bool} (hi : all[i]? = some oi) (hl : Lm listed all.length M) (hf : freeR (rowsOf all) M i = true) (j : Nat) (oj : Oper) (hj : all[j]? = some oj) (hne : j ≠ i) (hun : listed.getD j true = false)
    (hno : ∀ e ∈ oj.after, Region.binds .any e = true → e.on ≠ i) : oi.apart all.toArray oj = true := by
  have hjl : j < all.length := (List.getElem?_eq_some_iff.1 hj).1
  have hri : (rowsOf all)[i]? = some (rowOf all.toArray oi) := by rw [rowsOf, List.getElem?_map, hi]; rfl
  have hrj : (rowsOf all)[j]? = some (rowOf all.toArray oj) := by rw [rowsOf, List.getElem?_map, hj]; rfl
  rw [freeR, hri] at hf
  refine apartN_ok (freeN_ok hf j _ hrj (by omega) ?_ ?_)
  · rw [Nat.zero_add, ← hl.true_ hjl]; exact hun
  · rw [show (rowOf all.toArray oj).1 = bitsL ((oj.after.toList.filter fun e => Region.binds .any e).map (·.on)) from rfl, bitsL_test, decide_eq_false_iff_not]
    intro hm
    obtain ⟨e, he, rfl⟩ := List.mem_map.1 hm
    obtain ⟨h1, h2⟩ := List.mem_filter.1 he
    exact hno e (by simpa using h1) h2 rfl
theorem ready_of {i M : Nat} {listed : Array Bool} (hl : Lm listed all.length M) (h : isReady (rowsOf all) M i = true) : i ∈ Region.ready .any all.toArray listed := by
  rw [ready_eq hl, mem_readyN]
  rw [isReady] at h
  cases hr : (rowsOf all)[i]? with
  | none => rw [hr] at h; cases h
  | some r =>
    rw [hr] at h
    simp only [Bool.and_eq_true, Bool.not_eq_true'] at h
    exact ⟨i, r, hr, by omega, h.1, h.2⟩
theorem AnyF.takes : ∀ (is : List Nat) {fuel M : Nat} {s : Sl} {w : World}, okF R is M = true → S w →
    Takes P ro n all S is (fun s' => AnyF P ro n all S K R fuel (maskF M is) s' w) s → AnyF P ro n all S K R (fuel + is.length) M s w := by
  intro is
  induction is with
  | nil => intro fuel M s w _ _ h; exact Takes.nil_iff.1 h
  | cons i is ih =>
    intro fuel M s w hok hS h hR hn listed hl
    subst hR
    simp only [okF, Bool.and_eq_true] at hok
    obtain ⟨⟨h1, h2⟩, h3⟩ := hok
    obtain ⟨o, v, ho, hq, hr⟩ := Takes.cons_iff.1 h
    have hi : i < all.length := (List.getElem?_eq_some_iff.1 ho).1
    refine AnyS.first (v := v) hn ho (fuel + is.length) listed s w (free_of ho hl h2) (ready_of hl h1) ?_ hS (ih h3 hS hr rfl hn _ (hl.set hi))
    intro w hw
    have := hq w hw
    rw [op1_ops] at this
    refine this.mono fun u w' ⟨e1, e2⟩ => ⟨fun d hd => ?_, e2⟩
    rw [hd] at e1
    have := congrFun e1 d
    simpa [putS, upd] using this
theorem AnyF.take (is : List Nat) {fuel M : Nat} {s : Sl} {w : World} (hok : (Nat.ble is.length fuel && okF R is M) = true) (hS : S w)
    (h : Takes P ro n all S is (fun s' => AnyF P ro n all S K R (fuel - is.length) (maskF M is) s' w) s) : AnyF P ro n all S K R fuel M s w := by
  simp only [Bool.and_eq_true] at hok
  have hle : is.length ≤ fuel := by simpa using hok.1
  have := AnyF.takes (K := K) (fuel := fuel - is.length) is hok.2 hS h
  rwa [Nat.sub_add_cancel hle] at this
theorem AnyF.one (i : Nat) {o : Oper} {fuel M : Nat} {s : Sl} {w : World} (hr : (Nat.blt 0 fuel && (readyN M 0 R == [i])) = true) (ho : all[i]? = some o) (hS : S w)
    (h : Ops P ro n all [o] (fun s' w' => AnyF P ro n all S K R (fuel - 1) (2 ^ i ||| M) s' w') s w) : AnyF P ro n all S K R fuel M s w := by
  intro hR hn listed hl
  subst hR
  have hi : i < all.length := (List.getElem?_eq_some_iff.1 ho).1
  rw [← ready_eq hl] at hr
  exact jjW i hr ho hS (Ops1.mono h fun s w h => h rfl hn _ (hl.set hi))
theorem AnyF.done {fuel M : Nat} {s : Sl} {w : World} (hr : (readyN M 0 R).isEmpty = true) (hS : S w) (h : K s w) : AnyF P ro n all S K R fuel M s w := by
  intro hR hn listed hl
  subst hR
  rw [← ready_eq hl] at hr
  exact jjX hr hS h
theorem AnyF.joinB (i j : Nat) {o q : Oper} {fuel M : Nat} {s : Sl} {w : World} {d1 d2 : Nat} (hne : d1 ≠ d2) (f1 f2 : Nat → Value) (F : Nat → Nat → World → Prop)
    (hr : (Nat.blt 1 fuel && (readyN M 0 R == [i, j]) && (readyN (2 ^ i ||| M) 0 R == [j]) && (readyN (2 ^ j ||| M) 0 R == [i])) = true)
    (ho : all[i]? = some o) (hq : all[j]? = some q) (hS : S w)
    (h1 : Ops P ro n all [o] (fun s1 w1 => S w1 ∧ Ops P ro n all [q] (fun s2 w2 => ∃ b1 b2, s2 = upd (upd s d1 (f1 b1)) d2 (f2 b2) ∧ F b1 b2 w2) s1 w1) s w)
    (h2 : Ops P ro n all [q] (fun s1 w1 => S w1 ∧ Ops P ro n all [o] (fun s2 w2 => ∃ b1 b2, s2 = upd (upd s d2 (f2 b2)) d1 (f1 b1) ∧ F b1 b2 w2) s1 w1) s w)
    (hk : ∀ b1 b2 w2, F b1 b2 w2 → AnyF P ro n all S K R (fuel - 1 - 1) (2 ^ j ||| (2 ^ i ||| M)) (upd (upd s d1 (f1 b1)) d2 (f2 b2)) w2) : AnyF P ro n all S K R fuel M s w := by
  intro hR hn listed hl
  subst hR
  have hi : i < all.length := (List.getElem?_eq_some_iff.1 ho).1
  have hj : j < all.length := (List.getElem?_eq_some_iff.1 hq).1
  simp only [Bool.and_eq_true, beq_iff_eq] at hr
  obtain ⟨⟨⟨hf, r1⟩, r2⟩, r3⟩ := hr
  have hf : 1 < fuel := by simpa using hf
  have l1 := hl.set hi
  have l2 := hl.set hj
  rw [← ready_eq hl] at r1
  rw [← ready_eq l1] at r2
  rw [← ready_eq l2] at r3
  refine jjl i j (by simp [r1]; omega) ho hq hS (Ops1.mono h1 fun s1 w1 ⟨g1, g2⟩ => jjW j (by simp [r2]; omega) hq g1 (Ops1.mono g2 ?_)) (Ops1.mono h2 fun s1 w1 ⟨g1, g2⟩ => jjW i (by simp [r3]; omega) ho g1 (Ops1.mono g2 ?_))
  · rintro s2 w2 ⟨b1, b2, rfl, hF⟩
    exact hk b1 b2 w2 hF rfl hn _ (l1.set hj)
  · rintro s2 w2 ⟨b1, b2, rfl, hF⟩
    rw [upd_swap hne]
    have := l2.set hi
    rw [← Nat.or_assoc, Nat.or_comm (2 ^ i), Nat.or_assoc] at this
    exact hk b1 b2 w2 hF rfl hn _ this
end
/-- A region that draws its order, its rows told. -/
theorem W.drawF {P : Program} {ro : Option Nat} {n : Nat} {X : Ctx} {s : Sl} {ds : List Deferred} {w : World} {id : Nat} {ops : List Oper} [hm : Mixed P] (S : World → Prop) (R : List RowN) (hR : rowsOf ops = R) (hn : niceAll ops = true)
    (h : ∀ w1, Step w w1 → AnyF P ro n ops S (fun s' w' => X.nx s' ds w') R ops.length 0 s w1) : W P ro n (.region id ops.toArray true) X s ds w :=
  W.draw S fun w1 hS => h w1 hS hR hn _ ⟨by simp, fun j => by
    rw [Nat.zero_testBit]
    by_cases hj : j < ops.length
    · simp [Array.getD, hj]
    · simp [Array.getD, hj]⟩
end Go.Proofs.YtpijeomnplmakaaGreatDoor

/- The statements' examples: alive is true. -/
namespace Go.Proofs.YtpijeomnplmakaaGreatDoor
open Go.RowKit

/-- What the operations of the last region stand behind, set, look at. -/
def aliveR : List RowN := [(0, 4835703278458516698824704, 4), (1, 9671406556917033397649408, 4835703278458516698824704), (2, 19342813113834066795298816, 9671406556917033397649408), (4, 38685626227668133590597632, 19342813113834066795298818), (4,
  77371252455336267181195264, 19342813113834066795298816), (28, 154742504910672534362390528, 135399691796838467567091712), (36, 309485009821345068724781056, 174085318024506601157689344), (96, 618970019642690137449562112,
  309485009821345068724781056), (128, 1237940039285380274899124224, 618970019642690137449562128), (384, 2475880078570760549798248448, 1856910058928070412348686336), (640, 4951760157141521099596496896, 3094850098213450687247810560),
  (1152, 9903520314283042199192993792, 4951760157141521099596496896), (2048, 19807040628566084398385987584, 9903520314283042199192993800), (6144, 39614081257132168796771975168, 29710560942849126597578981376), (10240,
  79228162514264337593543950336, 49517601571415210995964968960), (18432, 158456325028528675187087900672, 79228162514264337593543950336), (32768, 316912650057057350374175801344, 158456325028528675187087900736), (98304,
  633825300114114700748351602688, 475368975085586025561263702016), (163840, 1267650600228229401496703205376, 792281625142643375935439503360), (294912, 2535301200456458802993406410752, 1267650600228229401496703205376), (524288,
  5070602400912917605986812821504, 2535301200456458802993406410784), (524288, 10141204801825835211973625643008, 2535301200456458802993406410752), (524288, 20282409603651670423947251286016, 2535301200456458802993406410752), (6815744,
  40564819207303340847894502572032, 32958915605933964438914283339776), (9961472, 81129638414606681695789005144064, 48170722808672717256874721804288), (17301504, 162259276829213363391578010288128, 83664939615063140498782411554816),
  (50331648, 324518553658426726783156020576256, 162259276829213363391578010288128), (67108864, 649037107316853453566312041152512, 324518553658426726783156020576512), (201326592, 1298074214633706907132624082305024,
  973555660975280180349468061728768), (335544320, 2596148429267413814265248164610048, 1622592768292133633915780102881280), (603979776, 5192296858534827628530496329220096, 2596148429267413814265248164610048), (1073741824,
  10384593717069655257060992658440192, 5192296858534827628530496329220224), (1073741824, 20769187434139310514121985316880384, 5192296858534827628530496329220096), (7516192768, 41538374868278621028243970633760768,
  36346078009743793399713474304540672), (9663676416, 83076749736557242056487941267521536, 46730671726813448656774466962980864), (25769803776, 166153499473114484112975882535043072, 83076749736557242056487941267521536), (34359738368,
  332306998946228968225951765070086144, 166153499473114484112975882535044096), (103079215104, 664613997892457936451903530140172288, 498460498419343452338927647605129216), (171798691840, 1329227995784915872903807060280344576,
  830767497365572420564879412675215360), (309237645312, 2658455991569831745807614120560689152, 1329227995784915872903807060280344576), (549755813888, 5316911983139663491615228241121378304, 2658455991569831745807614120560689664),
  (549755813888, 10633823966279326983230456482242756608, 2658455991569831745807614120560689152), (549755813888, 21267647932558653966460912964485513216, 2658455991569831745807614120560689152), (7146825580544,
  42535295865117307932921825928971026432, 34559927890407812695498983567288958976), (10445360463872, 85070591730234615865843651857942052864, 50510663839826803170344668290653093888), (18141941858304,
  170141183460469231731687303715884105728, 87729047721804447611651265978502742016), (52776558133248, 340282366920938463463374607431768211456, 170141183460469231731687303715884105728), (70368744177664,
  680564733841876926926749214863536422912, 340282366920938463463374607431768215552), (211106232532992, 1361129467683753853853498429727072845824, 1020847100762815390390123822295304634368), (351843720888320,
  2722258935367507707706996859454145691648, 1701411834604692317316873037158841057280), (633318697598976, 5444517870735015415413993718908291383296, 2722258935367507707706996859454145691648), (1125899906842624,
  10889035741470030830827987437816582766592, 5444517870735015415413993718908291385344), (1125899906842624, 21778071482940061661655974875633165533184, 5444517870735015415413993718908291383296), (7881299347898368,
  43556142965880123323311949751266331066368, 38111625095145107907897956032358039683072), (10133099161583616, 87112285931760246646623899502532662132736, 49000660836615138738725943470174622449664), (27021597764222976,
  174224571863520493293247799005065324265472, 87112285931760246646623899502532662132736), (36028797018963968, 348449143727040986586495598010130648530944, 174224571863520493293247799005065324281856), (108086391056891904,
  696898287454081973172991196020261297061888, 522673715590561479879743397015195972796416), (180143985094819840, 1393796574908163946345982392040522594123776, 871122859317602466466238995025326621327360), (324259173170675712,
  2787593149816327892691964784081045188247552, 1393796574908163946345982392040522594123776), (576460752303423488, 5575186299632655785383929568162090376495104, 2787593149816327892691964784081045188255744), (576460752303423488,
  11150372599265311570767859136324180752990208, 2787593149816327892691964784081045188247552), (4035225266123964416, 22300745198530623141535718272648361505980416, 19513152048714295248843753488567316317732864), (5188146770730811392,
  44601490397061246283071436545296723011960832, 25088338348346951034227683056729406694227968), (13835058055282163712, 89202980794122492566142873090593446023921664, 44601490397061246283071436545296723011960832),
  (18446744073709551616, 178405961588244985132285746181186892047843328, 89202980794122492566142873090593446023987200), (55340232221128654848, 356811923176489970264571492362373784095686656,
  267608942382367477698428619271780338071764992), (92233720368547758080, 713623846352979940529142984724747568191373312, 446014903970612462830714365452967230119608320), (166020696663385964544,
  1427247692705959881058285969449495136382746624, 713623846352979940529142984724747568191373312), (295147905179352825856, 2854495385411919762116571938898990272765493248, 1427247692705959881058285969449495136382779392),
  (295147905179352825856, 5708990770823839524233143877797980545530986496, 1427247692705959881058285969449495136382746624), (295147905179352825856, 11417981541647679048466287755595961091061972992,
  1427247692705959881058285969449495136382746624), (3836922767331586736128, 22835963083295358096932575511191922182123945984, 18554220005177478453757717602843436772975706112), (5607810198407703691264,
  45671926166590716193865151022383844364247891968, 27117706161413237740107433419540407591272185856), (9739880870918643253248, 91343852333181432387730302044767688728495783936, 47099173859296676074923436991833339500630638592),
  (28334198897217871282176, 182687704666362864775460604089535377456991567872, 91343852333181432387730302044767688728495783936), (37778931862957161709568, 365375409332725729550921208179070754913983135744,
  182687704666362864775460604089535377456991830016), (113336795588871485128704, 730750818665451459101842416358141509827966271488, 548063113999088594326381812268606132370974703616), (188894659314785808547840,
  1461501637330902918203684832716283019655932542976, 913438523331814323877303020447676887284957839360), (340010386766614455386112, 2923003274661805836407369665432566039311865085952,
  1461501637330902918203684832716283019655932542976), (604462909807314587353088, 5846006549323611672814739330865132078623730171904, 2923003274661805836407369665432566039311865217024), (604462909807314587353088,
  11692013098647223345629478661730264157247460343808, 2923003274661805836407369665432566039311865085952), (4231240368651202111471616, 23384026197294446691258957323460528314494920687616,
  20461022922632640854851587658027962275183055601664), (5440166188265831286177792, 46768052394588893382517914646921056628989841375232, 26307029471956252527666326988893094353806785773568), (14507109835375550096474112,
  93536104789177786765035829293842113257979682750464, 46768052394588893382517914646921056628989841375232), (19342813113834066795298816, 187072209578355573530071658587684226515959365500928,
  93536104789177786765035829293842113257979683799040), (58028439341502200385896448, 374144419156711147060143317175368453031918731001856, 280608314367533360295107487881526339773939048251392), (96714065569170333976494080,
  748288838313422294120286634350736906063837462003712, 467680523945888933825179146469210566289898413752320), (174085318024506601157689344, 1496577676626844588240573268701473812127674924007424,
  748288838313422294120286634350736906063837462003712), (309485009821345068724781056, 2993155353253689176481146537402947624255349848014848, 1496577676626844588240573268701473812127674924531712), (309485009821345068724781056,
  5986310706507378352962293074805895248510699696029696, 1496577676626844588240573268701473812127674924007424), (2166395068749415481073467392, 11972621413014756705924586149611790497021399392059392,
  10476043736387912117684012880910316684893724468051968), (2785365088392105618523029504, 23945242826029513411849172299223580994042798784118784, 13469199089641601294165159418313264309149074316066816), (7427640235712281649394745344,
  47890485652059026823698344598447161988085597568237568, 23945242826029513411849172299223580994042798784118784), (9903520314283042199192993792, 95780971304118053647396689196894323976171195136475136,
  47890485652059026823698344598447161988085597576626176), (29710560942849126597578981376, 191561942608236107294793378393788647952342390272950272, 143671456956177080471095033795341485964256792704712704),
  (49517601571415210995964968960, 383123885216472214589586756787577295904684780545900544, 239452428260295134118491722992235809940427987841187840), (89131682828547379792736944128,
  766247770432944429179173513575154591809369561091801088, 383123885216472214589586756787577295904684780545900544), (158456325028528675187087900672, 1532495540865888858358347027150309183618739122183602176,
  766247770432944429179173513575154591809369561095995392), (475368975085586025561263702016, 3064991081731777716716694054300618367237478244367204352, 2298743311298833287537520540725463775428108683275403264),
  (792281625142643375935439503360, 6129982163463555433433388108601236734474956488734408704, 3831238852164722145895867567875772959046847805459005440), (1426106925256758076683791106048,
  12259964326927110866866776217202473468949912977468817408, 6129982163463555433433388108601236734474956488734408704), (2535301200456458802993406410752, 24519928653854221733733552434404946937899825954937634816,
  12259964326927110866866776217202473468949912977470914560), (7605903601369376408980219232256, 49039857307708443467467104868809893875799651909875269632, 36779892980781332600600328651607420406849738932406452224),
  (12676506002282294014967032053760, 98079714615416886934934209737619787751599303819750539264, 61299821634635554334333881086012367344749564887344087040), (22817710804108129226940657696768,
  196159429230833773869868419475239575503198607639501078528, 110339678942343997801800985954822261220549216797219356672), (43100120407759799650887908982784, 392318858461667547739736838950479151006397215279002157056,
  196159429230833773869868419475239575503198607639501078528), (81129638414606681695789005144064, 784637716923335095479473677900958302012794430558004314112, 392318858461667547739736838950479151006397215279004254208),
  (243388915243820045087367015432192, 1569275433846670190958947355801916604025588861116008628224, 1176956575385002643219210516851437453019191645837006471168), (405648192073033408478945025720320,
  3138550867693340381917894711603833208051177722232017256448, 1961594292308337738698684194752395755031986076395010785280), (730166745731460135262101046296576, 6277101735386680763835789423207666416102355444464034512896,
  3530869726155007929657631550554312359057574937511019413504), (1379203853048313588828413087449088, 12554203470773361527671578846415332832204710888928069025792, 6669420593848348311575526262158145567108752659743036669952),
  (2677278067682020495961037169754112, 25108406941546723055343157692830665664409421777856138051584, 12946522329235029075411315685365811983211108104207071182848), (5273426496949434310226285334364160,
  50216813883093446110686315385661331328818843555712276103168, 25108406941546723055343157692830665664409421777856138051584), (10384593717069655257060992658440192, 100433627766186892221372630771322662657637687111424552206336,
  50216813883093446110686315385661331328818843555712278200320), (31153781151208965771182977975320576, 200867255532373784442745261542645325315275374222849104412672, 150650441649280338332058946156983993986456530667136828309504),
  (51922968585348276285304963292200960, 401734511064747568885490523085290650630550748445698208825344, 251084069415467230553431576928306656644094217778561380515840), (93461343453626897313548933925961728,
  803469022129495137770981046170581301261101496891396417650688, 451951324947841014996176838470951981959369592001410484928512), (176538093190184139370036875193483264, 1606938044258990275541962092341162602522202993782792835301376,
  853685836012588583881667361556242632589920340447108693753856), (342691592663298623483012757728526336, 3213876088517980551083924184682325205044405987565585670602752, 1657154858142083721652648407726823933851021837338505111404544),
  (674998591609527591708964522798612480, 6427752177035961102167848369364650410088811975131171341205504, 3213876088517980551083924184682325205044405987565585670602752), (1329227995784915872903807060280344576,
  12855504354071922204335696738729300820177623950262342682411008, 6427752177035961102167848369364650410088811975131171343302656), (3987683987354747618711421180841033728,
  25711008708143844408671393477458601640355247900524685364822016, 19283256531107883306503545108093951230266435925393514023616512), (6646139978924579364519035301401722880,
  51422017416287688817342786954917203280710495801049370729644032, 32138760885179805510839241846823252050444059875655856706027520), (1329227995784915872903807060280344576,
  102844034832575377634685573909834406561420991602098741459288064, 6427752177035961102167848369364650410088811975131171341205504), (22596875928343569839364720024765857792,
  205688069665150755269371147819668813122841983204197482918576128, 109271787009611338736853422279199056971509803577229912800493568), (43864523860902223805825632989251371008,
  411376139330301510538742295639337626245683966408394965837152256, 212115821842186716371538996189033463532930795179328654259781632), (97033643692298858721977915400465154048,
  822752278660603021077484591278675252491367932816789931674304512, 469225908923625160458252930963619479936483274184575507908001792), (171470411456254147604591110776164450304,
  1645504557321206042154969182557350504982735865633579863348609024, 829180030837638982179652439648039902901456744791921103015510016), (361550014853497117429835520396253724672,
  3291009114642412084309938365114701009965471731267159726697218048, 1645504557321206042154969182557350504982735865633579863348609024), (680564733841876926926749214863536422912,
  6582018229284824168619876730229402019930943462534319453394436096, 3291009114642412084309938365114701009965471731267159726699315200), (2041694201525630780780247644590609268736,
  13164036458569648337239753460458804039861886925068638906788872192, 9873027343927236252929815095344103029896415193801479180091654144), (3402823669209384634633746074317682114560,
  26328072917139296674479506920917608079723773850137277813577744384, 16455045573212060421549691825573505049827358656335798633486090240), (680564733841876926926749214863536422912,
  52656145834278593348959013841835216159447547700274555627155488768, 3291009114642412084309938365114701009965471731267159726697218048), (11569600475311907757754736652680119189504,
  105312291668557186697918027683670432318895095400549111254310977536, 55947154948921005433268952206949917169413019431541715353852706816), (22458636216781938588582724090496701956096,
  210624583337114373395836055367340864637790190801098222508621955072, 108603300783199598782227966048785133328860567131816270981008195584), (49681225570457015665652692685038158872576,
  421249166674228746791672110734681729275580381602196445017243910144, 240243665368896082154625500653373173727479436382502660048896917504), (87792850665602123573550648717396198555648,
  842498333348457493583344221469363458551160763204392890034487820288, 424540175788871158875982049099796430285545853333463604743941128192), (348449143727040986586495598010130648530943, 1,
  842498333348457493583344221469363458551160763204392890034487820288)]

section
variable (w : World) [hgb : At w 0 0 bysC] [hmx : MxI w]
omit hgb hmx in
theorem same_ex (a : Option Addr) (c b n : Nat) (xs : List Int) (hn : n = xs.length) (hx : n ≤ 100) (h1 : RowV w false 1 (.slice a n c) (xs.map intV)) (h2 : Bk w b (xs.map intV) 3) : Ct Tryz.prog 51 [.slice a n c, .slice (some ⟨b, 0, none⟩) n n] w fun v _ => v = .bool true := by
  subst hn
  have i1 : RowI w (.slice a xs.length c) false 1 (xs.map intV) := ⟨h1⟩
  have i2 : RowI w (.slice (some ⟨b, 0, none⟩) xs.length xs.length) false 1 (xs.map intV) := ⟨by have := h2.row (fun x hx => by obtain ⟨y, _, rfl⟩ := List.mem_map.1 hx; rfl) (by rw [List.length_map]; omega); rwa [List.length_map] at this⟩
  exact (same_law6 a (some ⟨b, 0, none⟩) c xs.length xs xs w).mono fun v _ _ e => e.trans (by rw [decide_eq_true rfl])
set_option maxRecDepth 20000 in
set_option maxHeartbeats 16000000 in
theorem alive_law6 : Ct Tryz.prog 13 [] w fun v _ => v = .bool true := by
  refine Ct.ofW (by simp) ?_
  (refine jjB ?_; refine jjC ?_; apply jJ; exact eB rfl; refine jz ?_; refine jjB ?_; refine jjC ?_)
  refine jjQ (deck_law6 _) rfl rfl ?_
  rintro _ w1 hS1 ⟨d1, rfl, hD1⟩
  skip
  refine jjQ (ex_runs d1 _ hD1) rfl rfl ?_
  rintro _ w2 hS2 ⟨a2, c2, rfl, hR2⟩
  (apply jI; exact eU rfl; refine ju rfl rfl ?_; refine ju rfl rfl ?_; apply jJ; exact eS rfl; apply jJ; exact eI rfl; refine jz ?_; refine jjB ?_; refine jjC ?_)
  refine jjQ (deck_law6 _) rfl rfl ?_
  rintro _ w3 hS3 ⟨d3, rfl, hD3⟩
  skip
  refine jjQ (ex_passes2 d3 _ hD3) rfl rfl ?_
  rintro _ w4 hS4 rfl
  (apply jI; exact eU rfl; refine ju rfl rfl ?_; refine ju rfl rfl ?_; apply jJ; exact eI rfl; apply jJ; exact eI rfl; refine jz ?_; refine jjB ?_; refine jjC ?_)
  refine jjQ (deck_law6 _) rfl rfl ?_
  rintro _ w5 hS5 ⟨d5, rfl, hD5⟩
  skip
  refine jjQ (ex_plan2 d5 _ hD5) rfl rfl ?_
  rintro _ w6 hS6 ⟨a6, c6, rs, rfl, hrs, hP6, hI6⟩
  have iP6 : RowI w6 (.slice a6 rs.length c6) false 1 (rs.map encW) := ⟨hP6⟩
  (apply jI; exact eU rfl; refine ju rfl rfl ?_; refine ju rfl rfl ?_; apply jJ; exact eS rfl; apply jJ; exact eI rfl; refine jz ?_; refine jjB ?_; refine jjC ?_)
  refine jjQ (deck_law6 _) rfl rfl ?_
  rintro _ w7 hS7 ⟨d7, rfl, hD7⟩
  (apply jI; exact eS rfl)
  refine jjQ (ex_sort d7 _ hD7 a6 c6 rs hrs) rfl rfl ?_
  rintro _ w8 hS8 ⟨a8, c8, rfl, hR8⟩
  (apply jI; exact eU rfl; refine ju rfl rfl ?_; refine ju rfl rfl ?_; apply jJ; exact eS rfl; apply jJ; exact eI rfl; refine jz ?_; refine jjB ?_; refine jjC ?_)
  refine jjQ (deck_law6 _) rfl rfl ?_
  rintro _ w9 hS9 ⟨d9, rfl, hD9⟩
  skip
  refine jjQ (ex_proof2 d9 _ hD9) rfl rfl ?_
  rintro _ w10 hS10 ⟨a10, c10, rfl, hR10⟩
  (apply jI; exact eU rfl; refine ju rfl rfl ?_; refine ju rfl rfl ?_; apply jJ; exact eS rfl; apply jJ; exact eI rfl; refine jz ?_; refine jjB ?_; refine jjC ?_)
  refine jjQ (deck_law6 _) rfl rfl ?_
  rintro _ w11 hS11 ⟨d11, rfl, hD11⟩
  skip
  refine jjQ (ex_keep d11 _ hD11) rfl rfl ?_
  rintro _ w12 hS12 ⟨a12, c12, rfl, hR12⟩
  (apply jI; exact eU rfl; refine ju rfl rfl ?_; refine ju rfl rfl ?_; apply jJ; exact eS rfl; apply jJ; exact eI rfl; refine jz ?_; refine jjB ?_; refine jjC ?_)
  refine jjQ (deck_law6 _) rfl rfl ?_
  rintro _ w13 hS13 ⟨d13, rfl, hD13⟩
  skip
  refine jjQ (ex_chains d13 _ hD13) rfl rfl ?_
  rintro _ w14 hS14 ⟨a14, c14, rfl, hR14⟩
  (apply jI; exact eU rfl; refine ju rfl rfl ?_; refine ju rfl rfl ?_; apply jJ; exact eS rfl; apply jJ; exact eI rfl; refine jz ?_; refine jjB ?_; refine jjC ?_)
  refine jjQ (deck_law6 _) rfl rfl ?_
  rintro _ w15 hS15 ⟨d15, rfl, hD15⟩
  skip
  refine jjQ (ex_mend d15 _ hD15) rfl rfl ?_
  rintro _ w16 hS16 ⟨a16, c16, rfl, hR16⟩
  (apply jI; exact eU rfl; refine ju rfl rfl ?_; refine ju rfl rfl ?_; apply jJ; exact eS rfl; apply jJ; exact eI rfl; refine jz ?_; refine jjB ?_; refine jjC ?_)
  refine jjQ (deck_law6 _) rfl rfl ?_
  rintro _ w17 hS17 ⟨d17, rfl, hD17⟩
  (apply jI; exact eS rfl)
  refine jjQ (ex_moved d17 _ hD17 a16 c16 (hR16.ext hS17.ext)) rfl rfl ?_
  rintro _ w18 hS18 ⟨a18, c18, rfl, hR18⟩
  (apply jI; exact eU rfl; refine ju rfl rfl ?_; refine ju rfl rfl ?_; apply jJ; exact eS rfl; apply jJ; exact eI rfl; refine jz ?_; refine jjB ?_; refine jjC ?_)
  refine jjQ (slips_law6 _) rfl rfl ?_
  rintro _ w19 hS19 ⟨d19, rfl, hD19⟩
  skip
  refine jjQ (ex_ranks d19 _ hD19) rfl rfl ?_
  rintro _ w20 hS20 ⟨a20, c20, rfl, hR20⟩
  (apply jI; exact eU rfl; refine ju rfl rfl ?_; refine ju rfl rfl ?_; apply jJ; exact eS rfl; apply jJ; exact eI rfl; refine jz ?_; refine jjB ?_; refine jjC ?_)
  refine jjQ (slips_law6 _) rfl rfl ?_
  rintro _ w21 hS21 ⟨d21, rfl, hD21⟩
  skip
  refine jjQ (ex_file d21 _ hD21) rfl rfl ?_
  rintro _ w22 hS22 ⟨a22, c22, rfl, hR22⟩
  (apply jI; exact eU rfl; refine ju rfl rfl ?_; refine ju rfl rfl ?_; refine ju rfl rfl ?_; apply jJ; exact eS rfl; apply jJ; exact eI rfl; apply jJ; exact eI rfl; refine jz ?_; refine jjB ?_)
  have e4 : fileL exS 2 2 = [((0, 0, 0), xAnd, ⟨#[]⟩, ⟨#[]⟩), ((0, 0, 0), xOld, ⟨#[]⟩, ⟨#[]⟩), ((0, 0, 0), xSea, ⟨#[]⟩, ⟨#[]⟩), ((0, 0, 0), xSea, ⟨#[]⟩, xIs)] := exS_file
  rw [e4] at hR22
  obtain ⟨pb, po, rfl, -⟩ := hR22.place' (j := 0) rfl
  have P0 : At w22 pb (po + 0 * 6) [.int .i64 0, .int .i64 0, .int .i64 0, .string xAnd, .string ⟨#[]⟩, .string ⟨#[]⟩] := place_k hR22 (j := 0) rfl
  have P1 : At w22 pb (po + 1 * 6) [.int .i64 0, .int .i64 0, .int .i64 0, .string xOld, .string ⟨#[]⟩, .string ⟨#[]⟩] := place_k hR22 (j := 1) rfl
  have P2 : At w22 pb (po + 2 * 6) (encSl exS[0]).cells.toList := place_k hR22 (j := 2) rfl
  have P3 : At w22 pb (po + 3 * 6) (encSl exS[2]).cells.toList := place_k hR22 (j := 3) rfl
  have i10 : RowI w22 (.slice a10 ([(3, 2), (2, 0)] : List (Int × Int)).length c10) true 2 (([(3, 2), (2, 0)] : List (Int × Int)).map encII) := ⟨hR10.ext inferInstance⟩
  have i16 : RowI w22 (.slice a16 ([(0, 3), (2, 1)] : List (Int × Int)).length c16) true 2 (([(0, 3), (2, 1)] : List (Int × Int)).map encII) := ⟨hR16.ext inferInstance⟩
  have hl2 : rs.length = 2 := by have := congrArg List.length hrs; simpa using this
  have iP22 : RowI w22 (.slice a6 rs.length c6) false 1 (rs.map encW) := inferInstance
  have iI22 : RowsI w22 rs := hI6.ext inferInstance
  refine W.keep0 [(1, .slice a2 4 c2), (2, .int .i64 0), (3, .int .i64 2), (4, .int .i64 0), (5, .slice a6 rs.length c6), (6, .int .i64 0), (7, .slice a8 4 c8), (8, .int .i64 0), (9, .slice a10 2 c10), (10, .int .i64 0), (11, .slice a12 2 c12), (12, .int .i64 0), (13, .slice a14 4 c14), (14, .int .i64 0), (15, .slice a16 2 c16), (16, .int .i64 0), (17, .slice a18 4 c18), (18, .int .i64 0), (19, .slice a20 4 c20), (20, .int .i64 0), (21, .slice (some ⟨pb, po, none⟩) 4 c22), (22, .int .i64 2), (23, .int .i64 0)] ⟨eS rfl, eI rfl, eI rfl, eI rfl, eS rfl, eI rfl, eS rfl, eI rfl, eS rfl, eI rfl, eS rfl, eI rfl, eS rfl, eI rfl, eS rfl, eI rfl, eS rfl, eI rfl, eS rfl, eI rfl, eS rfl, eI rfl, eI rfl, trivial⟩ fun s0 => ?_
  refine W.drawF (fun w' => Ext w22 w') aliveR (by decide +kernel) (by decide +kernel) ?_
  intro w23 hS23
  refine AnyF.take [0, 1, 2, 3] (by decide +kernel) inferInstance ?_
  (((apply jjT; exact rfl; rintro w' hq; have := hq.toStep; apply jI; exact eI rfl; refine jz ?_; exact ⟨rfl, rfl⟩; apply jjT; exact rfl; rintro w' hq; have := hq.toStep; refine jjh rfl rfl (by omega) ?_; refine jz ?_; exact ⟨rfl, rfl⟩; apply jjT; exact rfl; rintro w' hq; have := hq.toStep; apply jI; exact eB rfl; refine jz ?_; exact ⟨rfl, rfl⟩; apply jjT; exact rfl; rintro w' hq; have := hq.toStep; refine jT rfl rfl rfl ?_; apply jI; exact eS rfl; refine jz ?_; exact ⟨rfl, rfl⟩; refine jjU ?_)))
  (apply AnyF.one 4; (decide +kernel); exact rfl; (exact inferInstance))
  refine jT rfl rfl rfl ?_
  refine Ops.buildSliceF (cells := [.int .i64 2, .int .i64 0, .int .i64 1, .int .i64 0]) rfl rfl rfl ?_
  intro b24 w24 hb24 hs24 hS24 hk24
  refine jz ?_
  (apply AnyF.one 5; (decide +kernel); exact rfl; (exact inferInstance))
  refine jT rfl rfl rfl ?_
  refine jjQ (same_ex _ a2 c2 b24 4 [2, 0, 1, 0] rfl (by decide) (hR2.ext inferInstance) hk24) rfl rfl ?_
  rintro _ w25 hS25 rfl
  refine jz ?_
  refine AnyF.take [6, 7, 8, 9, 10, 11, 12, 13, 14, 15, 16, 17, 18, 19, 20] (by decide +kernel) inferInstance ?_
  (((apply jjT; exact rfl; rintro w' hq; have := hq.toStep; apply jK rfl; exact eB rfl; refine jz ?_; exact ⟨rfl, rfl⟩; apply jjT; exact rfl; rintro w' hq; have := hq.toStep; apply jI; exact eB rfl; refine jz ?_; exact ⟨rfl, rfl⟩; apply jjT; exact rfl; rintro w' hq; have := hq.toStep; refine jT rfl rfl rfl ?_; apply jI; exact eI rfl; refine jz ?_; exact ⟨rfl, rfl⟩; apply jjT; exact rfl; rintro w' hq; have := hq.toStep; refine jT rfl rfl rfl ?_; refine jjh rfl rfl (by omega) ?_; refine jz ?_; exact ⟨rfl, rfl⟩; apply jjT; exact rfl; rintro w' hq; have := hq.toStep; apply jK rfl; exact eB rfl; refine jz ?_; exact ⟨rfl, rfl⟩; apply jjT; exact rfl; rintro w' hq; have := hq.toStep; apply jI; exact eB rfl; refine jz ?_; exact ⟨rfl, rfl⟩; apply jjT; exact rfl; rintro w' hq; have := hq.toStep; refine jT rfl rfl rfl ?_; apply jI; exact eI rfl; refine jz ?_; exact ⟨rfl, rfl⟩; apply jjT; exact rfl; rintro w' hq; have := hq.toStep; refine jT rfl rfl rfl ?_; refine jjh rfl rfl (by omega) ?_; refine jz ?_; exact ⟨rfl, rfl⟩; apply jjT; exact rfl; rintro w' hq; have := hq.toStep; apply jK rfl; exact eB rfl; refine jz ?_; exact ⟨rfl, rfl⟩; apply jjT; exact rfl; rintro w' hq; have := hq.toStep; apply jI; exact eB rfl; refine jz ?_; exact ⟨rfl, rfl⟩; apply jjT; exact rfl; rintro w' hq; have := hq.toStep; refine jT rfl rfl rfl ?_; apply jI; exact eI rfl; refine jz ?_; exact ⟨rfl, rfl⟩; apply jjT; exact rfl; rintro w' hq; have := hq.toStep; refine jT rfl rfl rfl ?_; refine jjh rfl rfl (by omega) ?_; refine jz ?_; exact ⟨rfl, rfl⟩; apply jjT; exact rfl; rintro w' hq; have := hq.toStep; apply jK rfl; exact eB rfl; refine jz ?_; exact ⟨rfl, rfl⟩; apply jjT; exact rfl; rintro w' hq; have := hq.toStep; apply jI; exact eB rfl; refine jz ?_; exact ⟨rfl, rfl⟩; apply jjT; exact rfl; rintro w' hq; have := hq.toStep; refine jT rfl rfl rfl ?_; apply jI; exact eS rfl; refine jz ?_; exact ⟨rfl, rfl⟩; refine jjU ?_)))
  refine AnyF.joinB 21 22 (d1 := 103) (d2 := 104) (by decide) (fun b => .slice (some ⟨b, 0, none⟩) 4 4) (fun b => .slice (some ⟨b, 0, none⟩) 4 4) (fun b1 b2 w2 => Ext w25 w2 ∧ Bk w2 b1 [.int .i64 0, .int .i64 0, .int .i64 1, .int .i64 0] 3 ∧ Bk w2 b2 [.int .i64 1, .int .i64 0, .int .i64 0, .int .i64 0] 3) (by decide +kernel) rfl rfl inferInstance ?_ ?_ ?_
  · refine jT rfl rfl rfl ?_
    refine Ops.buildSliceF (cells := [.int .i64 0, .int .i64 0, .int .i64 1, .int .i64 0]) rfl rfl rfl ?_
    intro b1 w1' hb1 hs1 hS1' hk1
    refine jz ?_
    refine ⟨inferInstance, ?_⟩
    refine jT rfl rfl rfl ?_
    refine Ops.buildSliceF (cells := [.int .i64 1, .int .i64 0, .int .i64 0, .int .i64 0]) rfl rfl rfl ?_
    intro b2 w2' hb2 hs2 hS2' hk2
    refine jz ?_
    exact ⟨b1, b2, rfl, inferInstance, inferInstance, inferInstance⟩
  · refine jT rfl rfl rfl ?_
    refine Ops.buildSliceF (cells := [.int .i64 1, .int .i64 0, .int .i64 0, .int .i64 0]) rfl rfl rfl ?_
    intro b1 w1' hb1 hs1 hS1' hk1
    refine jz ?_
    refine ⟨inferInstance, ?_⟩
    refine jT rfl rfl rfl ?_
    refine Ops.buildSliceF (cells := [.int .i64 0, .int .i64 0, .int .i64 1, .int .i64 0]) rfl rfl rfl ?_
    intro b2 w2' hb2 hs2 hS2' hk2
    refine jz ?_
    exact ⟨b2, b1, rfl, inferInstance, inferInstance, inferInstance⟩
  rintro b26 b27 w27 ⟨hE27, kk1, kk2⟩
  have hS27 := hE27.toStep
  (apply AnyF.one 23; (decide +kernel); exact rfl; (exact inferInstance))
  refine jT rfl rfl rfl ?_
  refine Ops.buildSliceF (cells := [.slice (some ⟨b26, 0, none⟩) 4 4, .slice (some ⟨b27, 0, none⟩) 4 4]) rfl rfl rfl ?_
  intro b28 w28 hb28 hs28 hS28 hk28
  refine jz ?_
  obtain ⟨ts, hts⟩ : ∃ ts : List Rw, ts = [(some ⟨b26, 0, none⟩, 4, [0, 0, 1, 0]), (some ⟨b27, 0, none⟩, 4, [1, 0, 0, 0])] := ⟨_, rfl⟩
  have it : RowI w28 (.slice (some ⟨b28, 0, none⟩) ts.length 2) false 1 (ts.map encW) := ⟨by subst hts; exact hk28.row (fun x hx => by simp at hx; rcases hx with rfl | rfl <;> rfl) (by simp)⟩
  have k1 : Bk w28 b26 [.int .i64 0, .int .i64 0, .int .i64 1, .int .i64 0] 3 := inferInstance
  have k2 : Bk w28 b27 [.int .i64 1, .int .i64 0, .int .i64 0, .int .i64 0] 3 := inferInstance
  have its : RowsI w28 ts := ⟨by
    subst hts
    intro x hx
    simp only [List.mem_cons, List.not_mem_nil, or_false] at hx
    rcases hx with rfl | rfl
    · exact k1.row (fun x hx => by simp at hx; rcases hx with rfl | rfl | rfl | rfl <;> rfl) (by simp)
    · exact k2.row (fun x hx => by simp at hx; rcases hx with rfl | rfl | rfl | rfl <;> rfl) (by simp)⟩
  have ets : ts.length = 2 := by rw [hts]; rfl
  have iP27 : RowI w28 (.slice a6 rs.length c6) false 1 (rs.map encW) := inferInstance
  have iI27 : RowsI w28 rs := inferInstance
  (apply AnyF.one 24; (decide +kernel); exact rfl; (exact inferInstance))
  refine jT rfl rfl rfl ?_
  refine jjQ (SameLists_yes a6 c6 rs _ (some ⟨b28, 0, none⟩) 2 ts (by rw [hrs, hts]; rfl) (by omega)) rfl (by rw [ets]; rfl) ?_
  rintro _ w29 hS29 rfl
  refine jz ?_
  refine AnyF.take [25, 26, 27, 28, 29, 30, 31] (by decide +kernel) inferInstance ?_
  (((apply jjT; exact rfl; rintro w' hq; have := hq.toStep; apply jK rfl; exact eB rfl; refine jz ?_; exact ⟨rfl, rfl⟩; apply jjT; exact rfl; rintro w' hq; have := hq.toStep; apply jI; exact eB rfl; refine jz ?_; exact ⟨rfl, rfl⟩; apply jjT; exact rfl; rintro w' hq; have := hq.toStep; refine jT rfl rfl rfl ?_; apply jI; exact eI rfl; refine jz ?_; exact ⟨rfl, rfl⟩; apply jjT; exact rfl; rintro w' hq; have := hq.toStep; refine jT rfl rfl rfl ?_; refine jjh rfl rfl (by omega) ?_; refine jz ?_; exact ⟨rfl, rfl⟩; apply jjT; exact rfl; rintro w' hq; have := hq.toStep; apply jK rfl; exact eB rfl; refine jz ?_; exact ⟨rfl, rfl⟩; apply jjT; exact rfl; rintro w' hq; have := hq.toStep; apply jI; exact eB rfl; refine jz ?_; exact ⟨rfl, rfl⟩; apply jjT; exact rfl; rintro w' hq; have := hq.toStep; refine jT rfl rfl rfl ?_; apply jI; exact eS rfl; refine jz ?_; exact ⟨rfl, rfl⟩; refine jjU ?_)))
  (apply AnyF.one 32; (decide +kernel); exact rfl; (exact inferInstance))
  refine jT rfl rfl rfl ?_
  refine Ops.buildSliceF (cells := [.int .i64 1, .int .i64 3, .int .i64 2, .int .i64 0]) rfl rfl rfl ?_
  intro b30 w30 hb30 hs30 hS30 hk30
  refine jz ?_
  (apply AnyF.one 33; (decide +kernel); exact rfl; (exact inferInstance))
  refine jT rfl rfl rfl ?_
  refine jjQ (same_ex _ a8 c8 b30 4 [1, 3, 2, 0] rfl (by decide) (hR8.ext inferInstance) hk30) rfl rfl ?_
  rintro _ w31 hS31 rfl
  refine jz ?_
  refine AnyF.take [34, 35, 36, 37, 38, 39, 40] (by decide +kernel) inferInstance ?_
  (((apply jjT; exact rfl; rintro w' hq; have := hq.toStep; apply jK rfl; exact eB rfl; refine jz ?_; exact ⟨rfl, rfl⟩; apply jjT; exact rfl; rintro w' hq; have := hq.toStep; apply jI; exact eB rfl; refine jz ?_; exact ⟨rfl, rfl⟩; apply jjT; exact rfl; rintro w' hq; have := hq.toStep; refine jT rfl rfl rfl ?_; apply jI; exact eI rfl; refine jz ?_; exact ⟨rfl, rfl⟩; apply jjT; exact rfl; rintro w' hq; have := hq.toStep; refine jT rfl rfl rfl ?_; refine jjh rfl rfl (by omega) ?_; refine jz ?_; exact ⟨rfl, rfl⟩; apply jjT; exact rfl; rintro w' hq; have := hq.toStep; apply jK rfl; exact eB rfl; refine jz ?_; exact ⟨rfl, rfl⟩; apply jjT; exact rfl; rintro w' hq; have := hq.toStep; apply jI; exact eB rfl; refine jz ?_; exact ⟨rfl, rfl⟩; apply jjT; exact rfl; rintro w' hq; have := hq.toStep; refine jT rfl rfl rfl ?_; apply jI; exact eS rfl; refine jz ?_; exact ⟨rfl, rfl⟩; refine jjU ?_)))
  refine AnyF.take [41] (by decide +kernel) inferInstance (jjT (v := encII (3, 2)) rfl (fun w' q1 => ?_) (jjU ?_)); (refine jT rfl rfl rfl ?_; (refine jjS (cells := [.int .i64 3, .int .i64 2]) ?_ ?_; exact rfl); refine jz ?_; exact ⟨rfl, rfl⟩)
  refine AnyF.take [42] (by decide +kernel) inferInstance (jjT (v := encII (2, 0)) rfl (fun w' q1 => ?_) (jjU ?_)); (refine jT rfl rfl rfl ?_; (refine jjS (cells := [.int .i64 2, .int .i64 0]) ?_ ?_; exact rfl); refine jz ?_; exact ⟨rfl, rfl⟩)
  (apply AnyF.one 43; (decide +kernel); exact rfl; (exact inferInstance))
  refine jT rfl rfl rfl ?_
  refine Ops.buildSliceF (cells := [.int .i64 3, .int .i64 2, .int .i64 2, .int .i64 0]) rfl rfl rfl ?_
  intro b32 w32 hb32 hs32 hS32 hk32
  refine jz ?_
  have i32' : RowI w32 (.slice (some ⟨b32, 0, none⟩) ([(3, 2), (2, 0)] : List (Int × Int)).length 2) true 2 (([(3, 2), (2, 0)] : List (Int × Int)).map encII) := ⟨Bk.rows (xs := ([(3, 2), (2, 0)] : List (Int × Int)).map encII) hk32 (by simp [fitsV, encII]) (by simp)⟩
  (apply AnyF.one 44; (decide +kernel); exact rfl; (exact inferInstance))
  refine jT rfl rfl rfl ?_
  refine jjQ (SamePairs_yes a10 (some ⟨b32, 0, none⟩) c10 2 [(3, 2), (2, 0)] _ (by decide)) rfl rfl ?_
  rintro _ w33 hS33 rfl
  refine jz ?_
  refine AnyF.take [45, 46, 47, 48, 49, 50, 51] (by decide +kernel) inferInstance ?_
  (((apply jjT; exact rfl; rintro w' hq; have := hq.toStep; apply jK rfl; exact eB rfl; refine jz ?_; exact ⟨rfl, rfl⟩; apply jjT; exact rfl; rintro w' hq; have := hq.toStep; apply jI; exact eB rfl; refine jz ?_; exact ⟨rfl, rfl⟩; apply jjT; exact rfl; rintro w' hq; have := hq.toStep; refine jT rfl rfl rfl ?_; apply jI; exact eI rfl; refine jz ?_; exact ⟨rfl, rfl⟩; apply jjT; exact rfl; rintro w' hq; have := hq.toStep; refine jT rfl rfl rfl ?_; refine jjh rfl rfl (by omega) ?_; refine jz ?_; exact ⟨rfl, rfl⟩; apply jjT; exact rfl; rintro w' hq; have := hq.toStep; apply jK rfl; exact eB rfl; refine jz ?_; exact ⟨rfl, rfl⟩; apply jjT; exact rfl; rintro w' hq; have := hq.toStep; apply jI; exact eB rfl; refine jz ?_; exact ⟨rfl, rfl⟩; apply jjT; exact rfl; rintro w' hq; have := hq.toStep; refine jT rfl rfl rfl ?_; apply jI; exact eS rfl; refine jz ?_; exact ⟨rfl, rfl⟩; refine jjU ?_)))
  (apply AnyF.one 52; (decide +kernel); exact rfl; (exact inferInstance))
  refine jT rfl rfl rfl ?_
  refine Ops.buildSliceF (cells := [.int .i64 1, .int .i64 2]) rfl rfl rfl ?_
  intro b34 w34 hb34 hs34 hS34 hk34
  refine jz ?_
  (apply AnyF.one 53; (decide +kernel); exact rfl; (exact inferInstance))
  refine jT rfl rfl rfl ?_
  refine jjQ (same_ex _ a12 c12 b34 2 [1, 2] rfl (by decide) (hR12.ext inferInstance) hk34) rfl rfl ?_
  rintro _ w35 hS35 rfl
  refine jz ?_
  refine AnyF.take [54, 55, 56, 57, 58, 59, 60] (by decide +kernel) inferInstance ?_
  (((apply jjT; exact rfl; rintro w' hq; have := hq.toStep; apply jK rfl; exact eB rfl; refine jz ?_; exact ⟨rfl, rfl⟩; apply jjT; exact rfl; rintro w' hq; have := hq.toStep; apply jI; exact eB rfl; refine jz ?_; exact ⟨rfl, rfl⟩; apply jjT; exact rfl; rintro w' hq; have := hq.toStep; refine jT rfl rfl rfl ?_; apply jI; exact eI rfl; refine jz ?_; exact ⟨rfl, rfl⟩; apply jjT; exact rfl; rintro w' hq; have := hq.toStep; refine jT rfl rfl rfl ?_; refine jjh rfl rfl (by omega) ?_; refine jz ?_; exact ⟨rfl, rfl⟩; apply jjT; exact rfl; rintro w' hq; have := hq.toStep; apply jK rfl; exact eB rfl; refine jz ?_; exact ⟨rfl, rfl⟩; apply jjT; exact rfl; rintro w' hq; have := hq.toStep; apply jI; exact eB rfl; refine jz ?_; exact ⟨rfl, rfl⟩; apply jjT; exact rfl; rintro w' hq; have := hq.toStep; refine jT rfl rfl rfl ?_; apply jI; exact eS rfl; refine jz ?_; exact ⟨rfl, rfl⟩; refine jjU ?_)))
  (apply AnyF.one 61; (decide +kernel); exact rfl; (exact inferInstance))
  refine jT rfl rfl rfl ?_
  refine Ops.buildSliceF (cells := [.int .i64 0, .int .i64 0, .int .i64 1, .int .i64 1]) rfl rfl rfl ?_
  intro b36 w36 hb36 hs36 hS36 hk36
  refine jz ?_
  (apply AnyF.one 62; (decide +kernel); exact rfl; (exact inferInstance))
  refine jT rfl rfl rfl ?_
  refine jjQ (same_ex _ a14 c14 b36 4 [0, 0, 1, 1] rfl (by decide) (hR14.ext inferInstance) hk36) rfl rfl ?_
  rintro _ w37 hS37 rfl
  refine jz ?_
  refine AnyF.take [63, 64, 65, 66, 67, 68, 69] (by decide +kernel) inferInstance ?_
  (((apply jjT; exact rfl; rintro w' hq; have := hq.toStep; apply jK rfl; exact eB rfl; refine jz ?_; exact ⟨rfl, rfl⟩; apply jjT; exact rfl; rintro w' hq; have := hq.toStep; apply jI; exact eB rfl; refine jz ?_; exact ⟨rfl, rfl⟩; apply jjT; exact rfl; rintro w' hq; have := hq.toStep; refine jT rfl rfl rfl ?_; apply jI; exact eI rfl; refine jz ?_; exact ⟨rfl, rfl⟩; apply jjT; exact rfl; rintro w' hq; have := hq.toStep; refine jT rfl rfl rfl ?_; refine jjh rfl rfl (by omega) ?_; refine jz ?_; exact ⟨rfl, rfl⟩; apply jjT; exact rfl; rintro w' hq; have := hq.toStep; apply jK rfl; exact eB rfl; refine jz ?_; exact ⟨rfl, rfl⟩; apply jjT; exact rfl; rintro w' hq; have := hq.toStep; apply jI; exact eB rfl; refine jz ?_; exact ⟨rfl, rfl⟩; apply jjT; exact rfl; rintro w' hq; have := hq.toStep; refine jT rfl rfl rfl ?_; apply jI; exact eS rfl; refine jz ?_; exact ⟨rfl, rfl⟩; refine jjU ?_)))
  refine AnyF.take [70] (by decide +kernel) inferInstance (jjT (v := encII (0, 3)) rfl (fun w' q1 => ?_) (jjU ?_)); (refine jT rfl rfl rfl ?_; (refine jjS (cells := [.int .i64 0, .int .i64 3]) ?_ ?_; exact rfl); refine jz ?_; exact ⟨rfl, rfl⟩)
  refine AnyF.take [71] (by decide +kernel) inferInstance (jjT (v := encII (2, 1)) rfl (fun w' q1 => ?_) (jjU ?_)); (refine jT rfl rfl rfl ?_; (refine jjS (cells := [.int .i64 2, .int .i64 1]) ?_ ?_; exact rfl); refine jz ?_; exact ⟨rfl, rfl⟩)
  (apply AnyF.one 72; (decide +kernel); exact rfl; (exact inferInstance))
  refine jT rfl rfl rfl ?_
  refine Ops.buildSliceF (cells := [.int .i64 0, .int .i64 3, .int .i64 2, .int .i64 1]) rfl rfl rfl ?_
  intro b38 w38 hb38 hs38 hS38 hk38
  refine jz ?_
  have i38' : RowI w38 (.slice (some ⟨b38, 0, none⟩) ([(0, 3), (2, 1)] : List (Int × Int)).length 2) true 2 (([(0, 3), (2, 1)] : List (Int × Int)).map encII) := ⟨Bk.rows (xs := ([(0, 3), (2, 1)] : List (Int × Int)).map encII) hk38 (by simp [fitsV, encII]) (by simp)⟩
  (apply AnyF.one 73; (decide +kernel); exact rfl; (exact inferInstance))
  refine jT rfl rfl rfl ?_
  refine jjQ (SameMoves_yes a16 (some ⟨b38, 0, none⟩) c16 2 [(0, 3), (2, 1)] _ (by decide)) rfl rfl ?_
  rintro _ w39 hS39 rfl
  refine jz ?_
  refine AnyF.take [74, 75, 76, 77, 78, 79, 80] (by decide +kernel) inferInstance ?_
  (((apply jjT; exact rfl; rintro w' hq; have := hq.toStep; apply jK rfl; exact eB rfl; refine jz ?_; exact ⟨rfl, rfl⟩; apply jjT; exact rfl; rintro w' hq; have := hq.toStep; apply jI; exact eB rfl; refine jz ?_; exact ⟨rfl, rfl⟩; apply jjT; exact rfl; rintro w' hq; have := hq.toStep; refine jT rfl rfl rfl ?_; apply jI; exact eI rfl; refine jz ?_; exact ⟨rfl, rfl⟩; apply jjT; exact rfl; rintro w' hq; have := hq.toStep; refine jT rfl rfl rfl ?_; refine jjh rfl rfl (by omega) ?_; refine jz ?_; exact ⟨rfl, rfl⟩; apply jjT; exact rfl; rintro w' hq; have := hq.toStep; apply jK rfl; exact eB rfl; refine jz ?_; exact ⟨rfl, rfl⟩; apply jjT; exact rfl; rintro w' hq; have := hq.toStep; apply jI; exact eB rfl; refine jz ?_; exact ⟨rfl, rfl⟩; apply jjT; exact rfl; rintro w' hq; have := hq.toStep; refine jT rfl rfl rfl ?_; apply jI; exact eS rfl; refine jz ?_; exact ⟨rfl, rfl⟩; refine jjU ?_)))
  (apply AnyF.one 81; (decide +kernel); exact rfl; (exact inferInstance))
  refine jT rfl rfl rfl ?_
  refine Ops.buildSliceF (cells := [.int .i64 1, .int .i64 3, .int .i64 2, .int .i64 0]) rfl rfl rfl ?_
  intro b40 w40 hb40 hs40 hS40 hk40
  refine jz ?_
  (apply AnyF.one 82; (decide +kernel); exact rfl; (exact inferInstance))
  refine jT rfl rfl rfl ?_
  refine jjQ (same_ex _ a18 c18 b40 4 [1, 3, 2, 0] rfl (by decide) (hR18.ext inferInstance) hk40) rfl rfl ?_
  rintro _ w41 hS41 rfl
  refine jz ?_
  refine AnyF.take [83, 84, 85, 86, 87, 88, 89] (by decide +kernel) inferInstance ?_
  (((apply jjT; exact rfl; rintro w' hq; have := hq.toStep; apply jK rfl; exact eB rfl; refine jz ?_; exact ⟨rfl, rfl⟩; apply jjT; exact rfl; rintro w' hq; have := hq.toStep; apply jI; exact eB rfl; refine jz ?_; exact ⟨rfl, rfl⟩; apply jjT; exact rfl; rintro w' hq; have := hq.toStep; refine jT rfl rfl rfl ?_; apply jI; exact eI rfl; refine jz ?_; exact ⟨rfl, rfl⟩; apply jjT; exact rfl; rintro w' hq; have := hq.toStep; refine jT rfl rfl rfl ?_; refine jjh rfl rfl (by omega) ?_; refine jz ?_; exact ⟨rfl, rfl⟩; apply jjT; exact rfl; rintro w' hq; have := hq.toStep; apply jK rfl; exact eB rfl; refine jz ?_; exact ⟨rfl, rfl⟩; apply jjT; exact rfl; rintro w' hq; have := hq.toStep; apply jI; exact eB rfl; refine jz ?_; exact ⟨rfl, rfl⟩; apply jjT; exact rfl; rintro w' hq; have := hq.toStep; refine jT rfl rfl rfl ?_; apply jI; exact eS rfl; refine jz ?_; exact ⟨rfl, rfl⟩; refine jjU ?_)))
  (apply AnyF.one 90; (decide +kernel); exact rfl; (exact inferInstance))
  refine jT rfl rfl rfl ?_
  refine Ops.buildSliceF (cells := [.int .i64 2, .int .i64 1, .int .i64 2, .int .i64 0]) rfl rfl rfl ?_
  intro b42 w42 hb42 hs42 hS42 hk42
  refine jz ?_
  (apply AnyF.one 91; (decide +kernel); exact rfl; (exact inferInstance))
  refine jT rfl rfl rfl ?_
  refine jjQ (same_ex _ a20 c20 b42 4 [2, 1, 2, 0] rfl (by decide) (hR20.ext inferInstance) hk42) rfl rfl ?_
  rintro _ w43 hS43 rfl
  refine jz ?_
  refine AnyF.take [92, 93, 94, 95, 96, 97, 98, 99, 100, 101, 102, 103, 104, 105, 106, 107] (by decide +kernel) inferInstance ?_
  (((apply jjT; exact rfl; rintro w' hq; have := hq.toStep; apply jK rfl; exact eB rfl; refine jz ?_; exact ⟨rfl, rfl⟩; apply jjT; exact rfl; rintro w' hq; have := hq.toStep; apply jI; exact eB rfl; refine jz ?_; exact ⟨rfl, rfl⟩; apply jjT; exact rfl; rintro w' hq; have := hq.toStep; refine jT rfl rfl rfl ?_; apply jI; exact eI rfl; refine jz ?_; exact ⟨rfl, rfl⟩; apply jjT; exact rfl; rintro w' hq; have := hq.toStep; refine jT rfl rfl rfl ?_; refine jjh rfl rfl (by omega) ?_; refine jz ?_; exact ⟨rfl, rfl⟩; apply jjT; exact rfl; rintro w' hq; have := hq.toStep; apply jK rfl; exact eB rfl; refine jz ?_; exact ⟨rfl, rfl⟩; apply jjT; exact rfl; rintro w' hq; have := hq.toStep; apply jI; exact eB rfl; refine jz ?_; exact ⟨rfl, rfl⟩; apply jjT; exact rfl; rintro w' hq; have := hq.toStep; refine jT rfl rfl rfl ?_; apply jI; exact eI rfl; refine jz ?_; exact ⟨rfl, rfl⟩; apply jjT; exact rfl; rintro w' hq; have := hq.toStep; refine jT rfl rfl rfl ?_; refine jjh rfl rfl (by omega) ?_; refine jz ?_; exact ⟨rfl, rfl⟩; apply jjT; exact rfl; rintro w' hq; have := hq.toStep; apply jK rfl; exact eB rfl; refine jz ?_; exact ⟨rfl, rfl⟩; apply jjT; exact rfl; rintro w' hq; have := hq.toStep; apply jI; exact eB rfl; refine jz ?_; exact ⟨rfl, rfl⟩; apply jjT; exact rfl; rintro w' hq; have := hq.toStep; refine jT rfl rfl rfl ?_; apply jI; exact eS rfl; refine jz ?_; exact ⟨rfl, rfl⟩; apply jjT; exact rfl; rintro w' hq; have := hq.toStep; refine jT rfl rfl rfl ?_; refine jh rfl ?_; refine jz ?_; exact ⟨rfl, rfl⟩; apply jjT; exact rfl; rintro w' hq; have := hq.toStep; refine jT rfl rfl rfl ?_; refine jjh rfl rfl (by omega) ?_; refine jz ?_; exact ⟨rfl, rfl⟩; apply jjT; exact rfl; rintro w' hq; have := hq.toStep; apply jK rfl; exact eB rfl; refine jz ?_; exact ⟨rfl, rfl⟩; apply jjT; exact rfl; rintro w' hq; have := hq.toStep; apply jI; exact eB rfl; refine jz ?_; exact ⟨rfl, rfl⟩; apply jjT; exact rfl; rintro w' hq; have := hq.toStep; refine jT rfl rfl rfl ?_; apply jI; exact eS rfl; refine jz ?_; exact ⟨rfl, rfl⟩; refine jjU ?_)))
  refine AnyF.take [108] (by decide +kernel) inferInstance (jjT (v := .pointer (some ⟨pb, po + 0 * 6, none⟩)) rfl (fun w' q1 => ?_) (jjU ?_)); (refine jT rfl rfl rfl ?_; refine jH 0 rfl rfl rfl (by omega) ?_; refine jz ?_; exact ⟨rfl, rfl⟩)
  refine AnyF.take [109] (by decide +kernel) inferInstance (jjT (v := .pointer (some ⟨pb, po + 0 * 6 + 3, none⟩)) rfl (fun w' q1 => ?_) (jjU ?_)); (refine jT rfl rfl rfl ?_; refine jn rfl ?_; refine jz ?_; exact ⟨rfl, rfl⟩)
  refine AnyF.take [110] (by decide +kernel) inferInstance (jjT (v := .string xAnd) rfl (fun w' q1 => ?_) (jjU ?_)); (refine jT rfl rfl rfl ?_; refine jR ((P0.ext q1).get (i := 3) rfl) rfl rfl ?_; refine jz ?_; exact ⟨rfl, rfl⟩)
  refine AnyF.take [111] (by decide +kernel) inferInstance (jjT (v := .bool true) rfl (fun w' q1 => ?_) (jjU ?_)); (refine jT rfl rfl rfl ?_; refine Ops.eqlS rfl rfl ?_; rw [decide_eq_true rfl]; refine jz ?_; exact ⟨rfl, rfl⟩)
  refine AnyF.take [112, 113, 114] (by decide +kernel) inferInstance ?_
  (((apply jjT; exact rfl; rintro w' hq; have := hq.toStep; apply jK rfl; exact eB rfl; refine jz ?_; exact ⟨rfl, rfl⟩; apply jjT; exact rfl; rintro w' hq; have := hq.toStep; apply jI; exact eB rfl; refine jz ?_; exact ⟨rfl, rfl⟩; apply jjT; exact rfl; rintro w' hq; have := hq.toStep; refine jT rfl rfl rfl ?_; apply jI; exact eS rfl; refine jz ?_; exact ⟨rfl, rfl⟩; refine jjU ?_)))
  refine AnyF.take [115] (by decide +kernel) inferInstance (jjT (v := .pointer (some ⟨pb, po + 1 * 6, none⟩)) rfl (fun w' q1 => ?_) (jjU ?_)); (refine jT rfl rfl rfl ?_; refine jH 1 rfl rfl rfl (by omega) ?_; refine jz ?_; exact ⟨rfl, rfl⟩)
  refine AnyF.take [116] (by decide +kernel) inferInstance (jjT (v := .pointer (some ⟨pb, po + 1 * 6 + 3, none⟩)) rfl (fun w' q1 => ?_) (jjU ?_)); (refine jT rfl rfl rfl ?_; refine jn rfl ?_; refine jz ?_; exact ⟨rfl, rfl⟩)
  refine AnyF.take [117] (by decide +kernel) inferInstance (jjT (v := .string xOld) rfl (fun w' q1 => ?_) (jjU ?_)); (refine jT rfl rfl rfl ?_; refine jR ((P1.ext q1).get (i := 3) rfl) rfl rfl ?_; refine jz ?_; exact ⟨rfl, rfl⟩)
  refine AnyF.take [118] (by decide +kernel) inferInstance (jjT (v := .bool true) rfl (fun w' q1 => ?_) (jjU ?_)); (refine jT rfl rfl rfl ?_; refine Ops.eqlS rfl rfl ?_; rw [decide_eq_true rfl]; refine jz ?_; exact ⟨rfl, rfl⟩)
  refine AnyF.take [119, 120, 121] (by decide +kernel) inferInstance ?_
  (((apply jjT; exact rfl; rintro w' hq; have := hq.toStep; apply jK rfl; exact eB rfl; refine jz ?_; exact ⟨rfl, rfl⟩; apply jjT; exact rfl; rintro w' hq; have := hq.toStep; apply jI; exact eB rfl; refine jz ?_; exact ⟨rfl, rfl⟩; apply jjT; exact rfl; rintro w' hq; have := hq.toStep; refine jT rfl rfl rfl ?_; apply jI; exact eS rfl; refine jz ?_; exact ⟨rfl, rfl⟩; refine jjU ?_)))
  refine AnyF.take [122] (by decide +kernel) inferInstance (jjT (v := .pointer (some ⟨pb, po + 2 * 6, none⟩)) rfl (fun w' q1 => ?_) (jjU ?_)); (refine jT rfl rfl rfl ?_; refine jH 2 rfl rfl rfl (by omega) ?_; refine jz ?_; exact ⟨rfl, rfl⟩)
  refine AnyF.take [123] (by decide +kernel) inferInstance (jjT (v := encSl exS[0]) rfl (fun w' q1 => ?_) (jjU ?_)); (refine jT rfl rfl rfl ?_; refine Ops.loadOA (off := 0) (P2.ext q1) rfl rfl rfl rfl ?_; refine jz ?_; exact ⟨rfl, rfl⟩)
  (apply AnyF.one 124; (decide +kernel); exact rfl; (exact inferInstance))
  refine jT rfl rfl rfl ?_
  refine jjQ (slips_law6 _) rfl rfl ?_
  rintro _ w44 hS44 ⟨e2, rfl, hQ2⟩
  refine jz ?_
  have Q2 : At w44 e2 (0 + 0 * 6) (encSl exS[0]).cells.toList := place_k hQ2 (j := 0) rfl
  (apply AnyF.one 125; (decide +kernel); exact rfl; (exact inferInstance))
  refine jT rfl rfl rfl ?_
  refine jH 0 rfl rfl rfl (by omega) ?_
  refine jz ?_
  (apply AnyF.one 126; (decide +kernel); exact rfl; (exact inferInstance))
  refine jT rfl rfl rfl ?_
  refine Ops.loadOA (off := 0) Q2 rfl rfl rfl rfl ?_
  refine jz ?_
  (apply AnyF.one 127; (decide +kernel); exact rfl; (exact inferInstance))
  refine jT rfl rfl rfl ?_
  refine Ops.eqlT (enc := encSl) exS[0] exS[0] rfl rfl ?_
  rw [decide_eq_true rfl]
  refine jz ?_
  refine AnyF.take [128, 129, 130] (by decide +kernel) inferInstance ?_
  (((apply jjT; exact rfl; rintro w' hq; have := hq.toStep; apply jK rfl; exact eB rfl; refine jz ?_; exact ⟨rfl, rfl⟩; apply jjT; exact rfl; rintro w' hq; have := hq.toStep; apply jI; exact eB rfl; refine jz ?_; exact ⟨rfl, rfl⟩; apply jjT; exact rfl; rintro w' hq; have := hq.toStep; refine jT rfl rfl rfl ?_; apply jI; exact eS rfl; refine jz ?_; exact ⟨rfl, rfl⟩; refine jjU ?_)))
  refine AnyF.take [131] (by decide +kernel) inferInstance (jjT (v := .pointer (some ⟨pb, po + 3 * 6, none⟩)) rfl (fun w' q1 => ?_) (jjU ?_)); (refine jT rfl rfl rfl ?_; refine jH 3 rfl rfl rfl (by omega) ?_; refine jz ?_; exact ⟨rfl, rfl⟩)
  refine AnyF.take [132] (by decide +kernel) inferInstance (jjT (v := encSl exS[2]) rfl (fun w' q1 => ?_) (jjU ?_)); (refine jT rfl rfl rfl ?_; refine Ops.loadOA (off := 0) (P3.ext q1) rfl rfl rfl rfl ?_; refine jz ?_; exact ⟨rfl, rfl⟩)
  (apply AnyF.one 133; (decide +kernel); exact rfl; (exact inferInstance))
  refine jT rfl rfl rfl ?_
  refine jjQ (slips_law6 _) rfl rfl ?_
  rintro _ w45 hS45 ⟨e3, rfl, hQ3⟩
  refine jz ?_
  have Q3 : At w45 e3 (0 + 2 * 6) (encSl exS[2]).cells.toList := place_k hQ3 (j := 2) rfl
  (apply AnyF.one 134; (decide +kernel); exact rfl; (exact inferInstance))
  refine jT rfl rfl rfl ?_
  refine jH 2 rfl rfl rfl (by omega) ?_
  refine jz ?_
  (apply AnyF.one 135; (decide +kernel); exact rfl; (exact inferInstance))
  refine jT rfl rfl rfl ?_
  refine Ops.loadOA (off := 0) Q3 rfl rfl rfl rfl ?_
  refine jz ?_
  (apply AnyF.one 136; (decide +kernel); exact rfl; (exact inferInstance))
  refine jT rfl rfl rfl ?_
  refine Ops.eqlT (enc := encSl) exS[2] exS[2] rfl rfl ?_
  rw [decide_eq_true rfl]
  refine jz ?_
  refine AnyF.take [137, 138] (by decide +kernel) inferInstance ?_
  (((apply jjT; exact rfl; rintro w' hq; have := hq.toStep; apply jK rfl; exact eB rfl; refine jz ?_; exact ⟨rfl, rfl⟩; apply jjT; exact rfl; rintro w' hq; have := hq.toStep; apply jJ; exact eB rfl; refine jz ?_; exact ⟨rfl, rfl⟩; refine jjU ?_)))
  refine AnyF.done (by decide +kernel) inferInstance ?_
  (refine jjF ?_; refine jB rfl rfl ⟨inferInstance, ?_⟩)
  exact rfl
end
end Go.Proofs.YtpijeomnplmakaaGreatDoor

/- The proof engine, part 46: how many entries a map has. -/
namespace Go.Proofs.YtpijeomnplmakaaGreatDoor
open Go.RowKit

section rules
variable {P : Program} {ro : Option Nat} {n : Nat} {all rest : List Oper} {K : Sl → World → Prop} {s : Sl} {w : World} {d : Nat} {ty : Nat} {pos : String} {af : Array Edge}
variable {x : Operand} {t kt et : Nat} {κ : Type} {encK : κ → Value} {b : Nat} {m : List (κ × Value)}
theorem Ops.lenM (hm : MapE encK w b m) (hx : ev n s x = .map (some b)) [ht : TMap P t kt et] (h : Ops P ro n all rest K (upd s d (.int .i64 (m.length : Nat))) w) :
    Ops P ro n all (⟨some d, .call { callee := .builtin .len, args := #[x], argTypes := #[t] }, ty, pos, af, none⟩ :: rest) K s w := by
  obtain ⟨es, c, h1, h2, h3, -⟩ := hm.h
  have e : es.size = m.length := by have := congrArg List.length h3; simpa using this
  exact Ops.ofRun rfl (by simp [execOp, resolve, invoke, builtin, hx, Builtin.len_, run_underlying ht.h, goInt, run_getObj_m h1, e]) h
end rules
end Go.Proofs.YtpijeomnplmakaaGreatDoor

/- The law RackChains: chains. -/
namespace Go.Proofs.YtpijeomnplmakaaGreatDoor
open Go.RowKit

section
variable (a : Option Addr) (c : Nat) (d : List Int) (ba : Option Addr) (bc : Nat) (by_ : List Int) (w : World) [hgb : At w 0 0 bysC] [hmx : MxI w] [hrow : RowI w (.slice a d.length c) false 1 (d.map intV)] [hby : RowI w (.slice ba by_.length bc) false 1 (by_.map u32V)]
set_option maxHeartbeats 40000000 in
theorem RackChains_law (hl' : d.length ≤ 1000000000000000) (hu : U32s by_) : Ct Tryz.prog 9 [.slice a d.length c, .slice ba by_.length bc] w fun v _ => v = .bool true := by
  refine Ct.ofW (by simp) ?_
  (refine jjB ?_; refine jjC ?_; apply jJ; exact eB rfl; refine jz ?_; refine jjB ?_; refine jjC ?_)
  refine jjQ (alive_law6 _) rfl rfl ?_
  rintro _ w1 hS1 rfl
  (apply jJ; exact eB rfl; refine jz ?_; refine jjB ?_; refine jjB ?_; refine jjC ?_; apply jI; exact eS rfl)
  refine jjQ (Deck_big a c d _ hl') rfl rfl ?_
  rintro _ w2 hS2 rfl
  by_cases hdk : deckB d = true
  rotate_left
  · rw [show deckB d = false by simpa using hdk]
    (refine jq rfl ?_; apply jI; exact eB rfl; refine jU rfl rfl rfl rfl ?_; refine jU rfl rfl rfl rfl ?_; apply jK rfl; exact eB rfl; refine jz ?_; refine jjJ rfl ?_; refine jjB ?_; refine jjC ?_; apply jI; exact eB rfl; apply jJ; exact eB rfl; refine jz ?_; refine jjF ?_; refine jB rfl rfl ⟨inferInstance, ?_⟩)
    exact rfl
  rw [hdk]
  have hd60 := deckB_len hdk
  have hl : d.length ≤ 1000000 := by omega
  (refine jp rfl ?_; apply jI; exact eB rfl; refine jT rfl rfl rfl ?_; apply jI; exact eB rfl; refine jT rfl rfl rfl ?_; refine jp rfl ?_; apply jL rfl; exact eB rfl; refine jz ?_; refine jjK rfl ?_; refine jjG ?_; refine jjB ?_; refine jjC ?_; apply jI; exact eS rfl)
  refine jjQ (Chains_rack a c d _ hl) rfl rfl ?_
  rintro _ w3 hS3 ⟨C, e, ca, cc, rfl, hR3, ⟨h1, _⟩ | ⟨_, hC, rfl⟩⟩
  · rw [hdk] at h1; exact absurd h1 (by decide)
  have iC : RowI w3 (.slice ca C.length cc) false 1 (C.map intV) := ⟨hR3⟩
  have hCl := hC.len
  (apply jI; exact eU rfl; refine ju rfl rfl ?_; refine ju rfl rfl ?_; apply jJ; exact eS rfl; apply jJ; exact eI rfl; refine jz ?_; refine jjB ?_; refine jjC ?_; apply jI; exact eS rfl)
  refine jjQ (Keep_rack a c d _ hl) rfl rfl ?_
  rintro _ w4 hS4 ⟨K, e, ka, kc, rfl, hR4, ⟨h1, _⟩ | ⟨_, rfl, B, hB, hK⟩⟩
  · rw [hdk] at h1; exact absurd h1 (by decide)
  have iK : RowI w4 (.slice ka K.length kc) false 1 (K.map intV) := ⟨hR4⟩
  have hKd : K.length ≤ d.length := by
    have hnd : (keepK d B).Nodup := (keep_facts hB).1.2.imp fun h e => by omega
    have := nodup_len (M := upN d.length) hnd fun x hx => upN_mem.2 ((keep_facts hB).1.1 x hx)
    rw [← hK] at this
    rwa [upN_len] at this
  (apply jI; exact eU rfl; refine ju rfl rfl ?_; refine ju rfl rfl ?_; apply jJ; exact eS rfl; apply jJ; exact eI rfl; refine jz ?_; refine jjB ?_; refine jjB ?_; refine jjC ?_; apply jI; exact eI rfl; refine jjk rfl rfl (by omega) ?_; apply jI; exact eB rfl; refine jT rfl rfl rfl ?_; apply jI; exact eI rfl; refine jT rfl rfl rfl ?_; refine jjk rfl rfl (by omega) ?_; apply jL rfl; exact eB rfl; apply jI; exact eB rfl; refine jT rfl rfl rfl ?_; apply jI; exact eS rfl; refine jT rfl rfl rfl ?_; refine jh rfl ?_; refine jT rfl rfl rfl ?_; apply jI; exact eS rfl; refine jT rfl rfl rfl ?_; refine jh rfl ?_; refine jT rfl rfl rfl ?_; refine jjk rfl rfl (by omega) ?_; apply jL rfl; exact eB rfl; apply jI; exact eB rfl; refine jT rfl rfl rfl ?_; apply jI; exact eS rfl; refine jT rfl rfl rfl ?_; refine jh rfl ?_; refine jT rfl rfl rfl ?_; apply jI; exact eS rfl; refine jT rfl rfl rfl ?_; refine jh rfl ?_; refine jT rfl rfl rfl ?_; refine jje rfl rfl (by omega) ?_; apply jL rfl; exact eB rfl; refine jz ?_; refine jjK rfl ?_; refine jjG ?_; refine jjB ?_; refine jjC ?_)
  refine Ops.makeMap (Value.int .i64) ?_
  intro mb w5 hmb hs5 hS5 hM5
  have hE5 : Ext w w5 := inferInstance
  have zmb : w.heap.size ≤ mb := by have := (inferInstance : Ext w w4).size; omega
  have hE4 : Ext w w4 := inferInstance
  have hE45 : Ext w4 w5 := hS5.ext
  (apply jJ; exact eM rfl; refine jz ?_; refine jjB ?_; refine jjB ?_; refine jjC ?_; apply jI; exact eS rfl; refine jh rfl ?_; apply jI; exact eI rfl; refine jz ?_; refine jjD ?_)
  refine W.keep0 [(0, .slice a d.length c), (1, .slice ba by_.length bc), (5, .bool true), (6, .slice ca C.length cc), (8, .slice ka K.length kc), (10, .map (some mb)), (61, .slice ca C.length cc), (62, .int .i64 (C.length : Int)), (63, .int .i64 ((0 : Nat) : Int))] ⟨eS rfl, eS rfl, eB rfl, eS rfl, eS rfl, eM rfl, eS rfl, eI rfl, eI rfl, trivial⟩ fun s0 => ?_
  refine W.loopG (64 :: 65 :: 66 :: 67 :: 11 :: 12 :: 69 :: 70 :: 71 :: 68 :: 72 :: 73 :: 13 :: 14 :: 74 :: 75 :: 76 :: 77 :: 78 :: 79 :: 80 :: 81 :: 82 :: 83 :: 84 :: 85 :: 86 :: 87 :: 88 :: 89 :: 90 :: 91 :: 92 :: 93 :: 94 :: 95 :: 4 :: 96 :: 97 :: 98 :: 99 :: 63 :: []) (fun g s' V => ∃ (k : Nat) (m : List (Int × Value)), s' 63 = .int .i64 (k : Int) ∧ g = C.length - k ∧ k ≤ C.length ∧ Only mb w5 V ∧ MapE (Value.int .i64) V mb m ∧ LastI C k m) C.length ⟨0, [], rfl, rfl, Nat.zero_le _, .ofExt (Ext.refl _), hM5, LastI.zero⟩ ?_
  rintro _ sd V ⟨k, m, h63, rfl, hk, hOn, hM, hLa⟩
  refine W.fix h63 ?_
  clear h63
  have hEV : Ext w V := hOn.ext hE5 zmb
  have hEV4 : Ext w4 V := hOn.ext hE45 (by omega)
  have hSV := hEV.toStep
  have iCV : RowI V (.slice ca C.length cc) false 1 (C.map intV) := ⟨iC.h.ext (inferInstance : Ext w3 w4) |>.ext hEV4⟩
  by_cases hk1 : k < C.length
  · have hkd : k < d.length := by omega
    have eC : C[k] = gd C k := (gd_lt hk1).symm
    have hlt := chain_lt hC hB hkd
    rw [← hK] at hlt
    (refine jjB ?_; refine jjC ?_; refine jjZ rfl rfl (by omega) ?_; refine jz ?_; refine jjB ?_; refine jjJ rfl ?_; refine jjG ?_; refine jjB ?_; refine jjD ?_; refine jjB ?_; refine jjC ?_; apply jI; exact eI rfl; refine jF rfl rfl rfl (map_get (by omega)) ?_; intro _ _ _; refine jQ rfl rfl ?_; apply jJ; exact eI rfl; apply jJ; exact eI rfl; refine jz ?_; refine jjB ?_; refine jjC ?_; apply jI; exact eM rfl; apply jI; exact eI rfl)
    rw [eC]
    refine Ops.lookupOk (k := gd C k) hM rfl rfl ?_
    have gdk : (d.map intV)[k]? = some (intV (gd d k)) := by rw [List.getElem?_map, List.getElem?_eq_getElem hkd, gd_lt hkd]; rfl
    obtain ⟨pb, po, rfl, -⟩ := hrow.h.place' gdk
    have Dat : ∀ (V' : World) (j : Nat), Ext w V' → j < d.length → At V' pb (po + j * 1) [intV (gd d j)] := fun V' j hV hj => place_r (x := intV (gd d j)) (hrow.h.ext hV) (by rw [List.getElem?_map, List.getElem?_eq_getElem hj, gd_lt hj]; rfl)
    have hst := hLa.step hk1
    rcases hLa.get (gd C k) with h1 | ⟨j, hjk, h1, h2⟩
    · rw [h1]
      (apply jI; exact eU rfl; refine ju rfl rfl ?_; refine ju rfl rfl ?_; apply jJ; exact eI rfl; apply jJ; exact eB rfl; refine jz ?_; refine jjB ?_; refine jjB ?_)
      refine W.draw (fun w' => Ext V w') ?_
      intro w6 hS6
      refine jjV [0, 1, 2, 3, 4, 5, 6, 7, 8, 9, 10, 11, 12, 13, 14, 15, 16, 17, 18, 19, 20, 21] (by decide +kernel) hS6.ext ?_
      (((apply jjT; exact rfl; rintro w' hq; have := hq.toStep; apply jI; exact eI rfl; refine jz ?_; exact ⟨rfl, rfl⟩; apply jjT; exact rfl; rintro w' hq; have := hq.toStep; refine jja rfl rfl (by omega) ?_; refine jz ?_; exact ⟨rfl, rfl⟩; apply jjT; exact rfl; rintro w' hq; have := hq.toStep; apply jI; exact eB rfl; refine jz ?_; exact ⟨rfl, rfl⟩; apply jjT; exact rfl; rintro w' hq; have := hq.toStep; refine jT rfl rfl rfl ?_; apply jI; exact eI rfl; refine jz ?_; exact ⟨rfl, rfl⟩; apply jjT; exact rfl; rintro w' hq; have := hq.toStep; refine jT rfl rfl rfl ?_; apply jI; exact eS rfl; refine jz ?_; exact ⟨rfl, rfl⟩; apply jjT; exact rfl; rintro w' hq; have := hq.toStep; refine jT rfl rfl rfl ?_; refine jh rfl ?_; refine jz ?_; exact ⟨rfl, rfl⟩; apply jjT; exact rfl; rintro w' hq; have := hq.toStep; refine jT rfl rfl rfl ?_; refine jjg rfl rfl (by omega) ?_; refine jz ?_; exact ⟨rfl, rfl⟩; apply jjT; exact rfl; rintro w' hq; have := hq.toStep; apply jL rfl; exact eB rfl; refine jz ?_; exact ⟨rfl, rfl⟩; apply jjT; exact rfl; rintro w' hq; have := hq.toStep; apply jI; exact eB rfl; refine jz ?_; exact ⟨rfl, rfl⟩; apply jjT; exact rfl; rintro w' hq; have := hq.toStep; refine jT rfl rfl rfl ?_; apply jI; exact eB rfl; refine jz ?_; exact ⟨rfl, rfl⟩; apply jjT; exact rfl; rintro w' hq; have := hq.toStep; refine jT rfl rfl rfl ?_; apply jI; exact eB rfl; refine jz ?_; exact ⟨rfl, rfl⟩; apply jjT; exact rfl; rintro w' hq; have := hq.toStep; refine jU rfl rfl rfl rfl ?_; refine jz ?_; exact ⟨rfl, rfl⟩; apply jjT; exact rfl; rintro w' hq; have := hq.toStep; refine jU rfl rfl rfl rfl ?_; refine jz ?_; exact ⟨rfl, rfl⟩; apply jjT; exact rfl; rintro w' hq; have := hq.toStep; refine jU rfl rfl rfl rfl ?_; refine jz ?_; exact ⟨rfl, rfl⟩; apply jjT; exact rfl; rintro w' hq; have := hq.toStep; refine jU rfl rfl rfl rfl ?_; refine jz ?_; exact ⟨rfl, rfl⟩; apply jjT; exact rfl; rintro w' hq; have := hq.toStep; refine jU rfl rfl rfl rfl ?_; refine jz ?_; exact ⟨rfl, rfl⟩; apply jjT; exact rfl; rintro w' hq; have := hq.toStep; refine jU rfl rfl rfl rfl ?_; refine jz ?_; exact ⟨rfl, rfl⟩; apply jjT; exact rfl; rintro w' hq; have := hq.toStep; refine jU rfl rfl rfl rfl ?_; refine jz ?_; exact ⟨rfl, rfl⟩; apply jjT; exact rfl; rintro w' hq; have := hq.toStep; refine jU rfl rfl rfl rfl ?_; refine jz ?_; exact ⟨rfl, rfl⟩; apply jjT; exact rfl; rintro w' hq; have := hq.toStep; refine jU rfl rfl rfl rfl ?_; refine jz ?_; exact ⟨rfl, rfl⟩; apply jjT; exact rfl; rintro w' hq; have := hq.toStep; refine jT rfl rfl rfl ?_; apply jL rfl; exact eB rfl; refine jz ?_; exact ⟨rfl, rfl⟩; apply jjT; exact rfl; rintro w' hq; have := hq.toStep; apply jL rfl; exact eB rfl; refine jz ?_; exact ⟨rfl, rfl⟩; refine jjU ?_)))
      refine jjX (by decide +kernel) inferInstance ?_
      have hM6 := hM.ext hS6.ext
      (refine jjK rfl ?_; refine jjG ?_; refine jjC ?_; apply jI; exact eM rfl; apply jI; exact eI rfl; apply jI; exact eI rfl)
      refine Ops.mapUpdate (k := gd C k) (v := .int .i64 (k : Int)) hM6 rfl rfl rfl ?_
      intro w7 o7 hp7 hM7
      (refine jz ?_; refine jjC ?_; refine jY rfl rfl (by omega) ?_; apply jI; exact eI rfl; refine jz ?_)
      exact ⟨rfl, by ((refine Same.upd rfl ?_; refine Same.upd rfl ?_; refine Same.upd rfl ?_; refine Same.upd rfl ?_; refine Same.upd rfl ?_; refine Same.upd rfl ?_; refine Same.upd rfl ?_; refine Same.upd rfl ?_; refine Same.upd rfl ?_; refine Same.upd rfl ?_; refine Same.upd rfl ?_; refine Same.upd rfl ?_; refine Same.upd rfl ?_; refine Same.upd rfl ?_; refine Same.upd rfl ?_; refine Same.upd rfl ?_; refine Same.upd rfl ?_; refine Same.upd rfl ?_; refine Same.upd rfl ?_; refine Same.upd rfl ?_; refine Same.upd rfl ?_; refine Same.upd rfl ?_; refine Same.upd rfl ?_; refine Same.upd rfl ?_; refine Same.upd rfl ?_; refine Same.upd rfl ?_; refine Same.upd rfl ?_; refine Same.upd rfl ?_; refine Same.upd rfl ?_; refine Same.upd rfl ?_; refine Same.upd rfl ?_; refine Same.upd rfl ?_; refine Same.upd rfl ?_; refine Same.upd rfl ?_; refine Same.upd rfl ?_; refine Same.upd rfl ?_; refine Same.upd rfl ?_; refine Same.upd rfl ?_; refine Same.upd rfl ?_; refine Same.upd rfl ?_; refine Same.upd rfl ?_; refine Same.upd rfl ?_; exact Same.ovN)), C.length - (k + 1), by omega, k + 1, _, congrArg (Value.int .i64) (by omega), rfl, by omega, (hOn.trans (.ofExt hS6.ext)).trans (.ofPut hp7), hM7, hst⟩
    · have hfa := chain_fall hC hjk hkd h2
      rw [h1]
      (apply jI; exact eU rfl; refine ju rfl rfl ?_; refine ju rfl rfl ?_; apply jJ; exact eI rfl; apply jJ; exact eB rfl; refine jz ?_; refine jjB ?_; refine jjB ?_)
      refine W.draw (fun w' => Ext V w') ?_
      intro w6 hS6
      refine jjV [0, 1, 2, 3, 4, 5, 6, 7, 8, 9, 10, 11, 12] (by decide +kernel) hS6.ext ?_
      (((apply jjT; exact rfl; rintro w' hq; have := hq.toStep; apply jI; exact eI rfl; refine jz ?_; exact ⟨rfl, rfl⟩; apply jjT; exact rfl; rintro w' hq; have := hq.toStep; refine jja rfl rfl (by omega) ?_; refine jz ?_; exact ⟨rfl, rfl⟩; apply jjT; exact rfl; rintro w' hq; have := hq.toStep; apply jI; exact eB rfl; refine jz ?_; exact ⟨rfl, rfl⟩; apply jjT; exact rfl; rintro w' hq; have := hq.toStep; refine jT rfl rfl rfl ?_; apply jI; exact eI rfl; refine jz ?_; exact ⟨rfl, rfl⟩; apply jjT; exact rfl; rintro w' hq; have := hq.toStep; refine jT rfl rfl rfl ?_; apply jI; exact eS rfl; refine jz ?_; exact ⟨rfl, rfl⟩; apply jjT; exact rfl; rintro w' hq; have := hq.toStep; refine jT rfl rfl rfl ?_; refine jh rfl ?_; refine jz ?_; exact ⟨rfl, rfl⟩; apply jjT; exact rfl; rintro w' hq; have := hq.toStep; refine jT rfl rfl rfl ?_; refine jjg rfl rfl (by omega) ?_; refine jz ?_; exact ⟨rfl, rfl⟩; apply jjT; exact rfl; rintro w' hq; have := hq.toStep; apply jL rfl; exact eB rfl; refine jz ?_; exact ⟨rfl, rfl⟩; apply jjT; exact rfl; rintro w' hq; have := hq.toStep; apply jI; exact eB rfl; refine jz ?_; exact ⟨rfl, rfl⟩; apply jjT; exact rfl; rintro w' hq; have := hq.toStep; refine jT rfl rfl rfl ?_; apply jI; exact eB rfl; refine jz ?_; exact ⟨rfl, rfl⟩; apply jjT; exact rfl; rintro w' hq; have := hq.toStep; refine jT rfl rfl rfl ?_; apply jI; exact eB rfl; refine jz ?_; exact ⟨rfl, rfl⟩; apply jjT; exact rfl; rintro w' hq; have := hq.toStep; refine jT rfl rfl rfl ?_; apply jI; exact eS rfl; refine jz ?_; exact ⟨rfl, rfl⟩; apply jjT; exact rfl; rintro w' hq; have := hq.toStep; refine jT rfl rfl rfl ?_; apply jI; exact eI rfl; refine jz ?_; exact ⟨rfl, rfl⟩; refine jjU ?_)))
      refine jjV [13] (by decide +kernel) hS6.ext (jjT (v := .pointer (some ⟨pb, po + j * 1, none⟩)) rfl (fun w' q1 => ?_) (jjU ?_)); (refine jT rfl rfl rfl ?_; refine jH j rfl rfl rfl (by omega) ?_; refine jz ?_; exact ⟨rfl, rfl⟩)
      refine jjV [14] (by decide +kernel) hS6.ext (jjT (v := .int .i64 (gd d j)) rfl (fun w' q1 => ?_) (jjU ?_)); (refine jT rfl rfl rfl ?_; refine jR (((Dat V j hEV (by omega)).ext q1).get (i := 0) rfl) rfl rfl ?_; refine jz ?_; exact ⟨rfl, rfl⟩)
      refine jjV [15, 16] (by decide +kernel) hS6.ext ?_
      (((apply jjT; exact rfl; rintro w' hq; have := hq.toStep; refine jT rfl rfl rfl ?_; apply jI; exact eS rfl; refine jz ?_; exact ⟨rfl, rfl⟩; apply jjT; exact rfl; rintro w' hq; have := hq.toStep; refine jT rfl rfl rfl ?_; apply jI; exact eI rfl; refine jz ?_; exact ⟨rfl, rfl⟩; refine jjU ?_)))
      refine jjV [17] (by decide +kernel) hS6.ext (jjT (v := .pointer (some ⟨pb, po + k * 1, none⟩)) rfl (fun w' q1 => ?_) (jjU ?_)); (refine jT rfl rfl rfl ?_; refine jH k rfl rfl rfl (by omega) ?_; refine jz ?_; exact ⟨rfl, rfl⟩)
      refine jjV [18] (by decide +kernel) hS6.ext (jjT (v := .int .i64 (gd d k)) rfl (fun w' q1 => ?_) (jjU ?_)); (refine jT rfl rfl rfl ?_; refine jR (((Dat V k hEV hkd).ext q1).get (i := 0) rfl) rfl rfl ?_; refine jz ?_; exact ⟨rfl, rfl⟩)
      refine jjV [19, 20, 21] (by decide +kernel) hS6.ext ?_
      (((apply jjT; exact rfl; rintro w' hq; have := hq.toStep; refine jT rfl rfl rfl ?_; refine jjc rfl rfl (by omega) ?_; refine jz ?_; exact ⟨rfl, rfl⟩; apply jjT; exact rfl; rintro w' hq; have := hq.toStep; refine jT rfl rfl rfl ?_; apply jK rfl; exact eB rfl; refine jz ?_; exact ⟨rfl, rfl⟩; apply jjT; exact rfl; rintro w' hq; have := hq.toStep; apply jL rfl; exact eB rfl; refine jz ?_; exact ⟨rfl, rfl⟩; refine jjU ?_)))
      refine jjX (by decide +kernel) inferInstance ?_
      have hM6 := hM.ext hS6.ext
      (refine jjK rfl ?_; refine jjG ?_; refine jjC ?_; apply jI; exact eM rfl; apply jI; exact eI rfl; apply jI; exact eI rfl)
      refine Ops.mapUpdate (k := gd C k) (v := .int .i64 (k : Int)) hM6 rfl rfl rfl ?_
      intro w7 o7 hp7 hM7
      (refine jz ?_; refine jjC ?_; refine jY rfl rfl (by omega) ?_; apply jI; exact eI rfl; refine jz ?_)
      exact ⟨rfl, by ((refine Same.upd rfl ?_; refine Same.upd rfl ?_; refine Same.upd rfl ?_; refine Same.upd rfl ?_; refine Same.upd rfl ?_; refine Same.upd rfl ?_; refine Same.upd rfl ?_; refine Same.upd rfl ?_; refine Same.upd rfl ?_; refine Same.upd rfl ?_; refine Same.upd rfl ?_; refine Same.upd rfl ?_; refine Same.upd rfl ?_; refine Same.upd rfl ?_; refine Same.upd rfl ?_; refine Same.upd rfl ?_; refine Same.upd rfl ?_; refine Same.upd rfl ?_; refine Same.upd rfl ?_; refine Same.upd rfl ?_; refine Same.upd rfl ?_; refine Same.upd rfl ?_; refine Same.upd rfl ?_; refine Same.upd rfl ?_; refine Same.upd rfl ?_; refine Same.upd rfl ?_; refine Same.upd rfl ?_; refine Same.upd rfl ?_; refine Same.upd rfl ?_; refine Same.upd rfl ?_; refine Same.upd rfl ?_; refine Same.upd rfl ?_; refine Same.upd rfl ?_; refine Same.upd rfl ?_; refine Same.upd rfl ?_; refine Same.upd rfl ?_; refine Same.upd rfl ?_; refine Same.upd rfl ?_; refine Same.upd rfl ?_; refine Same.upd rfl ?_; refine Same.upd rfl ?_; refine Same.upd rfl ?_; exact Same.ovN)), C.length - (k + 1), by omega, k + 1, _, congrArg (Value.int .i64) (by omega), rfl, by omega, (hOn.trans (.ofExt hS6.ext)).trans (.ofPut hp7), hM7, hst⟩
  obtain rfl : k = C.length := by omega
  have hml := hLa.len hC hB
  rw [← hK] at hml
  have iKV : RowI V (.slice ka K.length kc) false 1 (K.map intV) := ⟨iK.h.ext hEV4⟩
  (refine jjB ?_; refine jjC ?_; refine jja rfl rfl (by omega) ?_; refine jz ?_; refine jjB ?_; refine jjK rfl ?_; refine jjE ?_; refine jjB ?_; refine jjC ?_)
  refine Ops.makeMap (Value.int .i64) ?_
  intro nb w8 hnb hs8 hS8 hN8
  have hE8 : Ext w w8 := inferInstance
  have hM8 := hM.ext hS8.ext
  have znb : w.heap.size ≤ nb := by have := hEV.size; omega
  have zne : mb ≠ nb := by have := hM.lt; omega
  have hV8 : Ext V w8 := hS8.ext
  (apply jJ; exact eM rfl; refine jz ?_; refine jjB ?_; refine jjB ?_; refine jjC ?_; apply jI; exact eS rfl; refine jh rfl ?_; apply jI; exact eI rfl; refine jz ?_; refine jjD ?_)
  refine W.keep0 [(0, .slice a d.length c), (1, .slice ba by_.length bc), (5, .bool true), (6, .slice ca C.length cc), (8, .slice ka K.length kc), (10, .map (some mb)), (15, .map (some nb)), (101, .slice ka K.length kc), (102, .int .i64 (K.length : Int)), (103, .int .i64 ((0 : Nat) : Int))] ⟨eS rfl, eS rfl, eB rfl, eS rfl, eS rfl, eM rfl, eM rfl, eS rfl, eI rfl, eI rfl, trivial⟩ fun s1 => ?_
  refine W.loopG (104 :: 105 :: 106 :: 17 :: 107 :: 108 :: 109 :: 110 :: 111 :: 112 :: 113 :: 114 :: 115 :: 116 :: 117 :: 118 :: 119 :: 120 :: 121 :: 122 :: 4 :: 123 :: 124 :: 125 :: 126 :: 127 :: 128 :: 103 :: []) (fun g s' V2 => ∃ (k : Nat) (m2 : List (Int × Value)), s' 103 = .int .i64 (k : Int) ∧ g = K.length - k ∧ k ≤ K.length ∧ Only nb w8 V2 ∧ MapE (Value.int .i64) V2 nb m2 ∧ SeenI C K k m2) K.length ⟨0, [], rfl, rfl, Nat.zero_le _, .ofExt (Ext.refl _), hN8, SeenI.zero⟩ ?_
  rintro _ sd2 V2 ⟨k, m2, h103, rfl, hk, hOn2, hM2, hSe⟩
  refine W.fix h103 ?_
  clear h103
  have hEV2 : Ext w V2 := hOn2.ext hE8 znb
  have hVV2 : Ext V V2 := hOn2.ext hV8 (by omega)
  have hSV2 := hEV2.toStep
  have iCV2 : RowI V2 (.slice ca C.length cc) false 1 (C.map intV) := ⟨iCV.h.ext hVV2⟩
  have iKV2 : RowI V2 (.slice ka K.length kc) false 1 (K.map intV) := ⟨iKV.h.ext hVV2⟩
  by_cases hk1 : k < K.length
  · have hkk : k < (keepK d B).length := by rw [← hK]; exact hk1
    have hno := hSe
    rw [hK] at hno
    have hst := hno.step hC hB hkk
    have hno := hno.no hC hB hkk
    rw [← hK] at hst hno
    have eK : K[k] = gd K k := (gd_lt hk1).symm
    have hin : 0 ≤ gd K k ∧ gd K k < (d.length : Int) := by
      have := (keep_facts hB).1.1 (gd K k) (by rw [← hK]; exact gd_mem hk1)
      exact this
    obtain ⟨i, hi⟩ : ∃ i : Nat, gd K k = (i : Int) := ⟨(gd K k).toNat, by omega⟩
    rw [hi] at hin hno hst eK
    rw [Int.toNat_natCast] at hno hst
    have hiC : i < C.length := by omega
    have gCi : (C.map intV)[i]? = some (intV (gd C i)) := by rw [List.getElem?_map, List.getElem?_eq_getElem hiC, gd_lt hiC]; rfl
    obtain ⟨qb, qo, rfl, -⟩ := hR3.place' gCi
    have Cat : ∀ (V' : World), Ext V2 V' → At V' qb (qo + i * 1) [intV (gd C i)] := fun V' hV => place_r (x := intV (gd C i)) (iCV2.h.ext hV) gCi
    have c1 := Cat V2 (Ext.refl _)
    (refine jjB ?_; refine jjC ?_; refine jjZ rfl rfl (by omega) ?_; refine jz ?_; refine jjB ?_; refine jjJ rfl ?_; refine jjG ?_; refine jjB ?_; refine jjD ?_; refine jjB ?_; refine jjC ?_; refine jF rfl rfl rfl (map_get (by omega)) ?_; intro _ _ _; refine jQ rfl rfl ?_; apply jJ; exact eI rfl; refine jz ?_; refine jjB ?_; refine jjB ?_; refine jjC ?_; apply jI; exact eI rfl; refine jja rfl rfl (by omega) ?_; apply jI; exact eB rfl; refine jT rfl rfl rfl ?_; apply jI; exact eI rfl; refine jT rfl rfl rfl ?_; apply jI; exact eS rfl; refine jT rfl rfl rfl ?_; refine jh rfl ?_; refine jT rfl rfl rfl ?_; refine jjg rfl rfl (by omega) ?_; apply jL rfl; exact eB rfl; apply jI; exact eB rfl; refine jT rfl rfl rfl ?_; apply jI; exact eM rfl; refine jT rfl rfl rfl ?_; apply jI; exact eS rfl; refine jT rfl rfl rfl ?_; apply jI; exact eI rfl; refine jT rfl rfl rfl ?_)
    rw [eK]
    (refine jF rfl rfl rfl (map_get (by omega)) ?_; intro _ _ _; refine jT rfl rfl rfl ?_; refine jQ rfl rfl ?_; refine jT rfl rfl rfl ?_)
    have eCi : C[i] = gd C i := (gd_lt hiC).symm
    refine Ops.lookup (k := C[i]) hM2 rfl rfl ?_
    rw [eCi, hno]
    (apply jL rfl; exact eB rfl; refine jz ?_; refine jjK rfl ?_; refine jjG ?_; refine jjC ?_; apply jI; exact eM rfl; apply jI; exact eS rfl; apply jI; exact eI rfl; refine jF rfl rfl rfl (map_get (by omega)) ?_; intro _ _ _; refine jQ rfl rfl ?_)
    refine Ops.mapUpdate (k := C[i]) (v := .bool true) hM2 rfl rfl rfl ?_
    intro w7 o7 hp7 hM7
    rw [eCi] at hM7
    (refine jz ?_; refine jjC ?_; refine jY rfl rfl (by omega) ?_; apply jI; exact eI rfl; refine jz ?_)
    exact ⟨rfl, by ((refine Same.upd rfl ?_; refine Same.upd rfl ?_; refine Same.upd rfl ?_; refine Same.upd rfl ?_; refine Same.upd rfl ?_; refine Same.upd rfl ?_; refine Same.upd rfl ?_; refine Same.upd rfl ?_; refine Same.upd rfl ?_; refine Same.upd rfl ?_; refine Same.upd rfl ?_; refine Same.upd rfl ?_; refine Same.upd rfl ?_; refine Same.upd rfl ?_; refine Same.upd rfl ?_; refine Same.upd rfl ?_; refine Same.upd rfl ?_; refine Same.upd rfl ?_; refine Same.upd rfl ?_; refine Same.upd rfl ?_; refine Same.upd rfl ?_; refine Same.upd rfl ?_; refine Same.upd rfl ?_; refine Same.upd rfl ?_; refine Same.upd rfl ?_; refine Same.upd rfl ?_; refine Same.upd rfl ?_; refine Same.upd rfl ?_; exact Same.ovN)), K.length - (k + 1), by omega, k + 1, _, congrArg (Value.int .i64) (by omega), rfl, by omega, hOn2.trans (.ofPut hp7), hM7, hst⟩
  obtain rfl : k = K.length := by omega
  have hsl := hSe.len
  have hM9 := hOn2.map hM8 zne
  (refine jjB ?_; refine jjC ?_; refine jja rfl rfl (by omega) ?_; refine jz ?_; refine jjB ?_; refine jjK rfl ?_; refine jjE ?_; refine jjB ?_; refine jjC ?_; apply jJ; exact eI rfl; apply jJ; exact eI rfl; refine jz ?_; refine jjB ?_; refine jjB ?_; refine jjC ?_; apply jI; exact eS rfl; refine jh rfl ?_; apply jI; exact eI rfl; refine jz ?_; refine jjD ?_)
  refine W.keep0 [(0, .slice a d.length c), (1, .slice ba by_.length bc), (5, .bool true), (8, .slice ka K.length kc), (10, .map (some mb)), (15, .map (some nb)), (18, .int .i64 0), (19, .int .i64 (-1)), (130, .int .i64 (d.length : Int)), (131, .int .i64 ((0 : Nat) : Int))] ⟨eS rfl, eS rfl, eB rfl, eS rfl, eM rfl, eM rfl, eI rfl, eI rfl, eI rfl, eI rfl, trivial⟩ fun s2 => ?_
  refine W.loop (132 :: 133 :: 20 :: 134 :: 135 :: 136 :: 137 :: 138 :: 139 :: 140 :: 141 :: 142 :: 143 :: 144 :: 145 :: 146 :: 147 :: 148 :: 149 :: 150 :: 151 :: 152 :: 153 :: 154 :: 155 :: 156 :: 18 :: 19 :: 157 :: 131 :: []) (fun g s' _ => ∃ (k : Nat) (x y : Int), s' 131 = .int .i64 (k : Int) ∧ s' 18 = .int .i64 x ∧ s' 19 = .int .i64 y ∧ g = d.length - k ∧ k ≤ d.length ∧ SomI d k x y) d.length ⟨0, 0, -1, rfl, rfl, rfl, rfl, Nat.zero_le _, SomI.zero⟩ ?_
  rintro _ sd3 V3 hSV3 ⟨k, x, y, h131, h18, h19, rfl, hk, hSo⟩
  refine W.fix h131 (W.fix (d := 18) h18 (W.fix (d := 19) h19 ?_))
  clear h131 h18 h19
  by_cases hk1 : k < d.length
  · have gdk : (d.map intV)[k]? = some (intV (gd d k)) := by rw [List.getElem?_map, List.getElem?_eq_getElem hk1, gd_lt hk1]; rfl
    obtain ⟨pb, po, rfl, -⟩ := hrow.h.place' gdk
    have hE3 : Ext w V3 := inferInstance
    have Dat : ∀ (V' : World) (j : Nat), Ext w V' → j < d.length → At V' pb (po + j * 1) [intV (gd d j)] := fun V' j hV hj => place_r (x := intV (gd d j)) (hrow.h.ext hV) (by rw [List.getElem?_map, List.getElem?_eq_getElem hj, gd_lt hj]; rfl)
    have hxb : 0 ≤ x ∧ x ≤ 60 := by
      obtain ⟨L, h1, h2, -⟩ := id hSo
      have := hSo.few hB
      rw [← hK] at this
      omega
    (refine jjB ?_; refine jjC ?_; refine jjZ rfl rfl (by omega) ?_; refine jz ?_; refine jjB ?_; refine jjJ rfl ?_; refine jjG ?_; refine jjB ?_; refine jjD ?_; refine jjB ?_; refine jjC ?_; apply jI; exact eI rfl; apply jJ; exact eI rfl; refine jz ?_; refine jjB ?_)
    refine W.draw (fun w' => Ext V3 w') ?_
    intro w6 hS6
    refine jjV [0, 1] (by decide +kernel) hS6.ext ?_
    (((apply jjT; exact rfl; rintro w' hq; have := hq.toStep; apply jI; exact eS rfl; refine jz ?_; exact ⟨rfl, rfl⟩; apply jjT; exact rfl; rintro w' hq; have := hq.toStep; apply jI; exact eI rfl; refine jz ?_; exact ⟨rfl, rfl⟩; refine jjU ?_)))
    (apply jjW 2; (decide +kernel); exact rfl; (exact hS6.ext))
    refine jjQ (choose_law6 ba bc by_ k hu (by omega) _) rfl rfl ?_
    rintro _ w7 hS7 ⟨z, rfl, hz0, hz1⟩
    refine jz ?_
    have hS67 : Ext V3 w7 := hS6.ext.trans hS7.ext
    refine jjV [3] (by decide +kernel) hS67 (jjT (v := .int .i64 (z % 2)) rfl (fun w' q1 => ?_) (jjU ?_)); (refine Ops.rem rfl rfl (by omega) (by omega) ?_; refine jz ?_; exact ⟨rfl, rfl⟩)
    have hz2 := Int.emod_nonneg z (show (2 : Int) ≠ 0 by omega)
    generalize z % 2 = z2 at *
    by_cases hz3 : z2 = 0
    rotate_left
    · refine jjV [4, 5, 6, 7, 8, 9, 10, 11, 12, 13, 14, 15, 16, 17, 18, 19] (by decide +kernel) hS67 ?_
      (((apply jjT; exact rfl; rintro w' hq; have := hq.toStep; refine jji rfl rfl (by omega) ?_; refine jz ?_; exact ⟨rfl, rfl⟩; apply jjT; exact rfl; rintro w' hq; have := hq.toStep; apply jI; exact eB rfl; refine jz ?_; exact ⟨rfl, rfl⟩; apply jjT; exact rfl; rintro w' hq; have := hq.toStep; refine jU rfl rfl rfl rfl ?_; refine jz ?_; exact ⟨rfl, rfl⟩; apply jjT; exact rfl; rintro w' hq; have := hq.toStep; refine jU rfl rfl rfl rfl ?_; refine jz ?_; exact ⟨rfl, rfl⟩; apply jjT; exact rfl; rintro w' hq; have := hq.toStep; refine jU rfl rfl rfl rfl ?_; refine jz ?_; exact ⟨rfl, rfl⟩; apply jjT; exact rfl; rintro w' hq; have := hq.toStep; refine jV rfl rfl ?_; refine jz ?_; exact ⟨rfl, rfl⟩; apply jjT; exact rfl; rintro w' hq; have := hq.toStep; refine jV rfl rfl ?_; refine jz ?_; exact ⟨rfl, rfl⟩; apply jjT; exact rfl; rintro w' hq; have := hq.toStep; refine jV rfl rfl ?_; refine jz ?_; exact ⟨rfl, rfl⟩; apply jjT; exact rfl; rintro w' hq; have := hq.toStep; refine jV rfl rfl ?_; refine jz ?_; exact ⟨rfl, rfl⟩; apply jjT; exact rfl; rintro w' hq; have := hq.toStep; refine jV rfl rfl ?_; refine jz ?_; exact ⟨rfl, rfl⟩; apply jjT; exact rfl; rintro w' hq; have := hq.toStep; refine jV rfl rfl ?_; refine jz ?_; exact ⟨rfl, rfl⟩; apply jjT; exact rfl; rintro w' hq; have := hq.toStep; refine jV rfl rfl ?_; refine jz ?_; exact ⟨rfl, rfl⟩; apply jjT; exact rfl; rintro w' hq; have := hq.toStep; refine jV rfl rfl ?_; refine jz ?_; exact ⟨rfl, rfl⟩; apply jjT; exact rfl; rintro w' hq; have := hq.toStep; refine jV rfl rfl ?_; refine jz ?_; exact ⟨rfl, rfl⟩; apply jjT; exact rfl; rintro w' hq; have := hq.toStep; refine jU rfl rfl rfl rfl ?_; refine jz ?_; exact ⟨rfl, rfl⟩; apply jjT; exact rfl; rintro w' hq; have := hq.toStep; apply jL rfl; exact eB rfl; refine jz ?_; exact ⟨rfl, rfl⟩; refine jjU ?_)))
      refine jjX (by decide +kernel) hS67 ?_
      (refine jjK rfl ?_; refine jjG ?_; refine jjC ?_; refine jY rfl rfl (by omega) ?_; apply jI; exact eI rfl; refine jz ?_)
      exact ⟨rfl, by ((refine Same.upd rfl ?_; refine Same.upd rfl ?_; refine Same.upd rfl ?_; refine Same.upd rfl ?_; refine Same.upd rfl ?_; refine Same.upd rfl ?_; refine Same.upd rfl ?_; refine Same.upd rfl ?_; refine Same.upd rfl ?_; refine Same.upd rfl ?_; refine Same.upd rfl ?_; refine Same.upd rfl ?_; refine Same.upd rfl ?_; refine Same.upd rfl ?_; refine Same.upd rfl ?_; refine Same.upd rfl ?_; refine Same.upd rfl ?_; refine Same.upd rfl ?_; refine Same.upd rfl ?_; refine Same.upd rfl ?_; refine Same.upd rfl ?_; refine Same.upd rfl ?_; refine Same.upd rfl ?_; refine Same.upd rfl ?_; refine Same.upd rfl ?_; refine Same.upd rfl ?_; refine Same.upd rfl ?_; refine Same.upd rfl ?_; exact Same.ovN)), d.length - (k + 1), by omega, inferInstance, k + 1, x, y, congrArg (Value.int .i64) (by omega), rfl, rfl, rfl, by omega, hSo.skip⟩
    by_cases hy : y < 0
    · have hSo' := hSo.take hk1 (.inl hy)
      refine jjV [4, 5, 6, 7, 8, 9, 10, 11, 12, 13, 14, 15, 16, 17, 18, 19] (by decide +kernel) hS67 ?_
      (((apply jjT; exact rfl; rintro w' hq; have := hq.toStep; refine jjh rfl rfl (by omega) ?_; refine jz ?_; exact ⟨rfl, rfl⟩; apply jjT; exact rfl; rintro w' hq; have := hq.toStep; apply jI; exact eB rfl; refine jz ?_; exact ⟨rfl, rfl⟩; apply jjT; exact rfl; rintro w' hq; have := hq.toStep; refine jT rfl rfl rfl ?_; apply jI; exact eI rfl; refine jz ?_; exact ⟨rfl, rfl⟩; apply jjT; exact rfl; rintro w' hq; have := hq.toStep; refine jT rfl rfl rfl ?_; refine jjZ rfl rfl (by omega) ?_; refine jz ?_; exact ⟨rfl, rfl⟩; apply jjT; exact rfl; rintro w' hq; have := hq.toStep; refine jT rfl rfl rfl ?_; apply jI; exact eB rfl; refine jz ?_; exact ⟨rfl, rfl⟩; apply jjT; exact rfl; rintro w' hq; have := hq.toStep; refine jU rfl rfl rfl rfl ?_; refine jz ?_; exact ⟨rfl, rfl⟩; apply jjT; exact rfl; rintro w' hq; have := hq.toStep; refine jU rfl rfl rfl rfl ?_; refine jz ?_; exact ⟨rfl, rfl⟩; apply jjT; exact rfl; rintro w' hq; have := hq.toStep; refine jU rfl rfl rfl rfl ?_; refine jz ?_; exact ⟨rfl, rfl⟩; apply jjT; exact rfl; rintro w' hq; have := hq.toStep; refine jU rfl rfl rfl rfl ?_; refine jz ?_; exact ⟨rfl, rfl⟩; apply jjT; exact rfl; rintro w' hq; have := hq.toStep; refine jU rfl rfl rfl rfl ?_; refine jz ?_; exact ⟨rfl, rfl⟩; apply jjT; exact rfl; rintro w' hq; have := hq.toStep; refine jU rfl rfl rfl rfl ?_; refine jz ?_; exact ⟨rfl, rfl⟩; apply jjT; exact rfl; rintro w' hq; have := hq.toStep; refine jU rfl rfl rfl rfl ?_; refine jz ?_; exact ⟨rfl, rfl⟩; apply jjT; exact rfl; rintro w' hq; have := hq.toStep; refine jU rfl rfl rfl rfl ?_; refine jz ?_; exact ⟨rfl, rfl⟩; apply jjT; exact rfl; rintro w' hq; have := hq.toStep; refine jU rfl rfl rfl rfl ?_; refine jz ?_; exact ⟨rfl, rfl⟩; apply jjT; exact rfl; rintro w' hq; have := hq.toStep; refine jT rfl rfl rfl ?_; apply jK rfl; exact eB rfl; refine jz ?_; exact ⟨rfl, rfl⟩; apply jjT; exact rfl; rintro w' hq; have := hq.toStep; apply jK rfl; exact eB rfl; refine jz ?_; exact ⟨rfl, rfl⟩; refine jjU ?_)))
      refine jjX (by decide +kernel) hS67 ?_
      (refine jjJ rfl ?_; refine jjC ?_; apply jI; exact eI rfl; refine jY rfl rfl (by omega) ?_; apply jI; exact eI rfl; apply jJ; exact eI rfl; apply jJ; exact eI rfl; refine jz ?_; refine jjC ?_; refine jY rfl rfl (by omega) ?_; apply jI; exact eI rfl; refine jz ?_)
      exact ⟨rfl, by ((refine Same.upd rfl ?_; refine Same.upd rfl ?_; refine Same.upd rfl ?_; refine Same.upd rfl ?_; refine Same.upd rfl ?_; refine Same.upd rfl ?_; refine Same.upd rfl ?_; refine Same.upd rfl ?_; refine Same.upd rfl ?_; refine Same.upd rfl ?_; refine Same.upd rfl ?_; refine Same.upd rfl ?_; refine Same.upd rfl ?_; refine Same.upd rfl ?_; refine Same.upd rfl ?_; refine Same.upd rfl ?_; refine Same.upd rfl ?_; refine Same.upd rfl ?_; refine Same.upd rfl ?_; refine Same.upd rfl ?_; refine Same.upd rfl ?_; refine Same.upd rfl ?_; refine Same.upd rfl ?_; refine Same.upd rfl ?_; refine Same.upd rfl ?_; refine Same.upd rfl ?_; refine Same.upd rfl ?_; refine Same.upd rfl ?_; refine Same.upd rfl ?_; refine Same.upd rfl ?_; refine Same.upd rfl ?_; refine Same.upd rfl ?_; refine Same.upd rfl ?_; exact Same.ovN)), d.length - (k + 1), by omega, inferInstance, k + 1, x + 1, (k : Int), congrArg (Value.int .i64) (by omega), rfl, rfl, rfl, by omega, hSo'⟩
    obtain ⟨j, rfl⟩ : ∃ j : Nat, y = (j : Int) := ⟨y.toNat, by omega⟩
    have hjk : j < k := by
      obtain ⟨L, _, _, ⟨h, _⟩ | ⟨j', h, h', _⟩⟩ := id hSo <;> omega
    refine jjV [4, 5, 6, 7, 8, 9, 10] (by decide +kernel) hS67 ?_
    (((apply jjT; exact rfl; rintro w' hq; have := hq.toStep; refine jjh rfl rfl (by omega) ?_; refine jz ?_; exact ⟨rfl, rfl⟩; apply jjT; exact rfl; rintro w' hq; have := hq.toStep; apply jI; exact eB rfl; refine jz ?_; exact ⟨rfl, rfl⟩; apply jjT; exact rfl; rintro w' hq; have := hq.toStep; refine jT rfl rfl rfl ?_; apply jI; exact eI rfl; refine jz ?_; exact ⟨rfl, rfl⟩; apply jjT; exact rfl; rintro w' hq; have := hq.toStep; refine jT rfl rfl rfl ?_; refine jja rfl rfl (by omega) ?_; refine jz ?_; exact ⟨rfl, rfl⟩; apply jjT; exact rfl; rintro w' hq; have := hq.toStep; refine jT rfl rfl rfl ?_; apply jI; exact eB rfl; refine jz ?_; exact ⟨rfl, rfl⟩; apply jjT; exact rfl; rintro w' hq; have := hq.toStep; refine jT rfl rfl rfl ?_; apply jI; exact eS rfl; refine jz ?_; exact ⟨rfl, rfl⟩; apply jjT; exact rfl; rintro w' hq; have := hq.toStep; refine jT rfl rfl rfl ?_; apply jI; exact eI rfl; refine jz ?_; exact ⟨rfl, rfl⟩; refine jjU ?_)))
    refine jjV [11] (by decide +kernel) hS67 (jjT (v := .pointer (some ⟨pb, po + k * 1, none⟩)) rfl (fun w' q1 => ?_) (jjU ?_)); (refine jT rfl rfl rfl ?_; refine jH k rfl rfl rfl (by omega) ?_; refine jz ?_; exact ⟨rfl, rfl⟩)
    refine jjV [12] (by decide +kernel) hS67 (jjT (v := .int .i64 (gd d k)) rfl (fun w' q1 => ?_) (jjU ?_)); (refine jT rfl rfl rfl ?_; refine jR (((Dat V3 k hE3 hk1).ext q1).get (i := 0) rfl) rfl rfl ?_; refine jz ?_; exact ⟨rfl, rfl⟩)
    refine jjV [13, 14] (by decide +kernel) hS67 ?_
    (((apply jjT; exact rfl; rintro w' hq; have := hq.toStep; refine jT rfl rfl rfl ?_; apply jI; exact eS rfl; refine jz ?_; exact ⟨rfl, rfl⟩; apply jjT; exact rfl; rintro w' hq; have := hq.toStep; refine jT rfl rfl rfl ?_; apply jI; exact eI rfl; refine jz ?_; exact ⟨rfl, rfl⟩; refine jjU ?_)))
    refine jjV [15] (by decide +kernel) hS67 (jjT (v := .pointer (some ⟨pb, po + j * 1, none⟩)) rfl (fun w' q1 => ?_) (jjU ?_)); (refine jT rfl rfl rfl ?_; refine jH j rfl rfl rfl (by omega) ?_; refine jz ?_; exact ⟨rfl, rfl⟩)
    refine jjV [16] (by decide +kernel) hS67 (jjT (v := .int .i64 (gd d j)) rfl (fun w' q1 => ?_) (jjU ?_)); (refine jT rfl rfl rfl ?_; refine jR (((Dat V3 j hE3 (by omega)).ext q1).get (i := 0) rfl) rfl rfl ?_; refine jz ?_; exact ⟨rfl, rfl⟩)
    by_cases hge : gd d j ≤ gd d k
    · have hSo' := hSo.take hk1 (.inr ⟨j, rfl, hge⟩)
      refine jjV [17, 18, 19] (by decide +kernel) hS67 ?_
      (((apply jjT; exact rfl; rintro w' hq; have := hq.toStep; refine jT rfl rfl rfl ?_; refine jjf rfl rfl (by omega) ?_; refine jz ?_; exact ⟨rfl, rfl⟩; apply jjT; exact rfl; rintro w' hq; have := hq.toStep; refine jT rfl rfl rfl ?_; apply jL rfl; exact eB rfl; refine jz ?_; exact ⟨rfl, rfl⟩; apply jjT; exact rfl; rintro w' hq; have := hq.toStep; apply jK rfl; exact eB rfl; refine jz ?_; exact ⟨rfl, rfl⟩; refine jjU ?_)))
      refine jjX (by decide +kernel) hS67 ?_
      (refine jjJ rfl ?_; refine jjC ?_; apply jI; exact eI rfl; refine jY rfl rfl (by omega) ?_; apply jI; exact eI rfl; apply jJ; exact eI rfl; apply jJ; exact eI rfl; refine jz ?_; refine jjC ?_; refine jY rfl rfl (by omega) ?_; apply jI; exact eI rfl; refine jz ?_)
      exact ⟨rfl, by ((refine Same.upd rfl ?_; refine Same.upd rfl ?_; refine Same.upd rfl ?_; refine Same.upd rfl ?_; refine Same.upd rfl ?_; refine Same.upd rfl ?_; refine Same.upd rfl ?_; refine Same.upd rfl ?_; refine Same.upd rfl ?_; refine Same.upd rfl ?_; refine Same.upd rfl ?_; refine Same.upd rfl ?_; refine Same.upd rfl ?_; refine Same.upd rfl ?_; refine Same.upd rfl ?_; refine Same.upd rfl ?_; refine Same.upd rfl ?_; refine Same.upd rfl ?_; refine Same.upd rfl ?_; refine Same.upd rfl ?_; refine Same.upd rfl ?_; refine Same.upd rfl ?_; refine Same.upd rfl ?_; refine Same.upd rfl ?_; refine Same.upd rfl ?_; refine Same.upd rfl ?_; refine Same.upd rfl ?_; refine Same.upd rfl ?_; refine Same.upd rfl ?_; refine Same.upd rfl ?_; refine Same.upd rfl ?_; refine Same.upd rfl ?_; refine Same.upd rfl ?_; exact Same.ovN)), d.length - (k + 1), by omega, inferInstance, k + 1, x + 1, (k : Int), congrArg (Value.int .i64) (by omega), rfl, rfl, rfl, by omega, hSo'⟩
    · refine jjV [17, 18, 19] (by decide +kernel) hS67 ?_
      (((apply jjT; exact rfl; rintro w' hq; have := hq.toStep; refine jT rfl rfl rfl ?_; refine jjg rfl rfl (by omega) ?_; refine jz ?_; exact ⟨rfl, rfl⟩; apply jjT; exact rfl; rintro w' hq; have := hq.toStep; refine jT rfl rfl rfl ?_; apply jL rfl; exact eB rfl; refine jz ?_; exact ⟨rfl, rfl⟩; apply jjT; exact rfl; rintro w' hq; have := hq.toStep; apply jK rfl; exact eB rfl; refine jz ?_; exact ⟨rfl, rfl⟩; refine jjU ?_)))
      refine jjX (by decide +kernel) hS67 ?_
      (refine jjK rfl ?_; refine jjG ?_; refine jjC ?_; refine jY rfl rfl (by omega) ?_; apply jI; exact eI rfl; refine jz ?_)
      exact ⟨rfl, by ((refine Same.upd rfl ?_; refine Same.upd rfl ?_; refine Same.upd rfl ?_; refine Same.upd rfl ?_; refine Same.upd rfl ?_; refine Same.upd rfl ?_; refine Same.upd rfl ?_; refine Same.upd rfl ?_; refine Same.upd rfl ?_; refine Same.upd rfl ?_; refine Same.upd rfl ?_; refine Same.upd rfl ?_; refine Same.upd rfl ?_; refine Same.upd rfl ?_; refine Same.upd rfl ?_; refine Same.upd rfl ?_; refine Same.upd rfl ?_; refine Same.upd rfl ?_; refine Same.upd rfl ?_; refine Same.upd rfl ?_; refine Same.upd rfl ?_; refine Same.upd rfl ?_; refine Same.upd rfl ?_; refine Same.upd rfl ?_; refine Same.upd rfl ?_; refine Same.upd rfl ?_; refine Same.upd rfl ?_; refine Same.upd rfl ?_; exact Same.ovN)), d.length - (k + 1), by omega, inferInstance, k + 1, x, (j : Int), congrArg (Value.int .i64) (by omega), rfl, rfl, rfl, by omega, hSo.skip⟩
  obtain rfl : k = d.length := by omega
  have hfew := hSo.few hB
  rw [← hK] at hfew
  have hE3 : Ext V2 V3 := inferInstance
  have hM10 := hM9.ext hE3
  have hM11 := hM2.ext hE3
  (refine jjB ?_; refine jjC ?_; refine jja rfl rfl (by omega) ?_; refine jz ?_; refine jjB ?_; refine jjK rfl ?_; refine jjE ?_; refine jjB ?_; refine jjC ?_; apply jI; exact eB rfl; apply jI; exact eB rfl; refine jT rfl rfl rfl ?_; apply jI; exact eM rfl; refine jT rfl rfl rfl ?_)
  refine Ops.lenM hM10 rfl ?_
  have hml' : (m.length : Int) = (K.length : Int) := by rw [hml]
  (refine jT rfl rfl rfl ?_; apply jI; exact eS rfl; refine jT rfl rfl rfl ?_; refine jh rfl ?_; refine jT rfl rfl rfl ?_; refine jjh rfl rfl (by omega) ?_; apply jK rfl; exact eB rfl; apply jI; exact eB rfl; refine jT rfl rfl rfl ?_; apply jI; exact eM rfl; refine jT rfl rfl rfl ?_)
  refine Ops.lenM hM11 rfl ?_
  have hsl' : (m2.length : Int) = (K.length : Int) := by rw [hsl]
  (refine jT rfl rfl rfl ?_; apply jI; exact eS rfl; refine jT rfl rfl rfl ?_; refine jh rfl ?_; refine jT rfl rfl rfl ?_; refine jjh rfl rfl (by omega) ?_; apply jK rfl; exact eB rfl; apply jI; exact eB rfl; refine jT rfl rfl rfl ?_; apply jI; exact eI rfl; refine jT rfl rfl rfl ?_; apply jI; exact eS rfl; refine jT rfl rfl rfl ?_; refine jh rfl ?_; refine jT rfl rfl rfl ?_; refine jjb rfl rfl (by omega) ?_; apply jK rfl; exact eB rfl; apply jJ; exact eB rfl; refine jz ?_; refine jjF ?_; refine jB rfl rfl ⟨inferInstance, ?_⟩)
  exact rfl
end
end Go.Proofs.YtpijeomnplmakaaGreatDoor
