/- Texts of the proof, part 7: Gk4, Mon, Rk6, Rb9, Sm1, Eng49, PlX, Al1, Al2, SlV, SameT, Rc1, Al3, LawRd. -/
import Derived.WalkKit
import Derived.Calls
import Derived.KernelRfl
import Derived.Test.YtpijeomnplmakaaGreatDoorRD6
/- The statements' examples: alive is true. -/
namespace Go.Proofs.YtpijeomnplmakaaGreatDoor
open Go.RowKit

/-- What the operations of the last region stand behind, set, look at. -/
def aliveR : List RowN := [(0, 4835703278458516698824704, 4), (1, 9671406556917033397649408, 4835703278458516698824704), (2, 19342813113834066795298816, 9671406556917033397649408), (4, 38685626227668133590597632, 19342813113834066795298818), (4,
  77371252455336267181195264, 19342813113834066795298816), (28, 154742504910672534362390528, 135399691796838467567091712), (36, 309485009821345068724781056, 174085318024506601157689344), (96, 618970019642690137449562112,
  309485009821345068724781056), (128, 1237940039285380274899124224, 618970019642690137449562128), (384, 2475880078570760549798248448, 1856910058928070412348686336), (640, 4951760157141521099596496896, 3094850098213450687247810560),
  (1152, 9903520314283042199192993792, 4951760157141521099596496896), (2048, 19807040628566084398385987584, 9903520314283042199192993800), (6144, 39614081257132168796771975168, 29710560942849126597578981376), (10240,
  79228162514264337593543950336, 49517601571415210995964968960), (18432, 158456325028528675187087900672, 79228162514264337593543950336), (32768, 316912650057057350374175801344, 158456325028528675187087900736), (98304,
  633825300114114700748351602688, 475368975085586025561263702016), (163840, 1267650600228229401496703205376, 792281625142643375935439503360), (294912, 2535301200456458802993406410752, 1267650600228229401496703205376), (524288,
  5070602400912917605986812821504, 2535301200456458802993406410784), (524288, 10141204801825835211973625643008, 2535301200456458802993406410752), (524288, 20282409603651670423947251286016, 2535301200456458802993406410752), (6815744,
  40564819207303340847894502572032, 32958915605933964438914283339776), (9961472, 81129638414606681695789005144064, 48170722808672717256874721804288), (17301504, 162259276829213363391578010288128, 83664939615063140498782411554816),
  (50331648, 324518553658426726783156020576256, 162259276829213363391578010288128), (67108864, 649037107316853453566312041152512, 324518553658426726783156020576512), (201326592, 1298074214633706907132624082305024,
  973555660975280180349468061728768), (335544320, 2596148429267413814265248164610048, 1622592768292133633915780102881280), (603979776, 5192296858534827628530496329220096, 2596148429267413814265248164610048), (1073741824,
  10384593717069655257060992658440192, 5192296858534827628530496329220224), (1073741824, 20769187434139310514121985316880384, 5192296858534827628530496329220096), (7516192768, 41538374868278621028243970633760768,
  36346078009743793399713474304540672), (9663676416, 83076749736557242056487941267521536, 46730671726813448656774466962980864), (25769803776, 166153499473114484112975882535043072, 83076749736557242056487941267521536), (34359738368,
  332306998946228968225951765070086144, 166153499473114484112975882535044096), (103079215104, 664613997892457936451903530140172288, 498460498419343452338927647605129216), (171798691840, 1329227995784915872903807060280344576,
  830767497365572420564879412675215360), (309237645312, 2658455991569831745807614120560689152, 1329227995784915872903807060280344576), (549755813888, 5316911983139663491615228241121378304, 2658455991569831745807614120560689664),
  (549755813888, 10633823966279326983230456482242756608, 2658455991569831745807614120560689152), (549755813888, 21267647932558653966460912964485513216, 2658455991569831745807614120560689152), (7146825580544,
  42535295865117307932921825928971026432, 34559927890407812695498983567288958976), (10445360463872, 85070591730234615865843651857942052864, 50510663839826803170344668290653093888), (18141941858304,
  170141183460469231731687303715884105728, 87729047721804447611651265978502742016), (52776558133248, 340282366920938463463374607431768211456, 170141183460469231731687303715884105728), (70368744177664,
  680564733841876926926749214863536422912, 340282366920938463463374607431768215552), (211106232532992, 1361129467683753853853498429727072845824, 1020847100762815390390123822295304634368), (351843720888320,
  2722258935367507707706996859454145691648, 1701411834604692317316873037158841057280), (633318697598976, 5444517870735015415413993718908291383296, 2722258935367507707706996859454145691648), (1125899906842624,
  10889035741470030830827987437816582766592, 5444517870735015415413993718908291385344), (1125899906842624, 21778071482940061661655974875633165533184, 5444517870735015415413993718908291383296), (7881299347898368,
  43556142965880123323311949751266331066368, 38111625095145107907897956032358039683072), (10133099161583616, 87112285931760246646623899502532662132736, 49000660836615138738725943470174622449664), (27021597764222976,
  174224571863520493293247799005065324265472, 87112285931760246646623899502532662132736), (36028797018963968, 348449143727040986586495598010130648530944, 174224571863520493293247799005065324281856), (108086391056891904,
  696898287454081973172991196020261297061888, 522673715590561479879743397015195972796416), (180143985094819840, 1393796574908163946345982392040522594123776, 871122859317602466466238995025326621327360), (324259173170675712,
  2787593149816327892691964784081045188247552, 1393796574908163946345982392040522594123776), (576460752303423488, 5575186299632655785383929568162090376495104, 2787593149816327892691964784081045188255744), (576460752303423488,
  11150372599265311570767859136324180752990208, 2787593149816327892691964784081045188247552), (4035225266123964416, 22300745198530623141535718272648361505980416, 19513152048714295248843753488567316317732864), (5188146770730811392,
  44601490397061246283071436545296723011960832, 25088338348346951034227683056729406694227968), (13835058055282163712, 89202980794122492566142873090593446023921664, 44601490397061246283071436545296723011960832),
  (18446744073709551616, 178405961588244985132285746181186892047843328, 89202980794122492566142873090593446023987200), (55340232221128654848, 356811923176489970264571492362373784095686656,
  267608942382367477698428619271780338071764992), (92233720368547758080, 713623846352979940529142984724747568191373312, 446014903970612462830714365452967230119608320), (166020696663385964544,
  1427247692705959881058285969449495136382746624, 713623846352979940529142984724747568191373312), (295147905179352825856, 2854495385411919762116571938898990272765493248, 1427247692705959881058285969449495136382779392),
  (295147905179352825856, 5708990770823839524233143877797980545530986496, 1427247692705959881058285969449495136382746624), (295147905179352825856, 11417981541647679048466287755595961091061972992,
  1427247692705959881058285969449495136382746624), (3836922767331586736128, 22835963083295358096932575511191922182123945984, 18554220005177478453757717602843436772975706112), (5607810198407703691264,
  45671926166590716193865151022383844364247891968, 27117706161413237740107433419540407591272185856), (9739880870918643253248, 91343852333181432387730302044767688728495783936, 47099173859296676074923436991833339500630638592),
  (28334198897217871282176, 182687704666362864775460604089535377456991567872, 91343852333181432387730302044767688728495783936), (37778931862957161709568, 365375409332725729550921208179070754913983135744,
  182687704666362864775460604089535377456991830016), (113336795588871485128704, 730750818665451459101842416358141509827966271488, 548063113999088594326381812268606132370974703616), (188894659314785808547840,
  1461501637330902918203684832716283019655932542976, 913438523331814323877303020447676887284957839360), (340010386766614455386112, 2923003274661805836407369665432566039311865085952,
  1461501637330902918203684832716283019655932542976), (604462909807314587353088, 5846006549323611672814739330865132078623730171904, 2923003274661805836407369665432566039311865217024), (604462909807314587353088,
  11692013098647223345629478661730264157247460343808, 2923003274661805836407369665432566039311865085952), (4231240368651202111471616, 23384026197294446691258957323460528314494920687616,
  20461022922632640854851587658027962275183055601664), (5440166188265831286177792, 46768052394588893382517914646921056628989841375232, 26307029471956252527666326988893094353806785773568), (14507109835375550096474112,
  93536104789177786765035829293842113257979682750464, 46768052394588893382517914646921056628989841375232), (19342813113834066795298816, 187072209578355573530071658587684226515959365500928,
  93536104789177786765035829293842113257979683799040), (58028439341502200385896448, 374144419156711147060143317175368453031918731001856, 280608314367533360295107487881526339773939048251392), (96714065569170333976494080,
  748288838313422294120286634350736906063837462003712, 467680523945888933825179146469210566289898413752320), (174085318024506601157689344, 1496577676626844588240573268701473812127674924007424,
  748288838313422294120286634350736906063837462003712), (309485009821345068724781056, 2993155353253689176481146537402947624255349848014848, 1496577676626844588240573268701473812127674924531712), (309485009821345068724781056,
  5986310706507378352962293074805895248510699696029696, 1496577676626844588240573268701473812127674924007424), (2166395068749415481073467392, 11972621413014756705924586149611790497021399392059392,
  10476043736387912117684012880910316684893724468051968), (2785365088392105618523029504, 23945242826029513411849172299223580994042798784118784, 13469199089641601294165159418313264309149074316066816), (7427640235712281649394745344,
  47890485652059026823698344598447161988085597568237568, 23945242826029513411849172299223580994042798784118784), (9903520314283042199192993792, 95780971304118053647396689196894323976171195136475136,
  47890485652059026823698344598447161988085597576626176), (29710560942849126597578981376, 191561942608236107294793378393788647952342390272950272, 143671456956177080471095033795341485964256792704712704),
  (49517601571415210995964968960, 383123885216472214589586756787577295904684780545900544, 239452428260295134118491722992235809940427987841187840), (89131682828547379792736944128,
  766247770432944429179173513575154591809369561091801088, 383123885216472214589586756787577295904684780545900544), (158456325028528675187087900672, 1532495540865888858358347027150309183618739122183602176,
  766247770432944429179173513575154591809369561095995392), (475368975085586025561263702016, 3064991081731777716716694054300618367237478244367204352, 2298743311298833287537520540725463775428108683275403264),
  (792281625142643375935439503360, 6129982163463555433433388108601236734474956488734408704, 3831238852164722145895867567875772959046847805459005440), (1426106925256758076683791106048,
  12259964326927110866866776217202473468949912977468817408, 6129982163463555433433388108601236734474956488734408704), (2535301200456458802993406410752, 24519928653854221733733552434404946937899825954937634816,
  12259964326927110866866776217202473468949912977470914560), (7605903601369376408980219232256, 49039857307708443467467104868809893875799651909875269632, 36779892980781332600600328651607420406849738932406452224),
  (12676506002282294014967032053760, 98079714615416886934934209737619787751599303819750539264, 61299821634635554334333881086012367344749564887344087040), (22817710804108129226940657696768,
  196159429230833773869868419475239575503198607639501078528, 110339678942343997801800985954822261220549216797219356672), (43100120407759799650887908982784, 392318858461667547739736838950479151006397215279002157056,
  196159429230833773869868419475239575503198607639501078528), (81129638414606681695789005144064, 784637716923335095479473677900958302012794430558004314112, 392318858461667547739736838950479151006397215279004254208),
  (243388915243820045087367015432192, 1569275433846670190958947355801916604025588861116008628224, 1176956575385002643219210516851437453019191645837006471168), (405648192073033408478945025720320,
  3138550867693340381917894711603833208051177722232017256448, 1961594292308337738698684194752395755031986076395010785280), (730166745731460135262101046296576, 6277101735386680763835789423207666416102355444464034512896,
  3530869726155007929657631550554312359057574937511019413504), (1379203853048313588828413087449088, 12554203470773361527671578846415332832204710888928069025792, 6669420593848348311575526262158145567108752659743036669952),
  (2677278067682020495961037169754112, 25108406941546723055343157692830665664409421777856138051584, 12946522329235029075411315685365811983211108104207071182848), (5273426496949434310226285334364160,
  50216813883093446110686315385661331328818843555712276103168, 25108406941546723055343157692830665664409421777856138051584), (10384593717069655257060992658440192, 100433627766186892221372630771322662657637687111424552206336,
  50216813883093446110686315385661331328818843555712278200320), (31153781151208965771182977975320576, 200867255532373784442745261542645325315275374222849104412672, 150650441649280338332058946156983993986456530667136828309504),
  (51922968585348276285304963292200960, 401734511064747568885490523085290650630550748445698208825344, 251084069415467230553431576928306656644094217778561380515840), (93461343453626897313548933925961728,
  803469022129495137770981046170581301261101496891396417650688, 451951324947841014996176838470951981959369592001410484928512), (176538093190184139370036875193483264, 1606938044258990275541962092341162602522202993782792835301376,
  853685836012588583881667361556242632589920340447108693753856), (342691592663298623483012757728526336, 3213876088517980551083924184682325205044405987565585670602752, 1657154858142083721652648407726823933851021837338505111404544),
  (674998591609527591708964522798612480, 6427752177035961102167848369364650410088811975131171341205504, 3213876088517980551083924184682325205044405987565585670602752), (1329227995784915872903807060280344576,
  12855504354071922204335696738729300820177623950262342682411008, 6427752177035961102167848369364650410088811975131171343302656), (3987683987354747618711421180841033728,
  25711008708143844408671393477458601640355247900524685364822016, 19283256531107883306503545108093951230266435925393514023616512), (6646139978924579364519035301401722880,
  51422017416287688817342786954917203280710495801049370729644032, 32138760885179805510839241846823252050444059875655856706027520), (1329227995784915872903807060280344576,
  102844034832575377634685573909834406561420991602098741459288064, 6427752177035961102167848369364650410088811975131171341205504), (22596875928343569839364720024765857792,
  205688069665150755269371147819668813122841983204197482918576128, 109271787009611338736853422279199056971509803577229912800493568), (43864523860902223805825632989251371008,
  411376139330301510538742295639337626245683966408394965837152256, 212115821842186716371538996189033463532930795179328654259781632), (97033643692298858721977915400465154048,
  822752278660603021077484591278675252491367932816789931674304512, 469225908923625160458252930963619479936483274184575507908001792), (171470411456254147604591110776164450304,
  1645504557321206042154969182557350504982735865633579863348609024, 829180030837638982179652439648039902901456744791921103015510016), (361550014853497117429835520396253724672,
  3291009114642412084309938365114701009965471731267159726697218048, 1645504557321206042154969182557350504982735865633579863348609024), (680564733841876926926749214863536422912,
  6582018229284824168619876730229402019930943462534319453394436096, 3291009114642412084309938365114701009965471731267159726699315200), (2041694201525630780780247644590609268736,
  13164036458569648337239753460458804039861886925068638906788872192, 9873027343927236252929815095344103029896415193801479180091654144), (3402823669209384634633746074317682114560,
  26328072917139296674479506920917608079723773850137277813577744384, 16455045573212060421549691825573505049827358656335798633486090240), (680564733841876926926749214863536422912,
  52656145834278593348959013841835216159447547700274555627155488768, 3291009114642412084309938365114701009965471731267159726697218048), (11569600475311907757754736652680119189504,
  105312291668557186697918027683670432318895095400549111254310977536, 55947154948921005433268952206949917169413019431541715353852706816), (22458636216781938588582724090496701956096,
  210624583337114373395836055367340864637790190801098222508621955072, 108603300783199598782227966048785133328860567131816270981008195584), (49681225570457015665652692685038158872576,
  421249166674228746791672110734681729275580381602196445017243910144, 240243665368896082154625500653373173727479436382502660048896917504), (87792850665602123573550648717396198555648,
  842498333348457493583344221469363458551160763204392890034487820288, 424540175788871158875982049099796430285545853333463604743941128192), (348449143727040986586495598010130648530943, 1,
  842498333348457493583344221469363458551160763204392890034487820288)]

section
variable (w : World) [hgb : At w 0 0 bysC] [hmx : MxI w]
omit hgb hmx in
theorem same_ex (a : Option Addr) (c b n : Nat) (xs : List Int) (hn : n = xs.length) (hx : n ≤ 100) (h1 : RowV w false 1 (.slice a n c) (xs.map intV)) (h2 : Bk w b (xs.map intV) 3) : Ct Tryz.prog 51 [.slice a n c, .slice (some ⟨b, 0, none⟩) n n] w fun v _ => v = .bool true := by
  subst hn
  have i1 : RowI w (.slice a xs.length c) false 1 (xs.map intV) := ⟨h1⟩
  have i2 : RowI w (.slice (some ⟨b, 0, none⟩) xs.length xs.length) false 1 (xs.map intV) := ⟨by have := h2.row (fun x hx => by obtain ⟨y, _, rfl⟩ := List.mem_map.1 hx; rfl) (by rw [List.length_map]; omega); rwa [List.length_map] at this⟩
  exact (same_law6 a (some ⟨b, 0, none⟩) c xs.length xs xs w).mono fun v _ _ e => e.trans (by rw [decide_eq_true rfl])
set_option maxRecDepth 20000 in
set_option maxHeartbeats 16000000 in
theorem alive_law6 : Ct Tryz.prog 13 [] w fun v _ => v = .bool true := by
  refine Ct.ofW (by simp) ?_
  (refine jjB ?_; refine jjC ?_; apply jJ; exact eB rfl; refine jz ?_; refine jjB ?_; refine jjC ?_)
  refine jjQ (deck_law6 _) rfl rfl ?_
  rintro _ w1 hS1 ⟨d1, rfl, hD1⟩
  skip
  refine jjQ (ex_runs d1 _ hD1) rfl rfl ?_
  rintro _ w2 hS2 ⟨a2, c2, rfl, hR2⟩
  (apply jI; exact eU rfl; refine ju rfl rfl ?_; refine ju rfl rfl ?_; apply jJ; exact eS rfl; apply jJ; exact eI rfl; refine jz ?_; refine jjB ?_; refine jjC ?_)
  refine jjQ (deck_law6 _) rfl rfl ?_
  rintro _ w3 hS3 ⟨d3, rfl, hD3⟩
  skip
  refine jjQ (ex_passes2 d3 _ hD3) rfl rfl ?_
  rintro _ w4 hS4 rfl
  (apply jI; exact eU rfl; refine ju rfl rfl ?_; refine ju rfl rfl ?_; apply jJ; exact eI rfl; apply jJ; exact eI rfl; refine jz ?_; refine jjB ?_; refine jjC ?_)
  refine jjQ (deck_law6 _) rfl rfl ?_
  rintro _ w5 hS5 ⟨d5, rfl, hD5⟩
  skip
  refine jjQ (ex_plan2 d5 _ hD5) rfl rfl ?_
  rintro _ w6 hS6 ⟨a6, c6, rs, rfl, hrs, hP6, hI6⟩
  have iP6 : RowI w6 (.slice a6 rs.length c6) false 1 (rs.map encW) := ⟨hP6⟩
  (apply jI; exact eU rfl; refine ju rfl rfl ?_; refine ju rfl rfl ?_; apply jJ; exact eS rfl; apply jJ; exact eI rfl; refine jz ?_; refine jjB ?_; refine jjC ?_)
  refine jjQ (deck_law6 _) rfl rfl ?_
  rintro _ w7 hS7 ⟨d7, rfl, hD7⟩
  (apply jI; exact eS rfl)
  refine jjQ (ex_sort d7 _ hD7 a6 c6 rs hrs) rfl rfl ?_
  rintro _ w8 hS8 ⟨a8, c8, rfl, hR8⟩
  (apply jI; exact eU rfl; refine ju rfl rfl ?_; refine ju rfl rfl ?_; apply jJ; exact eS rfl; apply jJ; exact eI rfl; refine jz ?_; refine jjB ?_; refine jjC ?_)
  refine jjQ (deck_law6 _) rfl rfl ?_
  rintro _ w9 hS9 ⟨d9, rfl, hD9⟩
  skip
  refine jjQ (ex_proof2 d9 _ hD9) rfl rfl ?_
  rintro _ w10 hS10 ⟨a10, c10, rfl, hR10⟩
  (apply jI; exact eU rfl; refine ju rfl rfl ?_; refine ju rfl rfl ?_; apply jJ; exact eS rfl; apply jJ; exact eI rfl; refine jz ?_; refine jjB ?_; refine jjC ?_)
  refine jjQ (deck_law6 _) rfl rfl ?_
  rintro _ w11 hS11 ⟨d11, rfl, hD11⟩
  skip
  refine jjQ (ex_keep d11 _ hD11) rfl rfl ?_
  rintro _ w12 hS12 ⟨a12, c12, rfl, hR12⟩
  (apply jI; exact eU rfl; refine ju rfl rfl ?_; refine ju rfl rfl ?_; apply jJ; exact eS rfl; apply jJ; exact eI rfl; refine jz ?_; refine jjB ?_; refine jjC ?_)
  refine jjQ (deck_law6 _) rfl rfl ?_
  rintro _ w13 hS13 ⟨d13, rfl, hD13⟩
  skip
  refine jjQ (ex_chains d13 _ hD13) rfl rfl ?_
  rintro _ w14 hS14 ⟨a14, c14, rfl, hR14⟩
  (apply jI; exact eU rfl; refine ju rfl rfl ?_; refine ju rfl rfl ?_; apply jJ; exact eS rfl; apply jJ; exact eI rfl; refine jz ?_; refine jjB ?_; refine jjC ?_)
  refine jjQ (deck_law6 _) rfl rfl ?_
  rintro _ w15 hS15 ⟨d15, rfl, hD15⟩
  skip
  refine jjQ (ex_mend d15 _ hD15) rfl rfl ?_
  rintro _ w16 hS16 ⟨a16, c16, rfl, hR16⟩
  (apply jI; exact eU rfl; refine ju rfl rfl ?_; refine ju rfl rfl ?_; apply jJ; exact eS rfl; apply jJ; exact eI rfl; refine jz ?_; refine jjB ?_; refine jjC ?_)
  refine jjQ (deck_law6 _) rfl rfl ?_
  rintro _ w17 hS17 ⟨d17, rfl, hD17⟩
  (apply jI; exact eS rfl)
  refine jjQ (ex_moved d17 _ hD17 a16 c16 (hR16.ext hS17.ext)) rfl rfl ?_
  rintro _ w18 hS18 ⟨a18, c18, rfl, hR18⟩
  (apply jI; exact eU rfl; refine ju rfl rfl ?_; refine ju rfl rfl ?_; apply jJ; exact eS rfl; apply jJ; exact eI rfl; refine jz ?_; refine jjB ?_; refine jjC ?_)
  refine jjQ (slips_law6 _) rfl rfl ?_
  rintro _ w19 hS19 ⟨d19, rfl, hD19⟩
  skip
  refine jjQ (ex_ranks d19 _ hD19) rfl rfl ?_
  rintro _ w20 hS20 ⟨a20, c20, rfl, hR20⟩
  (apply jI; exact eU rfl; refine ju rfl rfl ?_; refine ju rfl rfl ?_; apply jJ; exact eS rfl; apply jJ; exact eI rfl; refine jz ?_; refine jjB ?_; refine jjC ?_)
  refine jjQ (slips_law6 _) rfl rfl ?_
  rintro _ w21 hS21 ⟨d21, rfl, hD21⟩
  skip
  refine jjQ (ex_file d21 _ hD21) rfl rfl ?_
  rintro _ w22 hS22 ⟨a22, c22, rfl, hR22⟩
  (apply jI; exact eU rfl; refine ju rfl rfl ?_; refine ju rfl rfl ?_; refine ju rfl rfl ?_; apply jJ; exact eS rfl; apply jJ; exact eI rfl; apply jJ; exact eI rfl; refine jz ?_; refine jjB ?_)
  have e4 : fileL exS 2 2 = [((0, 0, 0), xAnd, ⟨#[]⟩, ⟨#[]⟩), ((0, 0, 0), xOld, ⟨#[]⟩, ⟨#[]⟩), ((0, 0, 0), xSea, ⟨#[]⟩, ⟨#[]⟩), ((0, 0, 0), xSea, ⟨#[]⟩, xIs)] := exS_file
  rw [e4] at hR22
  obtain ⟨pb, po, rfl, -⟩ := hR22.place' (j := 0) rfl
  have P0 : At w22 pb (po + 0 * 6) [.int .i64 0, .int .i64 0, .int .i64 0, .string xAnd, .string ⟨#[]⟩, .string ⟨#[]⟩] := place_k hR22 (j := 0) rfl
  have P1 : At w22 pb (po + 1 * 6) [.int .i64 0, .int .i64 0, .int .i64 0, .string xOld, .string ⟨#[]⟩, .string ⟨#[]⟩] := place_k hR22 (j := 1) rfl
  have P2 : At w22 pb (po + 2 * 6) (encSl exS[0]).cells.toList := place_k hR22 (j := 2) rfl
  have P3 : At w22 pb (po + 3 * 6) (encSl exS[2]).cells.toList := place_k hR22 (j := 3) rfl
  have i10 : RowI w22 (.slice a10 ([(3, 2), (2, 0)] : List (Int × Int)).length c10) true 2 (([(3, 2), (2, 0)] : List (Int × Int)).map encII) := ⟨hR10.ext inferInstance⟩
  have i16 : RowI w22 (.slice a16 ([(0, 3), (2, 1)] : List (Int × Int)).length c16) true 2 (([(0, 3), (2, 1)] : List (Int × Int)).map encII) := ⟨hR16.ext inferInstance⟩
  have hl2 : rs.length = 2 := by have := congrArg List.length hrs; simpa using this
  have iP22 : RowI w22 (.slice a6 rs.length c6) false 1 (rs.map encW) := inferInstance
  have iI22 : RowsI w22 rs := hI6.ext inferInstance
  refine W.keep0 [(1, .slice a2 4 c2), (2, .int .i64 0), (3, .int .i64 2), (4, .int .i64 0), (5, .slice a6 rs.length c6), (6, .int .i64 0), (7, .slice a8 4 c8), (8, .int .i64 0), (9, .slice a10 2 c10), (10, .int .i64 0), (11, .slice a12 2 c12), (12, .int .i64 0), (13, .slice a14 4 c14), (14, .int .i64 0), (15, .slice a16 2 c16), (16, .int .i64 0), (17, .slice a18 4 c18), (18, .int .i64 0), (19, .slice a20 4 c20), (20, .int .i64 0), (21, .slice (some ⟨pb, po, none⟩) 4 c22), (22, .int .i64 2), (23, .int .i64 0)] ⟨eS rfl, eI rfl, eI rfl, eI rfl, eS rfl, eI rfl, eS rfl, eI rfl, eS rfl, eI rfl, eS rfl, eI rfl, eS rfl, eI rfl, eS rfl, eI rfl, eS rfl, eI rfl, eS rfl, eI rfl, eS rfl, eI rfl, eI rfl, trivial⟩ fun s0 => ?_
  refine W.drawF (fun w' => Ext w22 w') aliveR (by decide +kernel) (by decide +kernel) ?_
  intro w23 hS23
  refine AnyF.take [0, 1, 2, 3] (by decide +kernel) inferInstance ?_
  (((apply jjT; exact rfl; rintro w' hq; have := hq.toStep; apply jI; exact eI rfl; refine jz ?_; exact ⟨rfl, rfl⟩; apply jjT; exact rfl; rintro w' hq; have := hq.toStep; refine jjh rfl rfl (by omega) ?_; refine jz ?_; exact ⟨rfl, rfl⟩; apply jjT; exact rfl; rintro w' hq; have := hq.toStep; apply jI; exact eB rfl; refine jz ?_; exact ⟨rfl, rfl⟩; apply jjT; exact rfl; rintro w' hq; have := hq.toStep; refine jT rfl rfl rfl ?_; apply jI; exact eS rfl; refine jz ?_; exact ⟨rfl, rfl⟩; refine jjU ?_)))
  (apply AnyF.one 4; (decide +kernel); exact rfl; (exact inferInstance))
  refine jT rfl rfl rfl ?_
  refine Ops.buildSliceF (cells := [.int .i64 2, .int .i64 0, .int .i64 1, .int .i64 0]) rfl rfl rfl ?_
  intro b24 w24 hb24 hs24 hS24 hk24
  refine jz ?_
  (apply AnyF.one 5; (decide +kernel); exact rfl; (exact inferInstance))
  refine jT rfl rfl rfl ?_
  refine jjQ (same_ex _ a2 c2 b24 4 [2, 0, 1, 0] rfl (by decide) (hR2.ext inferInstance) hk24) rfl rfl ?_
  rintro _ w25 hS25 rfl
  refine jz ?_
  refine AnyF.take [6, 7, 8, 9, 10, 11, 12, 13, 14, 15, 16, 17, 18, 19, 20] (by decide +kernel) inferInstance ?_
  (((apply jjT; exact rfl; rintro w' hq; have := hq.toStep; apply jK rfl; exact eB rfl; refine jz ?_; exact ⟨rfl, rfl⟩; apply jjT; exact rfl; rintro w' hq; have := hq.toStep; apply jI; exact eB rfl; refine jz ?_; exact ⟨rfl, rfl⟩; apply jjT; exact rfl; rintro w' hq; have := hq.toStep; refine jT rfl rfl rfl ?_; apply jI; exact eI rfl; refine jz ?_; exact ⟨rfl, rfl⟩; apply jjT; exact rfl; rintro w' hq; have := hq.toStep; refine jT rfl rfl rfl ?_; refine jjh rfl rfl (by omega) ?_; refine jz ?_; exact ⟨rfl, rfl⟩; apply jjT; exact rfl; rintro w' hq; have := hq.toStep; apply jK rfl; exact eB rfl; refine jz ?_; exact ⟨rfl, rfl⟩; apply jjT; exact rfl; rintro w' hq; have := hq.toStep; apply jI; exact eB rfl; refine jz ?_; exact ⟨rfl, rfl⟩; apply jjT; exact rfl; rintro w' hq; have := hq.toStep; refine jT rfl rfl rfl ?_; apply jI; exact eI rfl; refine jz ?_; exact ⟨rfl, rfl⟩; apply jjT; exact rfl; rintro w' hq; have := hq.toStep; refine jT rfl rfl rfl ?_; refine jjh rfl rfl (by omega) ?_; refine jz ?_; exact ⟨rfl, rfl⟩; apply jjT; exact rfl; rintro w' hq; have := hq.toStep; apply jK rfl; exact eB rfl; refine jz ?_; exact ⟨rfl, rfl⟩; apply jjT; exact rfl; rintro w' hq; have := hq.toStep; apply jI; exact eB rfl; refine jz ?_; exact ⟨rfl, rfl⟩; apply jjT; exact rfl; rintro w' hq; have := hq.toStep; refine jT rfl rfl rfl ?_; apply jI; exact eI rfl; refine jz ?_; exact ⟨rfl, rfl⟩; apply jjT; exact rfl; rintro w' hq; have := hq.toStep; refine jT rfl rfl rfl ?_; refine jjh rfl rfl (by omega) ?_; refine jz ?_; exact ⟨rfl, rfl⟩; apply jjT; exact rfl; rintro w' hq; have := hq.toStep; apply jK rfl; exact eB rfl; refine jz ?_; exact ⟨rfl, rfl⟩; apply jjT; exact rfl; rintro w' hq; have := hq.toStep; apply jI; exact eB rfl; refine jz ?_; exact ⟨rfl, rfl⟩; apply jjT; exact rfl; rintro w' hq; have := hq.toStep; refine jT rfl rfl rfl ?_; apply jI; exact eS rfl; refine jz ?_; exact ⟨rfl, rfl⟩; refine jjU ?_)))
  refine AnyF.joinB 21 22 (d1 := 103) (d2 := 104) (by decide) (fun b => .slice (some ⟨b, 0, none⟩) 4 4) (fun b => .slice (some ⟨b, 0, none⟩) 4 4) (fun b1 b2 w2 => Ext w25 w2 ∧ Bk w2 b1 [.int .i64 0, .int .i64 0, .int .i64 1, .int .i64 0] 3 ∧ Bk w2 b2 [.int .i64 1, .int .i64 0, .int .i64 0, .int .i64 0] 3) (by decide +kernel) rfl rfl inferInstance ?_ ?_ ?_
  · refine jT rfl rfl rfl ?_
    refine Ops.buildSliceF (cells := [.int .i64 0, .int .i64 0, .int .i64 1, .int .i64 0]) rfl rfl rfl ?_
    intro b1 w1' hb1 hs1 hS1' hk1
    refine jz ?_
    refine ⟨inferInstance, ?_⟩
    refine jT rfl rfl rfl ?_
    refine Ops.buildSliceF (cells := [.int .i64 1, .int .i64 0, .int .i64 0, .int .i64 0]) rfl rfl rfl ?_
    intro b2 w2' hb2 hs2 hS2' hk2
    refine jz ?_
    exact ⟨b1, b2, rfl, inferInstance, inferInstance, inferInstance⟩
  · refine jT rfl rfl rfl ?_
    refine Ops.buildSliceF (cells := [.int .i64 1, .int .i64 0, .int .i64 0, .int .i64 0]) rfl rfl rfl ?_
    intro b1 w1' hb1 hs1 hS1' hk1
    refine jz ?_
    refine ⟨inferInstance, ?_⟩
    refine jT rfl rfl rfl ?_
    refine Ops.buildSliceF (cells := [.int .i64 0, .int .i64 0, .int .i64 1, .int .i64 0]) rfl rfl rfl ?_
    intro b2 w2' hb2 hs2 hS2' hk2
    refine jz ?_
    exact ⟨b2, b1, rfl, inferInstance, inferInstance, inferInstance⟩
  rintro b26 b27 w27 ⟨hE27, kk1, kk2⟩
  have hS27 := hE27.toStep
  (apply AnyF.one 23; (decide +kernel); exact rfl; (exact inferInstance))
  refine jT rfl rfl rfl ?_
  refine Ops.buildSliceF (cells := [.slice (some ⟨b26, 0, none⟩) 4 4, .slice (some ⟨b27, 0, none⟩) 4 4]) rfl rfl rfl ?_
  intro b28 w28 hb28 hs28 hS28 hk28
  refine jz ?_
  obtain ⟨ts, hts⟩ : ∃ ts : List Rw, ts = [(some ⟨b26, 0, none⟩, 4, [0, 0, 1, 0]), (some ⟨b27, 0, none⟩, 4, [1, 0, 0, 0])] := ⟨_, rfl⟩
  have it : RowI w28 (.slice (some ⟨b28, 0, none⟩) ts.length 2) false 1 (ts.map encW) := ⟨by subst hts; exact hk28.row (fun x hx => by simp at hx; rcases hx with rfl | rfl <;> rfl) (by simp)⟩
  have k1 : Bk w28 b26 [.int .i64 0, .int .i64 0, .int .i64 1, .int .i64 0] 3 := inferInstance
  have k2 : Bk w28 b27 [.int .i64 1, .int .i64 0, .int .i64 0, .int .i64 0] 3 := inferInstance
  have its : RowsI w28 ts := ⟨by
    subst hts
    intro x hx
    simp only [List.mem_cons, List.not_mem_nil, or_false] at hx
    rcases hx with rfl | rfl
    · exact k1.row (fun x hx => by simp at hx; rcases hx with rfl | rfl | rfl | rfl <;> rfl) (by simp)
    · exact k2.row (fun x hx => by simp at hx; rcases hx with rfl | rfl | rfl | rfl <;> rfl) (by simp)⟩
  have ets : ts.length = 2 := by rw [hts]; rfl
  have iP27 : RowI w28 (.slice a6 rs.length c6) false 1 (rs.map encW) := inferInstance
  have iI27 : RowsI w28 rs := inferInstance
  (apply AnyF.one 24; (decide +kernel); exact rfl; (exact inferInstance))
  refine jT rfl rfl rfl ?_
  refine jjQ (SameLists_yes a6 c6 rs _ (some ⟨b28, 0, none⟩) 2 ts (by rw [hrs, hts]; rfl) (by omega)) rfl (by rw [ets]; rfl) ?_
  rintro _ w29 hS29 rfl
  refine jz ?_
  refine AnyF.take [25, 26, 27, 28, 29, 30, 31] (by decide +kernel) inferInstance ?_
  (((apply jjT; exact rfl; rintro w' hq; have := hq.toStep; apply jK rfl; exact eB rfl; refine jz ?_; exact ⟨rfl, rfl⟩; apply jjT; exact rfl; rintro w' hq; have := hq.toStep; apply jI; exact eB rfl; refine jz ?_; exact ⟨rfl, rfl⟩; apply jjT; exact rfl; rintro w' hq; have := hq.toStep; refine jT rfl rfl rfl ?_; apply jI; exact eI rfl; refine jz ?_; exact ⟨rfl, rfl⟩; apply jjT; exact rfl; rintro w' hq; have := hq.toStep; refine jT rfl rfl rfl ?_; refine jjh rfl rfl (by omega) ?_; refine jz ?_; exact ⟨rfl, rfl⟩; apply jjT; exact rfl; rintro w' hq; have := hq.toStep; apply jK rfl; exact eB rfl; refine jz ?_; exact ⟨rfl, rfl⟩; apply jjT; exact rfl; rintro w' hq; have := hq.toStep; apply jI; exact eB rfl; refine jz ?_; exact ⟨rfl, rfl⟩; apply jjT; exact rfl; rintro w' hq; have := hq.toStep; refine jT rfl rfl rfl ?_; apply jI; exact eS rfl; refine jz ?_; exact ⟨rfl, rfl⟩; refine jjU ?_)))
  (apply AnyF.one 32; (decide +kernel); exact rfl; (exact inferInstance))
  refine jT rfl rfl rfl ?_
  refine Ops.buildSliceF (cells := [.int .i64 1, .int .i64 3, .int .i64 2, .int .i64 0]) rfl rfl rfl ?_
  intro b30 w30 hb30 hs30 hS30 hk30
  refine jz ?_
  (apply AnyF.one 33; (decide +kernel); exact rfl; (exact inferInstance))
  refine jT rfl rfl rfl ?_
  refine jjQ (same_ex _ a8 c8 b30 4 [1, 3, 2, 0] rfl (by decide) (hR8.ext inferInstance) hk30) rfl rfl ?_
  rintro _ w31 hS31 rfl
  refine jz ?_
  refine AnyF.take [34, 35, 36, 37, 38, 39, 40] (by decide +kernel) inferInstance ?_
  (((apply jjT; exact rfl; rintro w' hq; have := hq.toStep; apply jK rfl; exact eB rfl; refine jz ?_; exact ⟨rfl, rfl⟩; apply jjT; exact rfl; rintro w' hq; have := hq.toStep; apply jI; exact eB rfl; refine jz ?_; exact ⟨rfl, rfl⟩; apply jjT; exact rfl; rintro w' hq; have := hq.toStep; refine jT rfl rfl rfl ?_; apply jI; exact eI rfl; refine jz ?_; exact ⟨rfl, rfl⟩; apply jjT; exact rfl; rintro w' hq; have := hq.toStep; refine jT rfl rfl rfl ?_; refine jjh rfl rfl (by omega) ?_; refine jz ?_; exact ⟨rfl, rfl⟩; apply jjT; exact rfl; rintro w' hq; have := hq.toStep; apply jK rfl; exact eB rfl; refine jz ?_; exact ⟨rfl, rfl⟩; apply jjT; exact rfl; rintro w' hq; have := hq.toStep; apply jI; exact eB rfl; refine jz ?_; exact ⟨rfl, rfl⟩; apply jjT; exact rfl; rintro w' hq; have := hq.toStep; refine jT rfl rfl rfl ?_; apply jI; exact eS rfl; refine jz ?_; exact ⟨rfl, rfl⟩; refine jjU ?_)))
  refine AnyF.take [41] (by decide +kernel) inferInstance (jjT (v := encII (3, 2)) rfl (fun w' q1 => ?_) (jjU ?_)); (refine jT rfl rfl rfl ?_; (refine jjS (cells := [.int .i64 3, .int .i64 2]) ?_ ?_; exact rfl); refine jz ?_; exact ⟨rfl, rfl⟩)
  refine AnyF.take [42] (by decide +kernel) inferInstance (jjT (v := encII (2, 0)) rfl (fun w' q1 => ?_) (jjU ?_)); (refine jT rfl rfl rfl ?_; (refine jjS (cells := [.int .i64 2, .int .i64 0]) ?_ ?_; exact rfl); refine jz ?_; exact ⟨rfl, rfl⟩)
  (apply AnyF.one 43; (decide +kernel); exact rfl; (exact inferInstance))
  refine jT rfl rfl rfl ?_
  refine Ops.buildSliceF (cells := [.int .i64 3, .int .i64 2, .int .i64 2, .int .i64 0]) rfl rfl rfl ?_
  intro b32 w32 hb32 hs32 hS32 hk32
  refine jz ?_
  have i32' : RowI w32 (.slice (some ⟨b32, 0, none⟩) ([(3, 2), (2, 0)] : List (Int × Int)).length 2) true 2 (([(3, 2), (2, 0)] : List (Int × Int)).map encII) := ⟨Bk.rows (xs := ([(3, 2), (2, 0)] : List (Int × Int)).map encII) hk32 (by simp [fitsV, encII]) (by simp)⟩
  (apply AnyF.one 44; (decide +kernel); exact rfl; (exact inferInstance))
  refine jT rfl rfl rfl ?_
  refine jjQ (SamePairs_yes a10 (some ⟨b32, 0, none⟩) c10 2 [(3, 2), (2, 0)] _ (by decide)) rfl rfl ?_
  rintro _ w33 hS33 rfl
  refine jz ?_
  refine AnyF.take [45, 46, 47, 48, 49, 50, 51] (by decide +kernel) inferInstance ?_
  (((apply jjT; exact rfl; rintro w' hq; have := hq.toStep; apply jK rfl; exact eB rfl; refine jz ?_; exact ⟨rfl, rfl⟩; apply jjT; exact rfl; rintro w' hq; have := hq.toStep; apply jI; exact eB rfl; refine jz ?_; exact ⟨rfl, rfl⟩; apply jjT; exact rfl; rintro w' hq; have := hq.toStep; refine jT rfl rfl rfl ?_; apply jI; exact eI rfl; refine jz ?_; exact ⟨rfl, rfl⟩; apply jjT; exact rfl; rintro w' hq; have := hq.toStep; refine jT rfl rfl rfl ?_; refine jjh rfl rfl (by omega) ?_; refine jz ?_; exact ⟨rfl, rfl⟩; apply jjT; exact rfl; rintro w' hq; have := hq.toStep; apply jK rfl; exact eB rfl; refine jz ?_; exact ⟨rfl, rfl⟩; apply jjT; exact rfl; rintro w' hq; have := hq.toStep; apply jI; exact eB rfl; refine jz ?_; exact ⟨rfl, rfl⟩; apply jjT; exact rfl; rintro w' hq; have := hq.toStep; refine jT rfl rfl rfl ?_; apply jI; exact eS rfl; refine jz ?_; exact ⟨rfl, rfl⟩; refine jjU ?_)))
  (apply AnyF.one 52; (decide +kernel); exact rfl; (exact inferInstance))
  refine jT rfl rfl rfl ?_
  refine Ops.buildSliceF (cells := [.int .i64 1, .int .i64 2]) rfl rfl rfl ?_
  intro b34 w34 hb34 hs34 hS34 hk34
  refine jz ?_
  (apply AnyF.one 53; (decide +kernel); exact rfl; (exact inferInstance))
  refine jT rfl rfl rfl ?_
  refine jjQ (same_ex _ a12 c12 b34 2 [1, 2] rfl (by decide) (hR12.ext inferInstance) hk34) rfl rfl ?_
  rintro _ w35 hS35 rfl
  refine jz ?_
  refine AnyF.take [54, 55, 56, 57, 58, 59, 60] (by decide +kernel) inferInstance ?_
  (((apply jjT; exact rfl; rintro w' hq; have := hq.toStep; apply jK rfl; exact eB rfl; refine jz ?_; exact ⟨rfl, rfl⟩; apply jjT; exact rfl; rintro w' hq; have := hq.toStep; apply jI; exact eB rfl; refine jz ?_; exact ⟨rfl, rfl⟩; apply jjT; exact rfl; rintro w' hq; have := hq.toStep; refine jT rfl rfl rfl ?_; apply jI; exact eI rfl; refine jz ?_; exact ⟨rfl, rfl⟩; apply jjT; exact rfl; rintro w' hq; have := hq.toStep; refine jT rfl rfl rfl ?_; refine jjh rfl rfl (by omega) ?_; refine jz ?_; exact ⟨rfl, rfl⟩; apply jjT; exact rfl; rintro w' hq; have := hq.toStep; apply jK rfl; exact eB rfl; refine jz ?_; exact ⟨rfl, rfl⟩; apply jjT; exact rfl; rintro w' hq; have := hq.toStep; apply jI; exact eB rfl; refine jz ?_; exact ⟨rfl, rfl⟩; apply jjT; exact rfl; rintro w' hq; have := hq.toStep; refine jT rfl rfl rfl ?_; apply jI; exact eS rfl; refine jz ?_; exact ⟨rfl, rfl⟩; refine jjU ?_)))
  (apply AnyF.one 61; (decide +kernel); exact rfl; (exact inferInstance))
  refine jT rfl rfl rfl ?_
  refine Ops.buildSliceF (cells := [.int .i64 0, .int .i64 0, .int .i64 1, .int .i64 1]) rfl rfl rfl ?_
  intro b36 w36 hb36 hs36 hS36 hk36
  refine jz ?_
  (apply AnyF.one 62; (decide +kernel); exact rfl; (exact inferInstance))
  refine jT rfl rfl rfl ?_
  refine jjQ (same_ex _ a14 c14 b36 4 [0, 0, 1, 1] rfl (by decide) (hR14.ext inferInstance) hk36) rfl rfl ?_
  rintro _ w37 hS37 rfl
  refine jz ?_
  refine AnyF.take [63, 64, 65, 66, 67, 68, 69] (by decide +kernel) inferInstance ?_
  (((apply jjT; exact rfl; rintro w' hq; have := hq.toStep; apply jK rfl; exact eB rfl; refine jz ?_; exact ⟨rfl, rfl⟩; apply jjT; exact rfl; rintro w' hq; have := hq.toStep; apply jI; exact eB rfl; refine jz ?_; exact ⟨rfl, rfl⟩; apply jjT; exact rfl; rintro w' hq; have := hq.toStep; refine jT rfl rfl rfl ?_; apply jI; exact eI rfl; refine jz ?_; exact ⟨rfl, rfl⟩; apply jjT; exact rfl; rintro w' hq; have := hq.toStep; refine jT rfl rfl rfl ?_; refine jjh rfl rfl (by omega) ?_; refine jz ?_; exact ⟨rfl, rfl⟩; apply jjT; exact rfl; rintro w' hq; have := hq.toStep; apply jK rfl; exact eB rfl; refine jz ?_; exact ⟨rfl, rfl⟩; apply jjT; exact rfl; rintro w' hq; have := hq.toStep; apply jI; exact eB rfl; refine jz ?_; exact ⟨rfl, rfl⟩; apply jjT; exact rfl; rintro w' hq; have := hq.toStep; refine jT rfl rfl rfl ?_; apply jI; exact eS rfl; refine jz ?_; exact ⟨rfl, rfl⟩; refine jjU ?_)))
  refine AnyF.take [70] (by decide +kernel) inferInstance (jjT (v := encII (0, 3)) rfl (fun w' q1 => ?_) (jjU ?_)); (refine jT rfl rfl rfl ?_; (refine jjS (cells := [.int .i64 0, .int .i64 3]) ?_ ?_; exact rfl); refine jz ?_; exact ⟨rfl, rfl⟩)
  refine AnyF.take [71] (by decide +kernel) inferInstance (jjT (v := encII (2, 1)) rfl (fun w' q1 => ?_) (jjU ?_)); (refine jT rfl rfl rfl ?_; (refine jjS (cells := [.int .i64 2, .int .i64 1]) ?_ ?_; exact rfl); refine jz ?_; exact ⟨rfl, rfl⟩)
  (apply AnyF.one 72; (decide +kernel); exact rfl; (exact inferInstance))
  refine jT rfl rfl rfl ?_
  refine Ops.buildSliceF (cells := [.int .i64 0, .int .i64 3, .int .i64 2, .int .i64 1]) rfl rfl rfl ?_
  intro b38 w38 hb38 hs38 hS38 hk38
  refine jz ?_
  have i38' : RowI w38 (.slice (some ⟨b38, 0, none⟩) ([(0, 3), (2, 1)] : List (Int × Int)).length 2) true 2 (([(0, 3), (2, 1)] : List (Int × Int)).map encII) := ⟨Bk.rows (xs := ([(0, 3), (2, 1)] : List (Int × Int)).map encII) hk38 (by simp [fitsV, encII]) (by simp)⟩
  (apply AnyF.one 73; (decide +kernel); exact rfl; (exact inferInstance))
  refine jT rfl rfl rfl ?_
  refine jjQ (SameMoves_yes a16 (some ⟨b38, 0, none⟩) c16 2 [(0, 3), (2, 1)] _ (by decide)) rfl rfl ?_
  rintro _ w39 hS39 rfl
  refine jz ?_
  refine AnyF.take [74, 75, 76, 77, 78, 79, 80] (by decide +kernel) inferInstance ?_
  (((apply jjT; exact rfl; rintro w' hq; have := hq.toStep; apply jK rfl; exact eB rfl; refine jz ?_; exact ⟨rfl, rfl⟩; apply jjT; exact rfl; rintro w' hq; have := hq.toStep; apply jI; exact eB rfl; refine jz ?_; exact ⟨rfl, rfl⟩; apply jjT; exact rfl; rintro w' hq; have := hq.toStep; refine jT rfl rfl rfl ?_; apply jI; exact eI rfl; refine jz ?_; exact ⟨rfl, rfl⟩; apply jjT; exact rfl; rintro w' hq; have := hq.toStep; refine jT rfl rfl rfl ?_; refine jjh rfl rfl (by omega) ?_; refine jz ?_; exact ⟨rfl, rfl⟩; apply jjT; exact rfl; rintro w' hq; have := hq.toStep; apply jK rfl; exact eB rfl; refine jz ?_; exact ⟨rfl, rfl⟩; apply jjT; exact rfl; rintro w' hq; have := hq.toStep; apply jI; exact eB rfl; refine jz ?_; exact ⟨rfl, rfl⟩; apply jjT; exact rfl; rintro w' hq; have := hq.toStep; refine jT rfl rfl rfl ?_; apply jI; exact eS rfl; refine jz ?_; exact ⟨rfl, rfl⟩; refine jjU ?_)))
  (apply AnyF.one 81; (decide +kernel); exact rfl; (exact inferInstance))
  refine jT rfl rfl rfl ?_
  refine Ops.buildSliceF (cells := [.int .i64 1, .int .i64 3, .int .i64 2, .int .i64 0]) rfl rfl rfl ?_
  intro b40 w40 hb40 hs40 hS40 hk40
  refine jz ?_
  (apply AnyF.one 82; (decide +kernel); exact rfl; (exact inferInstance))
  refine jT rfl rfl rfl ?_
  refine jjQ (same_ex _ a18 c18 b40 4 [1, 3, 2, 0] rfl (by decide) (hR18.ext inferInstance) hk40) rfl rfl ?_
  rintro _ w41 hS41 rfl
  refine jz ?_
  refine AnyF.take [83, 84, 85, 86, 87, 88, 89] (by decide +kernel) inferInstance ?_
  (((apply jjT; exact rfl; rintro w' hq; have := hq.toStep; apply jK rfl; exact eB rfl; refine jz ?_; exact ⟨rfl, rfl⟩; apply jjT; exact rfl; rintro w' hq; have := hq.toStep; apply jI; exact eB rfl; refine jz ?_; exact ⟨rfl, rfl⟩; apply jjT; exact rfl; rintro w' hq; have := hq.toStep; refine jT rfl rfl rfl ?_; apply jI; exact eI rfl; refine jz ?_; exact ⟨rfl, rfl⟩; apply jjT; exact rfl; rintro w' hq; have := hq.toStep; refine jT rfl rfl rfl ?_; refine jjh rfl rfl (by omega) ?_; refine jz ?_; exact ⟨rfl, rfl⟩; apply jjT; exact rfl; rintro w' hq; have := hq.toStep; apply jK rfl; exact eB rfl; refine jz ?_; exact ⟨rfl, rfl⟩; apply jjT; exact rfl; rintro w' hq; have := hq.toStep; apply jI; exact eB rfl; refine jz ?_; exact ⟨rfl, rfl⟩; apply jjT; exact rfl; rintro w' hq; have := hq.toStep; refine jT rfl rfl rfl ?_; apply jI; exact eS rfl; refine jz ?_; exact ⟨rfl, rfl⟩; refine jjU ?_)))
  (apply AnyF.one 90; (decide +kernel); exact rfl; (exact inferInstance))
  refine jT rfl rfl rfl ?_
  refine Ops.buildSliceF (cells := [.int .i64 2, .int .i64 1, .int .i64 2, .int .i64 0]) rfl rfl rfl ?_
  intro b42 w42 hb42 hs42 hS42 hk42
  refine jz ?_
  (apply AnyF.one 91; (decide +kernel); exact rfl; (exact inferInstance))
  refine jT rfl rfl rfl ?_
  refine jjQ (same_ex _ a20 c20 b42 4 [2, 1, 2, 0] rfl (by decide) (hR20.ext inferInstance) hk42) rfl rfl ?_
  rintro _ w43 hS43 rfl
  refine jz ?_
  refine AnyF.take [92, 93, 94, 95, 96, 97, 98, 99, 100, 101, 102, 103, 104, 105, 106, 107] (by decide +kernel) inferInstance ?_
  (((apply jjT; exact rfl; rintro w' hq; have := hq.toStep; apply jK rfl; exact eB rfl; refine jz ?_; exact ⟨rfl, rfl⟩; apply jjT; exact rfl; rintro w' hq; have := hq.toStep; apply jI; exact eB rfl; refine jz ?_; exact ⟨rfl, rfl⟩; apply jjT; exact rfl; rintro w' hq; have := hq.toStep; refine jT rfl rfl rfl ?_; apply jI; exact eI rfl; refine jz ?_; exact ⟨rfl, rfl⟩; apply jjT; exact rfl; rintro w' hq; have := hq.toStep; refine jT rfl rfl rfl ?_; refine jjh rfl rfl (by omega) ?_; refine jz ?_; exact ⟨rfl, rfl⟩; apply jjT; exact rfl; rintro w' hq; have := hq.toStep; apply jK rfl; exact eB rfl; refine jz ?_; exact ⟨rfl, rfl⟩; apply jjT; exact rfl; rintro w' hq; have := hq.toStep; apply jI; exact eB rfl; refine jz ?_; exact ⟨rfl, rfl⟩; apply jjT; exact rfl; rintro w' hq; have := hq.toStep; refine jT rfl rfl rfl ?_; apply jI; exact eI rfl; refine jz ?_; exact ⟨rfl, rfl⟩; apply jjT; exact rfl; rintro w' hq; have := hq.toStep; refine jT rfl rfl rfl ?_; refine jjh rfl rfl (by omega) ?_; refine jz ?_; exact ⟨rfl, rfl⟩; apply jjT; exact rfl; rintro w' hq; have := hq.toStep; apply jK rfl; exact eB rfl; refine jz ?_; exact ⟨rfl, rfl⟩; apply jjT; exact rfl; rintro w' hq; have := hq.toStep; apply jI; exact eB rfl; refine jz ?_; exact ⟨rfl, rfl⟩; apply jjT; exact rfl; rintro w' hq; have := hq.toStep; refine jT rfl rfl rfl ?_; apply jI; exact eS rfl; refine jz ?_; exact ⟨rfl, rfl⟩; apply jjT; exact rfl; rintro w' hq; have := hq.toStep; refine jT rfl rfl rfl ?_; refine jh rfl ?_; refine jz ?_; exact ⟨rfl, rfl⟩; apply jjT; exact rfl; rintro w' hq; have := hq.toStep; refine jT rfl rfl rfl ?_; refine jjh rfl rfl (by omega) ?_; refine jz ?_; exact ⟨rfl, rfl⟩; apply jjT; exact rfl; rintro w' hq; have := hq.toStep; apply jK rfl; exact eB rfl; refine jz ?_; exact ⟨rfl, rfl⟩; apply jjT; exact rfl; rintro w' hq; have := hq.toStep; apply jI; exact eB rfl; refine jz ?_; exact ⟨rfl, rfl⟩; apply jjT; exact rfl; rintro w' hq; have := hq.toStep; refine jT rfl rfl rfl ?_; apply jI; exact eS rfl; refine jz ?_; exact ⟨rfl, rfl⟩; refine jjU ?_)))
  refine AnyF.take [108] (by decide +kernel) inferInstance (jjT (v := .pointer (some ⟨pb, po + 0 * 6, none⟩)) rfl (fun w' q1 => ?_) (jjU ?_)); (refine jT rfl rfl rfl ?_; refine jH 0 rfl rfl rfl (by omega) ?_; refine jz ?_; exact ⟨rfl, rfl⟩)
  refine AnyF.take [109] (by decide +kernel) inferInstance (jjT (v := .pointer (some ⟨pb, po + 0 * 6 + 3, none⟩)) rfl (fun w' q1 => ?_) (jjU ?_)); (refine jT rfl rfl rfl ?_; refine jn rfl ?_; refine jz ?_; exact ⟨rfl, rfl⟩)
  refine AnyF.take [110] (by decide +kernel) inferInstance (jjT (v := .string xAnd) rfl (fun w' q1 => ?_) (jjU ?_)); (refine jT rfl rfl rfl ?_; refine jR ((P0.ext q1).get (i := 3) rfl) rfl rfl ?_; refine jz ?_; exact ⟨rfl, rfl⟩)
  refine AnyF.take [111] (by decide +kernel) inferInstance (jjT (v := .bool true) rfl (fun w' q1 => ?_) (jjU ?_)); (refine jT rfl rfl rfl ?_; refine Ops.eqlS rfl rfl ?_; rw [decide_eq_true rfl]; refine jz ?_; exact ⟨rfl, rfl⟩)
  refine AnyF.take [112, 113, 114] (by decide +kernel) inferInstance ?_
  (((apply jjT; exact rfl; rintro w' hq; have := hq.toStep; apply jK rfl; exact eB rfl; refine jz ?_; exact ⟨rfl, rfl⟩; apply jjT; exact rfl; rintro w' hq; have := hq.toStep; apply jI; exact eB rfl; refine jz ?_; exact ⟨rfl, rfl⟩; apply jjT; exact rfl; rintro w' hq; have := hq.toStep; refine jT rfl rfl rfl ?_; apply jI; exact eS rfl; refine jz ?_; exact ⟨rfl, rfl⟩; refine jjU ?_)))
  refine AnyF.take [115] (by decide +kernel) inferInstance (jjT (v := .pointer (some ⟨pb, po + 1 * 6, none⟩)) rfl (fun w' q1 => ?_) (jjU ?_)); (refine jT rfl rfl rfl ?_; refine jH 1 rfl rfl rfl (by omega) ?_; refine jz ?_; exact ⟨rfl, rfl⟩)
  refine AnyF.take [116] (by decide +kernel) inferInstance (jjT (v := .pointer (some ⟨pb, po + 1 * 6 + 3, none⟩)) rfl (fun w' q1 => ?_) (jjU ?_)); (refine jT rfl rfl rfl ?_; refine jn rfl ?_; refine jz ?_; exact ⟨rfl, rfl⟩)
  refine AnyF.take [117] (by decide +kernel) inferInstance (jjT (v := .string xOld) rfl (fun w' q1 => ?_) (jjU ?_)); (refine jT rfl rfl rfl ?_; refine jR ((P1.ext q1).get (i := 3) rfl) rfl rfl ?_; refine jz ?_; exact ⟨rfl, rfl⟩)
  refine AnyF.take [118] (by decide +kernel) inferInstance (jjT (v := .bool true) rfl (fun w' q1 => ?_) (jjU ?_)); (refine jT rfl rfl rfl ?_; refine Ops.eqlS rfl rfl ?_; rw [decide_eq_true rfl]; refine jz ?_; exact ⟨rfl, rfl⟩)
  refine AnyF.take [119, 120, 121] (by decide +kernel) inferInstance ?_
  (((apply jjT; exact rfl; rintro w' hq; have := hq.toStep; apply jK rfl; exact eB rfl; refine jz ?_; exact ⟨rfl, rfl⟩; apply jjT; exact rfl; rintro w' hq; have := hq.toStep; apply jI; exact eB rfl; refine jz ?_; exact ⟨rfl, rfl⟩; apply jjT; exact rfl; rintro w' hq; have := hq.toStep; refine jT rfl rfl rfl ?_; apply jI; exact eS rfl; refine jz ?_; exact ⟨rfl, rfl⟩; refine jjU ?_)))
  refine AnyF.take [122] (by decide +kernel) inferInstance (jjT (v := .pointer (some ⟨pb, po + 2 * 6, none⟩)) rfl (fun w' q1 => ?_) (jjU ?_)); (refine jT rfl rfl rfl ?_; refine jH 2 rfl rfl rfl (by omega) ?_; refine jz ?_; exact ⟨rfl, rfl⟩)
  refine AnyF.take [123] (by decide +kernel) inferInstance (jjT (v := encSl exS[0]) rfl (fun w' q1 => ?_) (jjU ?_)); (refine jT rfl rfl rfl ?_; refine Ops.loadOA (off := 0) (P2.ext q1) rfl rfl rfl rfl ?_; refine jz ?_; exact ⟨rfl, rfl⟩)
  (apply AnyF.one 124; (decide +kernel); exact rfl; (exact inferInstance))
  refine jT rfl rfl rfl ?_
  refine jjQ (slips_law6 _) rfl rfl ?_
  rintro _ w44 hS44 ⟨e2, rfl, hQ2⟩
  refine jz ?_
  have Q2 : At w44 e2 (0 + 0 * 6) (encSl exS[0]).cells.toList := place_k hQ2 (j := 0) rfl
  (apply AnyF.one 125; (decide +kernel); exact rfl; (exact inferInstance))
  refine jT rfl rfl rfl ?_
  refine jH 0 rfl rfl rfl (by omega) ?_
  refine jz ?_
  (apply AnyF.one 126; (decide +kernel); exact rfl; (exact inferInstance))
  refine jT rfl rfl rfl ?_
  refine Ops.loadOA (off := 0) Q2 rfl rfl rfl rfl ?_
  refine jz ?_
  (apply AnyF.one 127; (decide +kernel); exact rfl; (exact inferInstance))
  refine jT rfl rfl rfl ?_
  refine Ops.eqlT (enc := encSl) exS[0] exS[0] rfl rfl ?_
  rw [decide_eq_true rfl]
  refine jz ?_
  refine AnyF.take [128, 129, 130] (by decide +kernel) inferInstance ?_
  (((apply jjT; exact rfl; rintro w' hq; have := hq.toStep; apply jK rfl; exact eB rfl; refine jz ?_; exact ⟨rfl, rfl⟩; apply jjT; exact rfl; rintro w' hq; have := hq.toStep; apply jI; exact eB rfl; refine jz ?_; exact ⟨rfl, rfl⟩; apply jjT; exact rfl; rintro w' hq; have := hq.toStep; refine jT rfl rfl rfl ?_; apply jI; exact eS rfl; refine jz ?_; exact ⟨rfl, rfl⟩; refine jjU ?_)))
  refine AnyF.take [131] (by decide +kernel) inferInstance (jjT (v := .pointer (some ⟨pb, po + 3 * 6, none⟩)) rfl (fun w' q1 => ?_) (jjU ?_)); (refine jT rfl rfl rfl ?_; refine jH 3 rfl rfl rfl (by omega) ?_; refine jz ?_; exact ⟨rfl, rfl⟩)
  refine AnyF.take [132] (by decide +kernel) inferInstance (jjT (v := encSl exS[2]) rfl (fun w' q1 => ?_) (jjU ?_)); (refine jT rfl rfl rfl ?_; refine Ops.loadOA (off := 0) (P3.ext q1) rfl rfl rfl rfl ?_; refine jz ?_; exact ⟨rfl, rfl⟩)
  (apply AnyF.one 133; (decide +kernel); exact rfl; (exact inferInstance))
  refine jT rfl rfl rfl ?_
  refine jjQ (slips_law6 _) rfl rfl ?_
  rintro _ w45 hS45 ⟨e3, rfl, hQ3⟩
  refine jz ?_
  have Q3 : At w45 e3 (0 + 2 * 6) (encSl exS[2]).cells.toList := place_k hQ3 (j := 2) rfl
  (apply AnyF.one 134; (decide +kernel); exact rfl; (exact inferInstance))
  refine jT rfl rfl rfl ?_
  refine jH 2 rfl rfl rfl (by omega) ?_
  refine jz ?_
  (apply AnyF.one 135; (decide +kernel); exact rfl; (exact inferInstance))
  refine jT rfl rfl rfl ?_
  refine Ops.loadOA (off := 0) Q3 rfl rfl rfl rfl ?_
  refine jz ?_
  (apply AnyF.one 136; (decide +kernel); exact rfl; (exact inferInstance))
  refine jT rfl rfl rfl ?_
  refine Ops.eqlT (enc := encSl) exS[2] exS[2] rfl rfl ?_
  rw [decide_eq_true rfl]
  refine jz ?_
  refine AnyF.take [137, 138] (by decide +kernel) inferInstance ?_
  (((apply jjT; exact rfl; rintro w' hq; have := hq.toStep; apply jK rfl; exact eB rfl; refine jz ?_; exact ⟨rfl, rfl⟩; apply jjT; exact rfl; rintro w' hq; have := hq.toStep; apply jJ; exact eB rfl; refine jz ?_; exact ⟨rfl, rfl⟩; refine jjU ?_)))
  refine AnyF.done (by decide +kernel) inferInstance ?_
  (refine jjF ?_; refine jB rfl rfl ⟨inferInstance, ?_⟩)
  exact rfl
end
end Go.Proofs.YtpijeomnplmakaaGreatDoor

/- The tape is never given back: what runs has asked it no less behind than ahead. -/
namespace Go.Proofs.YtpijeomnplmakaaGreatDoor
open Go Go.RowKit

def Rw' {α : Type} : Result α → World
  | .ok _ w => w
  | .halt _ w => w
theorem ask_drawn {α : Type} (m : Ask α) : ∀ (w : World), w.drawn ≤ (w.ask m).2.drawn := by
  induction m with
  | done a => intro w; exact Nat.le_refl _
  | ask what range k ih =>
    intro w
    simp only [World.ask]
    split
    · exact ih _ w
    · exact Nat.le_trans (Nat.le_succ _) (ih ((Question.extern what range).cut (w.tape w.drawn (Question.extern what range))) { w with drawn := w.drawn + 1 })
theorem sys_drawn (w : World) (c : Sys) : w.drawn ≤ (w.sys c).2.drawn := by
  unfold World.sys
  have := ask_drawn (Kernel.perform c w.os) w
  split
  · exact Nat.le_refl _
  · rename_i h; rw [h] at this; exact this
theorem view_drawn {P : Program} {w w' : World} {x : Addr} {y : TypeId} {a : Addr} {v : Value} {t : Bool} {l : List Addr} (h : World.viewStore P w x y a v t = .ok (w', l)) : w'.drawn = w.drawn := by
  unfold World.viewStore at h
  simp only [bind, Except.bind, pure, Except.pure] at h
  (repeat' split at h) <;> simp_all
  obtain ⟨h1, _⟩ := h
  rw [← h1]
theorem far_drawn {P : Program} {w w' : World} {a : Addr} {v : Value} {t : Bool} {l : List Addr} (h : w.farStore P a v t = .ok (w', l)) : w'.drawn = w.drawn := by
  unfold World.farStore at h
  (repeat' split at h) <;> simp_all
  rename_i h1
  exact view_drawn h1
theorem frz_drawn (w : World) (a : Addr) (n : Nat) : (w.freeze a n).drawn = w.drawn := by unfold World.freeze; (repeat' split) <;> rfl
theorem runT_drawn {α : Type} {P : Program} (m : Sem α) : ∀ (w : World) (es : Array Event), w.drawn ≤ (Rw' (m.runT P w es).1).drawn := by
  induction m with
  | pure a => intro w es; exact Nat.le_refl _
  | load m a k ih => intro w es; simp only [Sem.runT]; (repeat' split) <;> first | exact ih _ _ _ | exact Nat.le_refl _
  | store m a v k ih =>
    intro w es
    cases v <;> simp only [Sem.runT] <;> (repeat' split) <;> first
      | exact Nat.le_refl _
      | exact ih (w.setCell a _) _
      | (rename_i hf; have := far_drawn hf; rw [← this]; exact ih _ _)
  | new o k ih => intro w es; exact ih w.heap.size { w with heap := w.heap.push o } es
  | shape r k ih => intro w es; exact ih _ _ _
  | freeze a n k ih => intro w es; have := ih (w.freeze a n) es; rw [frz_drawn] at this; exact this
  | frozen a k ih => intro w es; exact ih _ _ _
  | getObj r k ih => intro w es; simp only [Sem.runT]; (repeat' split) <;> first | exact ih _ _ _ | exact Nat.le_refl _
  | setObj r o k ih => intro w es; simp only [Sem.runT]; (repeat' split) <;> first | exact ih { w with heap := w.heap.setIfInBounds r o } _ | exact Nat.le_refl _
  | choose q k ih =>
    intro w es
    simp only [Sem.runT]
    split
    · exact ih _ _ _
    · exact Nat.le_trans (Nat.le_succ _) (ih (q.cut (w.tape w.drawn q)) { w with drawn := w.drawn + 1 } es)
  | sys c k ih => intro w es; exact Nat.le_trans (sys_drawn w c) (ih _ _ _)
  | program k ih => intro w es; exact ih _ _ _
  | mark m k ih => intro w es; exact ih _ _
  | halt h => intro w es; exact Nat.le_refl _
theorem run_drawn {α : Type} {P : Program} (m : Sem α) : ∀ (w : World), w.drawn ≤ (Rw' (m.run P w)).drawn := by
  induction m with
  | pure a => intro w; exact Nat.le_refl _
  | load m a k ih => intro w; simp only [Sem.run]; (repeat' split) <;> first | exact ih _ _ | exact Nat.le_refl _
  | store m a v k ih =>
    intro w
    cases v <;> simp only [Sem.run] <;> (repeat' split) <;> first
      | exact Nat.le_refl _
      | exact ih (w.setCell a _)
      | (rename_i hf; have := far_drawn hf; rw [← this]; exact ih _)
  | new o k ih => intro w; exact ih w.heap.size { w with heap := w.heap.push o }
  | shape r k ih => intro w; exact ih _ _
  | freeze a n k ih => intro w; have := ih (w.freeze a n); rw [frz_drawn] at this; exact this
  | frozen a k ih => intro w; exact ih _ _
  | getObj r k ih => intro w; simp only [Sem.run]; (repeat' split) <;> first | exact ih _ _ | exact Nat.le_refl _
  | setObj r o k ih => intro w; simp only [Sem.run]; (repeat' split) <;> first | exact ih { w with heap := w.heap.setIfInBounds r o } | exact Nat.le_refl _
  | choose q k ih =>
    intro w
    simp only [Sem.run]
    split
    · exact ih _ _
    · exact Nat.le_trans (Nat.le_succ _) (ih (q.cut (w.tape w.drawn q)) { w with drawn := w.drawn + 1 })
  | sys c k ih => intro w; exact Nat.le_trans (sys_drawn w c) (ih _ _)
  | program k ih => intro w; exact ih _ _
  | mark m k ih => intro w; exact ih _
  | halt h => intro w; exact Nat.le_refl _

theorem run_ok {α : Type} {P : Program} {m : Sem α} {w w' : World} {v : α} (h : m.run P w = .ok v w') : w.drawn ≤ w'.drawn := by
  have := run_drawn (P := P) m w
  rwa [h] at this
theorem run_halt {α : Type} {P : Program} {m : Sem α} {w w' : World} {e : Halt} (h : m.run P w = .halt e w') : w.drawn ≤ w'.drawn := by
  have := run_drawn (P := P) m w
  rwa [h] at this
theorem runT_eq {α : Type} {P : Program} {m : Sem α} {w : World} {es es' : Array Event} {r : Result α} (h : m.runT P w es = (r, es')) : w.drawn ≤ (Rw' r).drawn := by
  have := runT_drawn (P := P) m w es
  rwa [h] at this
def GOk (n : Nat) : GStep → Prop
  | .go _ w _ | .comm _ _ _ _ w _ | .spawn _ _ w _ | .count _ w _ | .timer _ _ w _ | .alone _ _ w _ | .newcoro _ _ _ w _ | .coroswitch _ _ _ w _ | .collect _ w _ | .watch _ w _ => n ≤ w.drawn
  | .ended .. => True
theorem GOk.after {n : Nat} {es : Array Event} {s : GStep} (h : GOk n s) : GOk n (GStep.after es s) := by cases s <;> exact h
theorem GOk.le {n m : Nat} {s : GStep} (h : GOk n s) (hm : m ≤ n) : GOk m s := by cases s <;> first | exact Nat.le_trans hm h | trivial
theorem endWith_ok (w : World) (fd : Nat) (t : ByteArray) (o : Outcome) (n : Nat) : GOk n (endWith w fd t o) := by
  unfold endWith
  dsimp only
  (repeat' split) <;> trivial
theorem endThrow_ok (fr : Frame) (m : String) (w : World) : GOk w.drawn (endThrow fr m w) := Nat.le_refl _
theorem endPrinting_ok (p : Program) (fr : Frame) (v : Value) (w : World) : GOk w.drawn (endPrinting p fr v w) := by
  unfold endPrinting
  dsimp only
  split
  · exact Nat.le_refl _
  · trivial
theorem endFatal_ok (p : Program) (fr : Frame) (cs : List Frame) (dy : Option Dying) (m : String) (w : World) : GOk w.drawn (endFatal p fr cs dy m w) := by
  unfold endFatal
  dsimp only
  split
  · rename_i h
    exact run_ok h
  · trivial
  · trivial
theorem writeOn_ok (p : Program) (fr : Frame) (d : Dying) (f : Fatal) (w : World) : GOk w.drawn (writeOn p fr d f w) := by
  unfold writeOn
  dsimp only
  split
  · trivial
  · rename_i piece rest _
    split
    · rename_i h
      exact runT_eq h
    · rename_i h
      exact runT_eq h
    · trivial
    · trivial
theorem die_ok (p : Program) (fr : Frame) (d : Dying) (w : World) : GOk w.drawn (die p fr d w) := by
  unfold die
  dsimp only
  split
  · exact writeOn_ok _ _ _ _ _
  · split
    · split
      · exact Nat.le_refl _
      · exact endWith_ok _ _ _ _ _
    · split
      · exact Nat.le_refl _
      · split
        · rename_i h; exact run_ok h
        · trivial
      · rename_i t recv name _
        have hr := runT_drawn (P := p) (invoke (.fn (.method name) #[]) #[.iface t recv]) w #[]
        generalize (invoke (.fn (.method name) #[]) #[.iface t recv]).runT p w #[] = x at *
        obtain ⟨r, es⟩ := x
        refine GOk.after ?_
        dsimp only at hr ⊢
        split
        · exact hr
        · exact hr
        · trivial
        · exact GOk.le (endPrinting_ok _ _ _ _) hr
        · trivial
      · trivial
theorem doReturn_ok (p : Program) (main : Bool) (fr : Frame) (cs : List Frame) (dy : Option Dying) (v : Value) (w : World) : GOk w.drawn (doReturn p main fr cs dy v w) := by
  unfold doReturn
  (repeat' split) <;> first | exact Nat.le_refl _ | trivial
theorem callDeferred_ok (p : Program) (fr : Frame) (cs : List Frame) (dy : Option Dying) (d : Deferred) (w : World) : GOk w.drawn (callDeferred p fr cs dy d w) := by
  unfold callDeferred
  have hr := runT_drawn (P := p) (invoke d.target d.args) w #[]
  generalize (invoke d.target d.args).runT p w #[] = x at *
  obtain ⟨r, es⟩ := x
  dsimp only at hr ⊢
  generalize hc : ((match d.target with | .nil => true | _ => false) && (match fr.mode with | .panicking _ => true | _ => false)) = c
  cases c with
  | true => trivial
  | false =>
    refine GOk.after ?_
    (repeat' split) <;> first | exact hr | trivial | exact GOk.le (endFatal_ok _ _ _ _ _ _) hr | exact GOk.le (endThrow_ok _ _ _) hr
theorem unwind_ok (p : Program) (main : Bool) (fr : Frame) (cs : List Frame) (dy : Option Dying) (w : World) : GOk w.drawn (unwind p main fr cs dy w) := by
  unfold unwind
  split
  · rename_i block _ ds _
    have hr := runT_drawn (P := p) (Instr.takeDeferred block) w #[]
    generalize (Instr.takeDeferred block).runT p w #[] = x at *
    obtain ⟨r, es⟩ := x
    dsimp only at hr ⊢
    refine GOk.after ?_
    split <;> first | exact hr | trivial
  · exact callDeferred_ok _ _ _ _ _ _
  · split
    · trivial
    · split
      · trivial
      · split
        · exact Nat.le_refl _
        · split
          · split
            · exact Nat.le_refl _
            · split
              · rename_i h; exact run_ok h
              · trivial
              · trivial
          · split
            · exact endPrinting_ok _ _ _ _
            · trivial
    · split
      · exact doReturn_ok _ _ _ _ _ _ _
      · rename_i fn _
        have hr := runT_drawn (P := p) (results fn fr.tmps) w #[]
        generalize (results fn fr.tmps).runT p w #[] = x at *
        obtain ⟨r, es⟩ := x
        dsimp only at hr ⊢
        refine GOk.after ?_
        split
        · exact GOk.le (doReturn_ok _ _ _ _ _ _ _) hr
        · trivial
        · trivial
theorem early_ok (p : Program) (fr : Frame) (cs : List Frame) (dy : Option Dying) (g : Nat) (w : World) : GOk w.drawn (early p fr cs dy g w) := by
  unfold early
  dsimp only
  (repeat' split) <;> first | exact Nat.le_refl _ | trivial | (have h1 := ‹Sem.run p (choose _) w = Result.ok _ _›; have h2 := run_ok h1; exact h2)
theorem apply_ok (p : Program) (li : Bool) (fr : Frame) (cs : List Frame) (dy : Option Dying) (s : Sem Next) (w : World) : GOk w.drawn (stepG.apply p li fr cs dy s w) := by
  unfold stepG.apply
  dsimp only
  have hr : w.drawn ≤ (Rw' (if li then s.runT p w #[] else (s.run p w, #[])).1).drawn := by
    split
    · exact runT_drawn s w #[]
    · exact run_drawn s w
  generalize (if li then s.runT p w #[] else (s.run p w, #[])) = x at *
  obtain ⟨r, es⟩ := x
  dsimp only at hr ⊢
  refine GOk.after ?_
  (repeat' split) <;> first | exact hr | trivial | exact GOk.le (endFatal_ok _ _ _ _ _ _) hr | exact GOk.le (endThrow_ok _ _ _) hr | exact GOk.le (early_ok _ _ _ _ _ _) hr
theorem oper_ok (p : Program) (li : Bool) (fr : Frame) (cs : List Frame) (dy : Option Dying) (w : World) : GOk w.drawn (stepG.oper p li fr cs dy w) := by
  unfold stepG.oper
  (repeat' split) <;> first | trivial | exact apply_ok _ _ _ _ _ _ _
theorem exec_ok (p : Program) (main li : Bool) (fr : Frame) (cs : List Frame) (dy : Option Dying) (w : World) : GOk w.drawn (stepG.exec p main li fr cs dy w) := by
  have hl : ∀ jump : Option Code, GOk w.drawn (match fr.roundOf with
      | none => if (match jump with | none | some .ret => true | _ => false) then GStep.go { frame := { fr with mode := .returning }, callers := cs, status := .running, dying := dy } w else .ended (.stuck "exit, goto: no such block or label" (fr.pos p)) w
      | some l =>
        let (r, es) := (Instr.endRound l jump).runT p w #[]
        GStep.after (seen p fr.fn es) <| match r with
        | .ok v w => doReturn p main fr cs dy v w
        | .halt _ w => .ended (.stuck "range over a function: no such loop" (fr.pos p)) w) := fun jump => by
    split
    · (repeat' split) <;> first | exact Nat.le_refl _ | trivial
    · rename_i l _
      have hr := runT_drawn (P := p) (Instr.endRound l jump) w #[]
      generalize (Instr.endRound l jump).runT p w #[] = x at *
      obtain ⟨r, es⟩ := x
      dsimp only at hr ⊢
      refine GOk.after ?_
      split
      · exact GOk.le (doReturn_ok _ _ _ _ _ _ _) hr
      · trivial
  unfold stepG.exec
  dsimp only
  split
  · exact hl none
  · exact hl (some .ret)
  · exact Nat.le_refl _
  · exact Nat.le_refl _
  · exact Nat.le_refl _
  · exact Nat.le_refl _
  · exact Nat.le_refl _
  · split
    · exact Nat.le_refl _
    · trivial
  · exact Nat.le_refl _
  · exact Nat.le_refl _
  · exact Nat.le_refl _
  · exact Nat.le_refl _
  · rename_i id k _
    cases exitTo id k with
    | none => exact hl (some (.exit id))
    | some _ => exact Nat.le_refl _
  · rename_i l k _
    cases gotoIn l k with
    | none => exact hl (some (.goto l))
    | some _ => exact Nat.le_refl _
  · rename_i f params assign body k _
    have hr := runT_drawn (P := p) (Instr.enterLoop fr.fn fr.tmps params assign body fr.roundOf) w #[]
    generalize (Instr.enterLoop fr.fn fr.tmps params assign body fr.roundOf).runT p w #[] = x at *
    obtain ⟨r, es⟩ := x
    dsimp only at hr ⊢
    refine GOk.after ?_
    split
    · exact GOk.le (apply_ok _ _ _ _ _ _ _) hr
    · trivial
  · trivial
  · exact apply_ok _ _ _ _ _ _ _
  · rename_i l k _
    have hr := runT_drawn (P := p) (Instr.endLoop l) w #[]
    generalize (Instr.endLoop l).runT p w #[] = x at *
    obtain ⟨r, es⟩ := x
    dsimp only at hr ⊢
    refine GOk.after ?_
    split
    · exact hr
    · exact hr
    · trivial
  · trivial
  · exact apply_ok _ _ _ _ _ _ _
  · rename_i row args _ _
    cases Extern.next row with
    | none => trivial
    | some e => exact apply_ok _ _ _ _ _ _ _
  · split
    · exact Nat.le_refl _
    · split
      · rename_i h; exact run_ok h
      · trivial
  · exact Nat.le_refl _
  · split
    · exact oper_ok _ _ _ _ _ _
    · exact Nat.le_refl _
theorem stepG_ok (p : Program) (main : Bool) (g : Goroutine) (w : World) (li : Bool) : GOk w.drawn (stepG p main g w li) := by
  unfold stepG
  dsimp only
  split
  · exact die_ok _ _ _ _
  · exact exec_ok _ _ _ _ _ _ _
  · exact unwind_ok _ _ _ _ _ _

def SOk (n : Nat) : Stepped → Prop
  | .next m => n ≤ m.world.drawn
  | .ended .. => True
theorem SOk.le {n m : Nat} {s : Stepped} (h : SOk n s) (hm : m ≤ n) : SOk m s := by cases s <;> first | exact Nat.le_trans hm h | trivial
theorem wait_ok {rest : Rest} {cases : Array CommCase} {w w' : World} (h : waitingAt rest cases w = some w') : w'.drawn = w.drawn := by
  unfold waitingAt at h
  (repeat' split at h) <;> first | cases h | skip
  all_goals first | rfl | (cases h; rfl)
theorem communicate_ok (p : Program) (rest : Rest) (gs : Array Goroutine) (i : Nat) (g : Goroutine) (cases : Array CommCase) (bl : Bool) (sh : CommShape) (w : World) : SOk w.drawn (communicate p rest gs i g cases bl sh w).1 := by
  unfold communicate
  dsimp only
  split
  · trivial
  · split
    · split
      · split
        · rename_i h; exact Nat.le_of_eq (wait_ok h).symm
        · trivial
      · exact Nat.le_refl _
    · split
      · trivial
      · rename_i h
        have h1 := run_ok h
        clear h
        split
        · split
          · rename_i h; exact Nat.le_trans h1 (run_halt h)
          · trivial
        · exact h1
        · exact h1
        · split
          · exact h1
          · split
            · rename_i h; have h2 := run_ok h; exact Nat.le_trans h1 h2
            · trivial
        · exact h1
        · exact h1
        · trivial
theorem look_ok (p : Program) (gs : Array Goroutine) (rest : Rest) (w : World) : SOk w.drawn (look p gs rest w) := by
  unfold look
  dsimp only
  split
  · split
    · trivial
    · split
      · trivial
      · split
        · rename_i h; have h1 := run_ok h; exact h1
        · trivial
        · trivial
  · trivial
theorem drain_ok (w : World) (c : Nat) : (drain w c).2.drawn = w.drawn := by
  unfold drain
  split <;> rfl
theorem retime_ok (m : Machine) (k : Nat) (t : Timer) (a b : Nat) : (retime m k t a b).2.world.drawn = m.world.drawn := by
  unfold retime
  dsimp only
  cases t.chan with
  | none => rfl
  | some c => exact drain_ok _ _
theorem named_ok {m : Machine} {var : Addr} {f : Nat → Timer → Value × Machine} {v : Value} {m' : Machine} {n : Nat} (hf : ∀ k t, (f k t).2.world.drawn = n) (h : timerOp.named m var f = .ok (v, m')) : m'.world.drawn = n := by
  unfold timerOp.named at h
  split at h
  · rename_i k _
    have := hf k (m.rest.timers.getD k default)
    simp only [Except.ok.injEq] at h
    rw [h] at this
    exact this
  · cases h
theorem opened_ok {m m' : Machine} {var : Addr} (h : timerOp.opened m var = some m') : m'.world.drawn = m.world.drawn := by
  unfold timerOp.opened at h
  (repeat' split at h) <;> first | (cases h; rfl) | cases h
theorem timerOp_ok {m m' : Machine} {op : TimerOp} {v : Value} (h : timerOp m op = .ok (v, m')) : m'.world.drawn = m.world.drawn := by
  cases op with
  | new t =>
    simp only [timerOp] at h
    (repeat' split at h) <;> first | (cases h; rfl) | cases h
  | stop var =>
    simp only [timerOp] at h
    exact named_ok (fun k t => retime_ok m k t 0 t.period) h
  | reset var a b =>
    simp only [timerOp] at h
    split at h
    · rename_i m1 h1
      rw [← opened_ok h1]
      exact named_ok (fun k t => retime_ok m1 k t a b) h
    · cases h
  | deadline ctx a b c =>
    simp only [timerOp] at h
    cases h
    rfl
theorem serve_ok (p : Program) (m : Machine) (k : Nat) : SOk m.world.drawn (serve p m k) := by
  unfold serve
  split
  · trivial
  · exact Nat.le_refl _
  · dsimp only
    split
    · trivial
    · exact Nat.le_refl _
theorem runT_ok (p : Program) (m : Machine) (i : Nat) (li : Bool) : SOk m.world.drawn (runT p m i li).1 := by
  unfold runT
  dsimp only
  generalize m.gs.swapAt! i { (default : Goroutine) with status := .finished } = x
  obtain ⟨g, gs⟩ := x
  dsimp only
  have hg := stepG_ok p (i == 0) g m.world li
  generalize stepG p (i == 0) g m.world li = s at *
  cases s with
  | ended o w es => trivial
  | comm g cases bl sh w es => exact SOk.le (communicate_ok _ _ _ _ _ _ _ _ _) hg
  | go g w es => exact hg
  | spawn g c w es => exact hg
  | count g w es =>
    dsimp only
    split
    · trivial
    · exact hg
  | alone g on w es => exact hg
  | collect g w es => exact SOk.le (look_ok _ _ _ _) hg
  | watch g w es => exact hg
  | newcoro g c d w es => exact hg
  | coroswitch g c ex w es =>
    dsimp only
    split
    · exact hg
    · exact hg
    · trivial
  | timer g op w es =>
    dsimp only
    split
    · rename_i h
      have h1 := timerOp_ok h
      exact Nat.le_trans hg (Nat.le_of_eq h1.symm)
    · exact hg
    · trivial
    · trivial

def MOk (n : Nat) : Move → Prop
  | .goroutine m _ => n ≤ m.world.drawn
  | .machine s _ => SOk n s
theorem MOk.le {n m : Nat} {s : Move} (h : MOk n s) (hm : m ≤ n) : MOk m s := by
  cases s with
  | goroutine m' i => exact Nat.le_trans hm h
  | machine s ops => exact SOk.le h hm
theorem askOn_ok (p : Program) (m : Machine) : MOk m.world.drawn (askOn p m) := by
  have hp : ∀ m : Machine, MOk m.world.drawn (
      match (choose (.sched (runnable m.gs m.world.os.mono).length)).run p m.world with
      | .halt _ w => .machine (.ended (.stuck "sched" "") w)
      | .ok k world => .goroutine m 0) := fun m => by
    split
    · trivial
    · exact Nat.le_refl _
  unfold askOn
  dsimp only
  split
  · trivial
  · rename_i h
    have h1 := run_ok h
    clear h
    split
    · exact SOk.le (serve_ok p _ _) h1
    · split
      · split
        · exact h1
        · split
          · exact h1
          · split <;> trivial
      · split
        · split
          · trivial
          · rename_i h; have h2 := run_ok h
            split
            · exact Nat.le_trans h1 h2
            · split
              · trivial
              · rename_i h; have h3 := run_ok h; exact Nat.le_trans h1 (Nat.le_trans h2 h3)
        · split
          · trivial
          · rename_i h
            have h2 := run_ok h
            clear h
            split
            · trivial
            · rename_i h; have h3 := run_ok h
              split
              · exact Nat.le_trans h1 (Nat.le_trans h2 h3)
              · split
                · trivial
                · rename_i h; have h4 := run_ok h; exact Nat.le_trans h1 (Nat.le_trans h2 (Nat.le_trans h3 h4))
          · rename_i h
            have h2 := run_ok h
            exact Nat.le_trans h1 h2
          · rename_i h
            have h2 := run_ok h
            clear h
            split
            · trivial
            · rename_i h; have h3 := run_ok h
              split
              · exact Nat.le_trans h1 (Nat.le_trans h2 h3)
              · split
                · trivial
                · rename_i h; have h4 := run_ok h; exact Nat.le_trans h1 (Nat.le_trans h2 (Nat.le_trans h3 h4))
theorem ask_ok (p : Program) (m : Machine) : MOk m.world.drawn (ask p m) := by
  unfold ask
  split
  · split
    · trivial
    · rename_i h
      have h1 := run_ok h
      split
      · rename_i h2
        have h3 := look_ok p m.gs m.rest ‹World›
        rw [h2] at h3
        exact MOk.le (askOn_ok _ _) (Nat.le_trans h1 h3)
      · exact SOk.le (look_ok _ _ _ _) h1
    · rename_i h
      have h1 := run_ok h
      exact MOk.le (askOn_ok _ _) h1
  · exact askOn_ok _ _
theorem move_ok (p : Program) (m : Machine) : MOk m.world.drawn (move p m) := by
  unfold move
  split
  · split
    · exact Nat.le_refl _
    · trivial
  · split
    · split
      · exact Nat.le_refl _
      · exact ask_ok p { m with rest := { m.rest with slice := none } }
    · exact ask_ok _ _
theorem step_ok (p : Program) (m : Machine) : SOk m.world.drawn (step p m) := by
  have := move_ok p m
  unfold step stepT
  split
  · rename_i h
    rw [h] at this
    exact SOk.le (runT_ok _ _ _ _) this
  · rename_i h
    rw [h] at this
    exact this
theorem runN_drawn {p : Program} : ∀ (n : Nat) {m m' : Machine}, runN p n m = .next m' → m.world.drawn ≤ m'.world.drawn
  | 0, m, m', h => by
    simp only [runN] at h
    cases h
    exact Nat.le_refl _
  | n + 1, m, m', h => by
    simp only [runN] at h
    have h1 := step_ok p m
    split at h
    · rename_i h2
      rw [h2] at h1
      exact Nat.le_trans h1 (runN_drawn n h)
    · rename_i h2
      exact absurd h (h2 _)
theorem steps_drawn {p : Program} {m m' : Machine} (h : Steps p m m') : m.world.drawn ≤ m'.world.drawn := by
  obtain ⟨n, h⟩ := h
  exact runN_drawn n h
/-- What a call draws it does not give back. -/
theorem calls_drawn {P : Program} {f : FuncId} {args : Array Value} {w : World} {R : Ending → World → Prop} (h : Calls P f args w R) : Calls P f args w fun e w' => R e w' ∧ (e ≠ .outgrown → w.drawn ≤ w'.drawn) := fun cs => by
  obtain ⟨e, w', fr, hR, hC, hf, hl⟩ := h cs
  refine ⟨e, w', fr, ⟨hR, fun he => ?_⟩, hC, hf, hl⟩
  cases e with
  | returned v => exact steps_drawn hC
  | panicked c => exact steps_drawn hC
  | outgrown => exact absurd rfl he
end Go.Proofs.YtpijeomnplmakaaGreatDoor
namespace Go.Proofs.YtpijeomnplmakaaGreatDoor
open Go.RowKit

set_option maxHeartbeats 1000000 in
theorem by1_calls (x y : Slp) (w : World) (hmx : MxI w) (hx : GdS x) (hy : GdS y) : Calls Tryz.prog 224 [encSl x, encSl y].toArray w fun e w' => e = .returned (.int .i64 (cmpBy 1 x y)) ∧ Ext w w' := by
  refine Calls.ofW (by simp) ?_
  (refine jjB ?_; refine jjC ?_)
  (refine jy rfl ?_; intro b3 w_b3 hb_b3 hs_b3 hS_b3 hk_b3; have hA_b3 := At.ofBlock hk_b3)
  (refine jy rfl ?_; intro b4 w_b4 hb_b4 hs_b4 hS_b4 hk_b4; have hA_b4 := At.ofBlock hk_b4)
  (apply jJ; exact eI rfl; refine jz ?_; refine jjB ?_; refine jjC ?_; refine jO rfl rfl rfl rfl ?_; refine jO rfl rfl rfl rfl ?_)
  refine jjQ (Order_slip _ x y hx.2 hy.2) rfl rfl ?_
  rintro _ w6 hS6 rfl
  (apply jI; exact eU rfl; refine ju rfl rfl ?_; refine ju rfl rfl ?_; apply jJ; exact eI rfl; apply jJ; exact eI rfl; refine jz ?_; refine jjB ?_; refine jjC ?_; apply jI; exact eI rfl; apply jJ; exact eI rfl; refine jz ?_; refine jjF ?_)
  refine jB rfl rfl ⟨?_, inferInstance⟩
  show Ending.returned (Value.int .i64 (ordR x y).1) = _
  rw [show cmpBy 1 x y = ordS x y from rfl, show (ordR x y).1 = ordS x y by simp [ordR, hx.1, hy.1]]
theorem by1_slip : CmpQ 224 (cmpBy 1) := fun x y w hmx hx hy =>
  (calls_drawn (by1_calls x y w hmx hx hy)).mono fun e w' ⟨⟨h1, h2⟩, h3⟩ => ⟨h1, h2, h3 (by rw [h1]; exact fun h => by cases h)⟩

theorem text_ref6 (x y : ByteArray) (w : World) : Ct Tryz.prog 84 [.string x, .string y] w fun v _ => v = .int .i64 (cmpS x y) := by
  refine Ct.ofW (by simp) ?_
  (refine jjB ?_; refine jjC ?_; apply jJ; exact eI rfl; refine jz ?_; refine jjB ?_; refine jjD ?_; refine jjB ?_; refine jjC ?_; apply jI; exact eT rfl; apply jI; exact eT rfl)
  refine Ops.lssS rfl rfl ?_
  obtain ⟨B, hB⟩ : ∃ B, Op.bytesLess x.toList y.toList = B := ⟨_, rfl⟩
  rw [cmpS, hB]
  cases B
  · (apply jJ; exact eB rfl; refine jz ?_; refine jjK rfl ?_; refine jjB ?_; refine jjC ?_; apply jI; exact eT rfl; apply jI; exact eT rfl)
    refine Ops.gtrS rfl rfl ?_
    rw [hB, beqS, Bool.false_or]
    by_cases e : x = y
    · rw [decide_eq_true e, if_pos e]
      (apply jJ; exact eB rfl; refine jz ?_; refine jjK rfl ?_; refine jjG ?_; refine jjB ?_; refine jjC ?_; apply jJ; exact eI rfl; refine jz ?_; refine jjF ?_; refine jB rfl rfl ⟨inferInstance, ?_⟩)
      exact rfl
    · rw [decide_eq_false e, if_neg e]
      (apply jJ; exact eB rfl; refine jz ?_; refine jjJ rfl ?_; refine jjB ?_; refine jjC ?_; apply jJ; exact eI rfl; refine jz ?_; refine jjF ?_; refine jB rfl rfl ⟨inferInstance, ?_⟩)
      exact rfl
  · (apply jJ; exact eB rfl; refine jz ?_; refine jjJ rfl ?_; refine jjB ?_; refine jjC ?_; apply jJ; exact eI rfl; refine jz ?_; refine jjF ?_; refine jB rfl rfl ⟨inferInstance, ?_⟩)
    exact rfl
/-- Slips that are right, compared by one of the four. -/
theorem Compared_ref (x y : Slp) (n : Nat) (w : World) (hx : SmallS x) (hy : SmallS y) (hn : n ≤ 255) (ho : n = 1 → (ordR x y).1 = ordS x y) : Ct Tryz.prog 47 [encSl x, encSl y, .int .u8 (n : Int)] w fun v _ => v = .int .i64 (cmpBy (n : Int) x y) := by
  refine Ct.ofW (by simp) ?_
  (refine jjB ?_; refine jjC ?_)
  (refine jy rfl ?_; intro b3 w_b3 hb_b3 hs_b3 hS_b3 hk_b3; have hA_b3 := At.ofBlock hk_b3)
  (refine jy rfl ?_; intro b4 w_b4 hb_b4 hs_b4 hS_b4 hk_b4; have hA_b4 := At.ofBlock hk_b4)
  by_cases h1 : n = 1
  · have e : cmpBy (n : Int) x y = ordS x y := by rw [cmpBy, if_pos (by omega)]
    rw [e]
    subst h1
    (apply jJ; exact eI rfl; refine jz ?_; refine jjB ?_; refine jjB ?_; refine jjC ?_; apply jI; exact eI rfl; refine jz ?_; refine jjD ?_; refine jjB ?_; refine jjC ?_; refine jjh rfl rfl (by omega) ?_; apply jJ; exact eB rfl; refine jz ?_; refine jjJ rfl ?_; refine jjB ?_; refine jjC ?_; refine jO rfl rfl rfl rfl ?_; refine jO rfl rfl rfl rfl ?_)
    refine jjQ (Order_ref3 x y _ hx hy) rfl rfl ?_
    rintro _ w5 hS5 rfl
    rw [ho rfl]
    (apply jI; exact eU rfl; refine ju rfl rfl ?_; refine ju rfl rfl ?_; apply jJ; exact eI rfl; apply jJ; exact eI rfl; refine jz ?_; refine jjB ?_; refine jjC ?_; apply jI; exact eI rfl; apply jJ; exact eI rfl; refine jz ?_; refine jjF ?_; refine jB rfl rfl ⟨inferInstance, ?_⟩)
    exact rfl
  by_cases h2 : n = 2
  · have e : cmpBy (n : Int) x y = cmpS x.2.1 y.2.1 := by rw [cmpBy, if_neg (by omega), if_pos (by omega)]
    rw [e]
    subst h2
    (apply jJ; exact eI rfl; refine jz ?_; refine jjB ?_; refine jjB ?_; refine jjC ?_; apply jI; exact eI rfl; refine jz ?_; refine jjD ?_; refine jjB ?_; refine jjC ?_; refine jji rfl rfl (by omega) ?_; apply jJ; exact eB rfl; refine jz ?_; refine jjK rfl ?_; refine jjB ?_; refine jjC ?_; refine jjh rfl rfl (by omega) ?_; apply jJ; exact eB rfl; refine jz ?_; refine jjJ rfl ?_; refine jjB ?_; refine jjC ?_; refine jm ?_; refine jn rfl ?_; refine jN rfl rfl rfl ?_; refine jm ?_; refine jn rfl ?_; refine jN rfl rfl rfl ?_)
    refine jjQ (text_ref6 x.2.1 y.2.1 _) rfl rfl ?_
    rintro _ w5 hS5 rfl
    (apply jJ; exact eI rfl; refine jz ?_; refine jjF ?_; refine jB rfl rfl ⟨inferInstance, ?_⟩)
    exact rfl
  by_cases h3 : n = 3
  · have e : cmpBy (n : Int) x y = cmpS x.2.2.1 y.2.2.1 := by rw [cmpBy, if_neg (by omega), if_neg (by omega), if_pos (by omega)]
    rw [e]
    subst h3
    (apply jJ; exact eI rfl; refine jz ?_; refine jjB ?_; refine jjB ?_; refine jjC ?_; apply jI; exact eI rfl; refine jz ?_; refine jjD ?_; refine jjB ?_; refine jjC ?_; refine jji rfl rfl (by omega) ?_; apply jJ; exact eB rfl; refine jz ?_; refine jjK rfl ?_; refine jjB ?_; refine jjC ?_; refine jji rfl rfl (by omega) ?_; apply jJ; exact eB rfl; refine jz ?_; refine jjK rfl ?_; refine jjB ?_; refine jjC ?_; refine jjh rfl rfl (by omega) ?_; apply jJ; exact eB rfl; refine jz ?_; refine jjJ rfl ?_; refine jjB ?_; refine jjC ?_; refine jm ?_; refine jn rfl ?_; refine jN rfl rfl rfl ?_; refine jm ?_; refine jn rfl ?_; refine jN rfl rfl rfl ?_)
    refine jjQ (text_ref6 x.2.2.1 y.2.2.1 _) rfl rfl ?_
    rintro _ w5 hS5 rfl
    (apply jJ; exact eI rfl; refine jz ?_; refine jjF ?_; refine jB rfl rfl ⟨inferInstance, ?_⟩)
    exact rfl
  have e : cmpBy (n : Int) x y = cmpS x.2.2.2 y.2.2.2 := by rw [cmpBy, if_neg (by omega), if_neg (by omega), if_neg (by omega)]
  rw [e]
  (apply jJ; exact eI rfl; refine jz ?_; refine jjB ?_; refine jjB ?_; refine jjC ?_; apply jI; exact eI rfl; refine jz ?_; refine jjD ?_; refine jjB ?_; refine jjC ?_; refine jji rfl rfl (by omega) ?_; apply jJ; exact eB rfl; refine jz ?_; refine jjK rfl ?_; refine jjB ?_; refine jjC ?_; refine jji rfl rfl (by omega) ?_; apply jJ; exact eB rfl; refine jz ?_; refine jjK rfl ?_; refine jjB ?_; refine jjC ?_; refine jji rfl rfl (by omega) ?_; apply jJ; exact eB rfl; refine jz ?_; refine jjK rfl ?_; refine jjG ?_; refine jjB ?_; refine jjC ?_; refine jm ?_; refine jn rfl ?_; refine jN rfl rfl rfl ?_; refine jm ?_; refine jn rfl ?_; refine jN rfl rfl rfl ?_)
  refine jjQ (text_ref6 x.2.2.2 y.2.2.2 _) rfl rfl ?_
  rintro _ w5 hS5 rfl
  (apply jJ; exact eI rfl; refine jz ?_; refine jjF ?_; refine jB rfl rfl ⟨inferInstance, ?_⟩)
  exact rfl

set_option maxHeartbeats 2000000 in
theorem SameSl_yes (a1 a2 : Option Addr) (c1 c2 : Nat) (l : List Slp) (w : World) (hl : l.length ≤ 1000000) [h1 : RowI w (.slice a1 l.length c1) true 6 (l.map encSl)] [h2 : RowI w (.slice a2 l.length c2) true 6 (l.map encSl)] :
    Ct Tryz.prog 45 [.slice a1 l.length c1, .slice a2 l.length c2] w fun v _ => v = .bool true := by
  refine Ct.ofW (by simp) ?_
  (refine jjB ?_; refine jjC ?_; apply jJ; exact eB rfl; refine jz ?_; refine jjB ?_; refine jjB ?_; refine jjC ?_; apply jI; exact eS rfl; refine jh rfl ?_; apply jI; exact eS rfl; refine jh rfl ?_; refine jjk rfl rfl (by omega) ?_; refine jz ?_; refine jjK rfl ?_; refine jjG ?_; refine jjB ?_; refine jjB ?_; refine jjC ?_; apply jJ; exact eI rfl; refine jz ?_; refine jjD ?_)
  refine W.loop (11 :: 12 :: 13 :: 14 :: 17 :: 18 :: 19 :: 20 :: 21 :: 22 :: 23 :: 24 :: 25 :: 4 :: 15 :: 16 :: 5 :: []) (fun g s' V => ∃ k : Nat, s' 5 = .int .i64 ((k : Nat) : Int) ∧ g = l.length - k ∧ k ≤ l.length) l.length ⟨0, rfl, rfl, Nat.zero_le _⟩ ?_
  rintro _ sd w1 hS1 ⟨k, h5, rfl, hk⟩
  refine W.fix h5 ?_
  clear h5
  by_cases k1 : k < l.length
  · (refine jjB ?_; refine jjB ?_; refine jjC ?_; apply jI; exact eI rfl; apply jI; exact eS rfl; refine jh rfl ?_; refine jjZ rfl rfl (by omega) ?_; refine jz ?_; refine jjJ rfl ?_; refine jjG ?_; refine jjB ?_; refine jjD ?_; refine jjB ?_)
    refine W.draw (fun w' => Ext w1 w') ?_
    intro w2 hS2
    have hz := (h1.h.ext hS1.ext).place' (map_get k1)
    obtain ⟨q1, o1, rfl, hA1⟩ := hz
    have hz := (h2.h.ext hS1.ext).place' (map_get k1)
    obtain ⟨q2, o2, rfl, hA2⟩ := hz
    refine jjV [0, 1, 2, 3, 4, 5, 6, 7] (by decide +kernel) hS2.ext ?_
    (((apply jjT; exact rfl; rintro w' hq; have := hq.toStep; apply jI; exact eS rfl; refine jz ?_; exact ⟨rfl, rfl⟩; apply jjT; exact rfl; rintro w' hq; have := hq.toStep; apply jI; exact eI rfl; refine jz ?_; exact ⟨rfl, rfl⟩; apply jjT; exact rfl; rintro w' hq; have := hq.toStep; refine jH _ rfl rfl rfl (by omega) ?_; refine jz ?_; exact ⟨rfl, rfl⟩; apply jjT; exact rfl; rintro w' hq; have := hq.toStep; refine jQ rfl rfl ?_; refine jz ?_; exact ⟨rfl, rfl⟩; apply jjT; exact rfl; rintro w' hq; have := hq.toStep; apply jI; exact eS rfl; refine jz ?_; exact ⟨rfl, rfl⟩; apply jjT; exact rfl; rintro w' hq; have := hq.toStep; apply jI; exact eI rfl; refine jz ?_; exact ⟨rfl, rfl⟩; apply jjT; exact rfl; rintro w' hq; have := hq.toStep; refine jH _ rfl rfl rfl (by omega) ?_; refine jz ?_; exact ⟨rfl, rfl⟩; apply jjT; exact rfl; rintro w' hq; have := hq.toStep; refine jQ rfl rfl ?_; refine jz ?_; exact ⟨rfl, rfl⟩; refine jjU ?_)))
    apply jjW 8 (by decide +kernel) rfl hS2.ext
    refine Ops.neqTN (enc := encSl) l[k] rfl rfl ?_
    refine jz ?_
    refine jjX (by decide +kernel) hS2.ext ?_
    (refine jjK rfl ?_; refine jjG ?_; refine jjC ?_; apply jI; exact eI rfl; refine jY rfl rfl (by omega) ?_; apply jJ; exact eI rfl; refine jz ?_)
    exact ⟨rfl, by (((iterate 17 refine Same.upd rfl ?_); exact Same.ovN)), l.length - (k + 1), by omega, hS1.ext.trans hS2.ext, k + 1, congrArg (Value.int .i64) (by omega), rfl, by omega⟩
  · (refine jjB ?_; refine jjB ?_; refine jjC ?_; apply jI; exact eI rfl; apply jI; exact eS rfl; refine jh rfl ?_; refine jja rfl rfl (by omega) ?_; refine jz ?_; refine jjK rfl ?_; refine jjE ?_; refine jjB ?_; refine jjC ?_; apply jJ; exact eB rfl; refine jz ?_; refine jjF ?_; refine jB rfl rfl ⟨inferInstance, ?_⟩)
    exact rfl

/-- Several roads to one place: what holds there is said once, and what is behind it is shown once. -/
theorem join_w {P : Program} {ro : Option Nat} {n : Nat} {X : Ctx} {ds : List Deferred} {c : Code} {G : Prop} {α : Type} (D : List Nat) (sO : Sl) (L : α → List (Nat × Value)) (I : α → World → Prop) (h1 : (∀ x s w', I x w' → Same D sO s → AllEq s (L x) → W P ro n c X s ds w') → G) (h2 : ∀ x s0 w', I x w' → Same D sO (upds s0 (L x)) → W P ro n c X (upds s0 (L x)) ds w') : G :=
  h1 fun x s w' hI hD hA => by have := h2 x s w' hI (by rw [upds_id hA]; exact hD); rwa [upds_id hA] at this

abbrev wA : ByteArray := ⟨#[97]⟩


section
variable (w : World) [hgs : At w 1 0 sidesC]
end




theorem small_of_right {x : Slp} (h : slipB x = true) : SmallS x := by
  simp only [slipB, wordsB, wordB, Bool.and_eq_true, Bool.or_eq_true, decide_eq_true_eq] at h
  exact ⟨by omega, by omega, by omega⟩

def cntS (l : List Slp) (x : Slp) : Nat := (l.filter fun y => decide (y = x)).length
theorem cntS_snoc {l : List Slp} {k : Nat} (hk : k < l.length) (x : Slp) : cntS (l.take (k + 1)) x = cntS (l.take k) x + if l[k] = x then 1 else 0 := by
  rw [cntS, take_snoc_get (List.getElem?_eq_getElem hk), List.filter_append, List.length_append]
  congr 1
  by_cases h : l[k] = x
  · rw [if_pos h, List.filter_cons_of_pos (by simpa using h)]; rfl
  · rw [if_neg h, List.filter_cons_of_neg (by simpa using h)]; rfl
theorem cntS_perm {l m : List Slp} (h : l.Perm m) (x : Slp) : cntS l x = cntS m x := (h.filter _).length_eq
theorem cntS_take (l : List Slp) (k : Nat) (x : Slp) : cntS (l.take k) x ≤ cntS l x := ((List.take_sublist k l).filter _).length_le
abbrev zI : Value := .int .i64 0
section
variable (a : Option Addr) (c : Nat) (cs : List Ch) (wd side : Int) (boxes : Int) (ba : Option Addr) (bc : Nat) (by_ : List Int) (w : World) [hrow : RowI w (.slice a cs.length c) true 2 (cs.map encCh)] [hT : TextI w cs] [hgs : At w 1 0 sidesC] [hgb : At w 0 0 bysC] [hmx : MxI w] [hby : RowI w (.slice ba by_.length bc) false 1 (by_.map u32V)]
set_option maxHeartbeats 16000000 in
theorem RackFiled_law (hd : 0 ≤ side ∧ side ≤ 255) (n : Nat) (hn : n ≤ 255) (hu : U32s by_) : Ct Tryz.prog 11 [.agg #[.slice a cs.length c], encCut wd side, .int .u8 (n : Int), .int .i64 boxes, .slice ba by_.length bc] w fun v _ => v = .bool true := by
  refine Ct.ofW (by simp) ?_
  (refine jjB ?_; refine jjC ?_)
  (refine jy rfl ?_; intro b5 w_b5 hb_b5 hs_b5 hS_b5 hk_b5; have hA_b5 := At.ofBlock hk_b5)
  skip
  (refine jy rfl ?_; intro b6 w_b6 hb_b6 hs_b6 hS_b6 hk_b6; have hA_b6 := At.ofBlock hk_b6)
  (apply jJ; exact eB rfl; refine jz ?_; refine jjB ?_; refine jjC ?_)
  refine jjQ (alive_law6 _) rfl rfl ?_
  rintro _ w6 hS6 rfl
  obtain ⟨G, hG⟩ : ∃ G, greatT (txF cs) = G := ⟨_, rfl⟩
  (apply jJ; exact eB rfl; refine jz ?_; refine jjB ?_; refine jjB ?_; refine jjC ?_; refine jO rfl rfl rfl rfl ?_)
  refine jjQ ((Great_ref1 a c cs _).mono fun v _ _ h => h.trans (by rw [hG])) rfl rfl ?_
  rintro _ w7 hS7 rfl
  cases G with
  | true =>
    (apply jI; exact eB rfl; refine jU rfl rfl rfl rfl ?_; refine jU rfl rfl rfl rfl ?_; refine jU rfl rfl rfl rfl ?_; apply jK rfl; exact eB rfl; apply jI; exact eB rfl; refine jU rfl rfl rfl rfl ?_; refine jU rfl rfl rfl rfl ?_; refine jU rfl rfl rfl rfl ?_; apply jK rfl; exact eB rfl; apply jI; exact eB rfl; refine jU rfl rfl rfl rfl ?_; refine jU rfl rfl rfl rfl ?_; apply jK rfl; exact eB rfl; apply jI; exact eB rfl; refine jU rfl rfl rfl rfl ?_; refine jU rfl rfl rfl rfl ?_; apply jK rfl; exact eB rfl; apply jI; exact eB rfl; refine jU rfl rfl rfl rfl ?_; refine jU rfl rfl rfl rfl ?_; apply jK rfl; exact eB rfl; apply jI; exact eB rfl; refine jU rfl rfl rfl rfl ?_; refine jU rfl rfl rfl rfl ?_; apply jK rfl; exact eB rfl; apply jI; exact eB rfl; refine jU rfl rfl rfl rfl ?_; refine jU rfl rfl rfl rfl ?_; apply jK rfl; exact eB rfl; refine jz ?_; refine jjJ rfl ?_; refine jjB ?_; refine jjC ?_; apply jI; exact eB rfl; apply jJ; exact eB rfl; refine jz ?_; refine jjF ?_; refine jB rfl rfl ⟨inferInstance, ?_⟩)
    exact rfl
  | false =>
  have hs := small_of_great hG
  obtain ⟨T, hTT⟩ : ∃ T, textB (txF cs) = T := ⟨_, rfl⟩
  (apply jI; exact eB rfl; refine jT rfl rfl rfl ?_; refine jO rfl rfl rfl rfl ?_; refine jT rfl rfl rfl ?_)
  refine jjQ ((Check_ref1 a c cs _ hs).mono fun v _ _ h => h.trans (by rw [hTT])) rfl rfl ?_
  rintro _ w8 hS8 rfl
  cases T with
  | false =>
    (refine jT rfl rfl rfl ?_; refine jc rfl rfl ?_; apply jL rfl; exact eB rfl; apply jI; exact eB rfl; refine jU rfl rfl rfl rfl ?_; refine jU rfl rfl rfl rfl ?_; refine jU rfl rfl rfl rfl ?_; apply jK rfl; exact eB rfl; apply jI; exact eB rfl; refine jU rfl rfl rfl rfl ?_; refine jU rfl rfl rfl rfl ?_; apply jK rfl; exact eB rfl; apply jI; exact eB rfl; refine jU rfl rfl rfl rfl ?_; refine jU rfl rfl rfl rfl ?_; apply jK rfl; exact eB rfl; apply jI; exact eB rfl; refine jU rfl rfl rfl rfl ?_; refine jU rfl rfl rfl rfl ?_; apply jK rfl; exact eB rfl; apply jI; exact eB rfl; refine jU rfl rfl rfl rfl ?_; refine jU rfl rfl rfl rfl ?_; apply jK rfl; exact eB rfl; apply jI; exact eB rfl; refine jU rfl rfl rfl rfl ?_; refine jU rfl rfl rfl rfl ?_; apply jK rfl; exact eB rfl; refine jz ?_; refine jjJ rfl ?_; refine jjB ?_; refine jjC ?_; apply jI; exact eB rfl; apply jJ; exact eB rfl; refine jz ?_; refine jjF ?_; refine jB rfl rfl ⟨inferInstance, ?_⟩)
    exact rfl
  | true =>
  obtain ⟨C, hC⟩ : ∃ C, cutB wd side = C := ⟨_, rfl⟩
  (refine jT rfl rfl rfl ?_; refine jc rfl rfl ?_; apply jL rfl; exact eB rfl; apply jI; exact eB rfl; refine jT rfl rfl rfl ?_; refine jO rfl rfl rfl rfl ?_; refine jT rfl rfl rfl ?_)
  refine jjQ ((Cut_ref3 wd side hd _).mono fun v _ _ h => h.trans (by rw [hC])) rfl rfl ?_
  rintro _ w9 hS9 rfl
  cases C with
  | false =>
    (refine jT rfl rfl rfl ?_; refine jq rfl ?_; apply jL rfl; exact eB rfl; apply jI; exact eB rfl; refine jU rfl rfl rfl rfl ?_; refine jU rfl rfl rfl rfl ?_; apply jK rfl; exact eB rfl; apply jI; exact eB rfl; refine jU rfl rfl rfl rfl ?_; refine jU rfl rfl rfl rfl ?_; apply jK rfl; exact eB rfl; apply jI; exact eB rfl; refine jU rfl rfl rfl rfl ?_; refine jU rfl rfl rfl rfl ?_; apply jK rfl; exact eB rfl; apply jI; exact eB rfl; refine jU rfl rfl rfl rfl ?_; refine jU rfl rfl rfl rfl ?_; apply jK rfl; exact eB rfl; apply jI; exact eB rfl; refine jU rfl rfl rfl rfl ?_; refine jU rfl rfl rfl rfl ?_; apply jK rfl; exact eB rfl; refine jz ?_; refine jjJ rfl ?_; refine jjB ?_; refine jjC ?_; apply jI; exact eB rfl; apply jJ; exact eB rfl; refine jz ?_; refine jjF ?_; refine jB rfl rfl ⟨inferInstance, ?_⟩)
    exact rfl
  | true =>
  by_cases h1 : (n : Int) < 1
  · (refine jT rfl rfl rfl ?_; refine jp rfl ?_; apply jL rfl; exact eB rfl; apply jI; exact eB rfl; refine jT rfl rfl rfl ?_; apply jI; exact eI rfl; refine jT rfl rfl rfl ?_; refine jjZ rfl rfl (by omega) ?_; apply jL rfl; exact eB rfl; apply jI; exact eB rfl; refine jU rfl rfl rfl rfl ?_; refine jU rfl rfl rfl rfl ?_; apply jK rfl; exact eB rfl; apply jI; exact eB rfl; refine jU rfl rfl rfl rfl ?_; refine jU rfl rfl rfl rfl ?_; apply jK rfl; exact eB rfl; apply jI; exact eB rfl; refine jU rfl rfl rfl rfl ?_; refine jU rfl rfl rfl rfl ?_; apply jK rfl; exact eB rfl; apply jI; exact eB rfl; refine jU rfl rfl rfl rfl ?_; refine jU rfl rfl rfl rfl ?_; apply jK rfl; exact eB rfl; refine jz ?_; refine jjJ rfl ?_; refine jjB ?_; refine jjC ?_; apply jI; exact eB rfl; apply jJ; exact eB rfl; refine jz ?_; refine jjF ?_; refine jB rfl rfl ⟨inferInstance, ?_⟩)
    exact rfl
  by_cases h4 : 4 < (n : Int)
  · (refine jT rfl rfl rfl ?_; refine jp rfl ?_; apply jL rfl; exact eB rfl; apply jI; exact eB rfl; refine jT rfl rfl rfl ?_; apply jI; exact eI rfl; refine jT rfl rfl rfl ?_; refine jja rfl rfl (by omega) ?_; apply jL rfl; exact eB rfl; apply jI; exact eB rfl; refine jT rfl rfl rfl ?_; apply jI; exact eI rfl; refine jT rfl rfl rfl ?_; refine jjd rfl rfl (by omega) ?_; apply jL rfl; exact eB rfl; apply jI; exact eB rfl; refine jU rfl rfl rfl rfl ?_; refine jU rfl rfl rfl rfl ?_; apply jK rfl; exact eB rfl; apply jI; exact eB rfl; refine jU rfl rfl rfl rfl ?_; refine jU rfl rfl rfl rfl ?_; apply jK rfl; exact eB rfl; apply jI; exact eB rfl; refine jU rfl rfl rfl rfl ?_; refine jU rfl rfl rfl rfl ?_; apply jK rfl; exact eB rfl; refine jz ?_; refine jjJ rfl ?_; refine jjB ?_; refine jjC ?_; apply jI; exact eB rfl; apply jJ; exact eB rfl; refine jz ?_; refine jjF ?_; refine jB rfl rfl ⟨inferInstance, ?_⟩)
    exact rfl
  by_cases hb2 : boxes < 2
  · (refine jT rfl rfl rfl ?_; refine jp rfl ?_; apply jL rfl; exact eB rfl; apply jI; exact eB rfl; refine jT rfl rfl rfl ?_; apply jI; exact eI rfl; refine jT rfl rfl rfl ?_; refine jja rfl rfl (by omega) ?_; apply jL rfl; exact eB rfl; apply jI; exact eB rfl; refine jT rfl rfl rfl ?_; apply jI; exact eI rfl; refine jT rfl rfl rfl ?_; refine jje rfl rfl (by omega) ?_; apply jL rfl; exact eB rfl; apply jI; exact eB rfl; refine jT rfl rfl rfl ?_; apply jI; exact eI rfl; refine jT rfl rfl rfl ?_; refine jjZ rfl rfl (by omega) ?_; apply jL rfl; exact eB rfl; apply jI; exact eB rfl; refine jU rfl rfl rfl rfl ?_; refine jU rfl rfl rfl rfl ?_; apply jK rfl; exact eB rfl; apply jI; exact eB rfl; refine jU rfl rfl rfl rfl ?_; refine jU rfl rfl rfl rfl ?_; apply jK rfl; exact eB rfl; refine jz ?_; refine jjJ rfl ?_; refine jjB ?_; refine jjC ?_; apply jI; exact eB rfl; apply jJ; exact eB rfl; refine jz ?_; refine jjF ?_; refine jB rfl rfl ⟨inferInstance, ?_⟩)
    exact rfl
  by_cases hb20 : 20 < boxes
  · (refine jT rfl rfl rfl ?_; refine jp rfl ?_; apply jL rfl; exact eB rfl; apply jI; exact eB rfl; refine jT rfl rfl rfl ?_; apply jI; exact eI rfl; refine jT rfl rfl rfl ?_; refine jja rfl rfl (by omega) ?_; apply jL rfl; exact eB rfl; apply jI; exact eB rfl; refine jT rfl rfl rfl ?_; apply jI; exact eI rfl; refine jT rfl rfl rfl ?_; refine jje rfl rfl (by omega) ?_; apply jL rfl; exact eB rfl; apply jI; exact eB rfl; refine jT rfl rfl rfl ?_; apply jI; exact eI rfl; refine jT rfl rfl rfl ?_; refine jja rfl rfl (by omega) ?_; apply jL rfl; exact eB rfl; apply jI; exact eB rfl; refine jT rfl rfl rfl ?_; apply jI; exact eI rfl; refine jT rfl rfl rfl ?_; refine jjd rfl rfl (by omega) ?_; apply jL rfl; exact eB rfl; apply jI; exact eB rfl; refine jU rfl rfl rfl rfl ?_; refine jU rfl rfl rfl rfl ?_; apply jK rfl; exact eB rfl; refine jz ?_; refine jjJ rfl ?_; refine jjB ?_; refine jjC ?_; apply jI; exact eB rfl; apply jJ; exact eB rfl; refine jz ?_; refine jjF ?_; refine jB rfl rfl ⟨inferInstance, ?_⟩)
    exact rfl
  have h3 : 1 ≤ (n : Int) ∧ (n : Int) ≤ 4 := by omega
  have hb : 2 ≤ boxes ∧ boxes ≤ 20 := by omega
  (refine jT rfl rfl rfl ?_; refine jp rfl ?_; apply jL rfl; exact eB rfl; apply jI; exact eB rfl; refine jT rfl rfl rfl ?_; apply jI; exact eI rfl; refine jT rfl rfl rfl ?_; refine jja rfl rfl (by omega) ?_; apply jL rfl; exact eB rfl; apply jI; exact eB rfl; refine jT rfl rfl rfl ?_; apply jI; exact eI rfl; refine jT rfl rfl rfl ?_; refine jje rfl rfl (by omega) ?_; apply jL rfl; exact eB rfl; apply jI; exact eB rfl; refine jT rfl rfl rfl ?_; apply jI; exact eI rfl; refine jT rfl rfl rfl ?_; refine jja rfl rfl (by omega) ?_; apply jL rfl; exact eB rfl; apply jI; exact eB rfl; refine jT rfl rfl rfl ?_; apply jI; exact eI rfl; refine jT rfl rfl rfl ?_; refine jje rfl rfl (by omega) ?_; apply jL rfl; exact eB rfl; apply jI; exact eB rfl; refine jT rfl rfl rfl ?_; apply jI; exact eB rfl; refine jT rfl rfl rfl ?_; refine jp rfl ?_; apply jL rfl; exact eB rfl; refine jz ?_; refine jjK rfl ?_; refine jjG ?_; refine jjB ?_; refine jjC ?_; refine jO rfl rfl rfl rfl ?_; refine jO rfl rfl rfl rfl ?_; apply jI; exact eS rfl)
  refine jjQ (mixed_law6 a c cs wd side ba bc by_ _ hs hd hTT hC hu) rfl rfl ?_
  rintro _ w10 hS10 ⟨L0, va, vc, rfl, hp, hO⟩
  have F0 := allF (wd := wd) (side := side) hTT hC
  have hl60 : (L0.take 60).length ≤ 60 := by rw [List.length_take]; omega
  have hall : (L0.take 60).all slipB = true := List.all_eq_true.2 fun x hx => F0.rt x (hp.mem_iff.1 (List.mem_of_mem_take hx))
  have hsm : ∀ x ∈ L0.take 60, SmallS x := fun x hx => small_of_right (List.all_eq_true.1 hall x hx)
  clear F0 hp
  generalize L0.take 60 = l at *
  have e0 := file_ok hl60 hall h3 hb
  have ep := file_perm hl60 hall h3 hb
  have eo := file_ord hl60 hall h3 hb
  obtain ⟨a1, a2, a3⟩ := file_again hl60 hall h3 hb
  have er := ranks_rkD hl60 hall h3
  have eop := rkD_open (n := (n : Int)) hl60 hb
  have edl := rkD_len (n : Int) l
  have i10 : RowI w10 (.slice va l.length vc) true 6 (l.map encSl) := ⟨hO.row⟩
  (apply jJ; exact eS rfl; refine jz ?_; refine jjB ?_; refine jjC ?_; apply jI; exact eS rfl; apply jI; exact eI rfl; apply jI; exact eI rfl)
  refine jjQ (File_rack va vc l (n : Int) boxes _ (fun _ => by1_slip) hsm ⟨by omega, by omega⟩) rfl rfl ?_
  rintro _ w11 hS11 ⟨p, fa, fc, hpp, rfl, hOf⟩
  rw [if_pos e0, er] at hpp
  rw [e0]
  generalize fileL l n boxes = F at *
  have epl := ep.length_eq
  have hsF : ∀ x ∈ F, SmallS x := fun x hx => hsm x (ep.mem_iff.1 hx)
  have i11 : RowI w11 (.slice fa F.length fc) true 6 (F.map encSl) := ⟨hOf.row⟩
  (apply jI; exact eU rfl; refine ju rfl rfl ?_; refine ju rfl rfl ?_; refine ju rfl rfl ?_; apply jJ; exact eS rfl; apply jJ; exact eI rfl; apply jJ; exact eI rfl; refine jz ?_; refine jjB ?_; refine jjC ?_; apply jI; exact eS rfl; apply jI; exact eI rfl)
  refine jjQ (Ranks_rack va vc l (n : Int) _ (fun _ => by1_slip) hsm ⟨by omega, by omega⟩) rfl rfl ?_
  rintro _ w12 hS12 ⟨da, dc, rfl, hOd⟩
  rw [er] at hOd ⊢
  simp only at hOd ⊢
  have i12 : RowI w12 (.slice da (rkD n l).length dc) false 1 ((rkD n l).map intV) := ⟨hOd.row⟩
  (apply jI; exact eU rfl; refine ju rfl rfl ?_; refine ju rfl rfl ?_; apply jJ; exact eS rfl; apply jJ; exact eI rfl; refine jz ?_; refine jjB ?_; refine jjC ?_; apply jI; exact eS rfl; apply jI; exact eI rfl)
  refine jjQ (Passes_rack da dc (rkD n l) boxes _ (by omega)) rfl rfl ?_
  rintro _ w13 hS13 ⟨q, hq, rfl⟩
  rw [eop, if_pos rfl] at hq
  obtain rfl := hpp.uniq hq
  rw [eop]
  (apply jI; exact eU rfl; refine ju rfl rfl ?_; refine ju rfl rfl ?_; apply jJ; exact eI rfl; apply jJ; exact eI rfl; refine jz ?_; refine jjB ?_; refine jjC ?_; apply jI; exact eS rfl; apply jI; exact eI rfl; apply jI; exact eI rfl)
  refine jjQ (File_rack fa fc F (n : Int) boxes _ (fun _ => by1_slip) hsF ⟨by omega, by omega⟩) rfl rfl ?_
  rintro _ w14 hS14 ⟨p2, ga, gc, hp2, rfl, hOg⟩
  rw [if_pos a1, a3] at hp2
  obtain rfl : p2 = 0 := hp2.zero.2 rfl
  rw [a1, a2]
  rw [a2] at hOg
  have i14 : RowI w14 (.slice ga F.length gc) true 6 (F.map encSl) := ⟨hOg.row⟩
  (apply jI; exact eU rfl; refine ju rfl rfl ?_; refine ju rfl rfl ?_; refine ju rfl rfl ?_; apply jJ; exact eS rfl; apply jJ; exact eI rfl; apply jJ; exact eI rfl; refine jz ?_; refine jjB ?_; refine jjB ?_; refine jjC ?_; apply jI; exact eI rfl; refine jjk rfl rfl (by omega) ?_; apply jI; exact eB rfl; refine jT rfl rfl rfl ?_; apply jI; exact eI rfl; refine jT rfl rfl rfl ?_; refine jjk rfl rfl (by omega) ?_; apply jL rfl; exact eB rfl; apply jI; exact eB rfl; refine jT rfl rfl rfl ?_; apply jI; exact eI rfl; refine jT rfl rfl rfl ?_; refine jjk rfl rfl (by omega) ?_; apply jL rfl; exact eB rfl; apply jI; exact eB rfl; refine jT rfl rfl rfl ?_; apply jI; exact eI rfl; refine jT rfl rfl rfl ?_; refine jjk rfl rfl (by omega) ?_; apply jL rfl; exact eB rfl; apply jI; exact eB rfl; refine jT rfl rfl rfl ?_; apply jI; exact eI rfl; refine jT rfl rfl rfl ?_; apply jI; exact eI rfl; refine jT rfl rfl rfl ?_; refine jjk rfl rfl (by omega) ?_; apply jL rfl; exact eB rfl; apply jI; exact eB rfl; refine jT rfl rfl rfl ?_; apply jI; exact eI rfl; refine jT rfl rfl rfl ?_; refine jjk rfl rfl (by omega) ?_; apply jL rfl; exact eB rfl; apply jI; exact eB rfl; refine jT rfl rfl rfl ?_; apply jI; exact eS rfl; refine jT rfl rfl rfl ?_; refine jh rfl ?_; refine jT rfl rfl rfl ?_; apply jI; exact eS rfl; refine jT rfl rfl rfl ?_; refine jh rfl ?_; refine jT rfl rfl rfl ?_; refine jjk rfl rfl (by omega) ?_; apply jL rfl; exact eB rfl; apply jI; exact eB rfl; refine jT rfl rfl rfl ?_; apply jI; exact eS rfl; refine jT rfl rfl rfl ?_; refine jh rfl ?_; refine jT rfl rfl rfl ?_; apply jI; exact eS rfl; refine jT rfl rfl rfl ?_; refine jh rfl ?_; refine jT rfl rfl rfl ?_; refine jjk rfl rfl (by omega) ?_; apply jL rfl; exact eB rfl; apply jI; exact eB rfl; refine jT rfl rfl rfl ?_; apply jI; exact eS rfl; refine jT rfl rfl rfl ?_; apply jI; exact eS rfl; refine jT rfl rfl rfl ?_)
  refine jjQ (SameSl_yes ga fa gc fc F _ (by omega)) rfl rfl ?_
  rintro _ w15 hS15 rfl
  have hDg : ∀ i (hi : i < l.length), gd (rkD (n : Int) l) i = (rankF (cmpBy (n : Int)) l l[i] : Int) := fun i hi => by
    rw [gd_lt (by rw [rkD_len]; exact hi)]
    simp [rkD]
  have hgr : ∀ k j (hk : k < l.length) (hj : j < l.length), (cmpBy (n : Int) l[j] l[k] = 0 → gd (rkD (n : Int) l) j = gd (rkD (n : Int) l) k) ∧ (cmpBy (n : Int) l[j] l[k] < 0 → gd (rkD (n : Int) l) j < gd (rkD (n : Int) l) k) ∧ (0 < cmpBy (n : Int) l[j] l[k] → gd (rkD (n : Int) l) k < gd (rkD (n : Int) l) j) := fun k j hk hj => by
    have h := rank_law (pre_by (n : Int)) (List.getElem_mem hj) (List.getElem_mem hk)
    rw [hDg k hk, hDg j hj]
    exact ⟨fun e => by rw [h.1 e], fun e => by have := h.2.1 e; omega, fun e => by have := h.2.2 e; omega⟩
  clear hDg
  clear hpp hq hp2 a1 a2 a3 hOg hOd hOf hO e0 er eop
  (refine jT rfl rfl rfl ?_; refine jp rfl ?_; apply jL rfl; exact eB rfl; refine jz ?_; refine jjK rfl ?_; refine jjG ?_; refine jjB ?_; refine jjC ?_)
  refine Ops.makeMap encSl ?_
  intro mb w16 hmb hs16 hS16 hM16
  (apply jJ; exact eM rfl; refine jz ?_; refine jjB ?_; refine jjB ?_; refine jjC ?_; apply jI; exact eS rfl; refine jh rfl ?_; apply jI; exact eI rfl; refine jz ?_; refine jjD ?_)
  have hE16 : Ext w w16 := inferInstance
  have zmb : w.heap.size ≤ mb := by have := (inferInstance : Ext w w15).size; omega
  have zmb15 : w15.heap.size ≤ mb := by omega
  have iL : RowI w15 (.slice va l.length vc) true 6 (l.map encSl) := inferInstance
  have iF : RowI w15 (.slice fa F.length fc) true 6 (F.map encSl) := inferInstance
  have iD : RowI w15 (.slice da (rkD n l).length dc) false 1 ((rkD n l).map intV) := inferInstance
  have hE15 : Ext w15 w16 := hS16.ext
  have mx15 : MxI w15 := inferInstance
  refine W.keep0 [(2, .int .u8 (n : Int)), (11, .bool true), (12, .slice va l.length vc), (13, .slice fa F.length fc), (16, .slice da (rkD n l).length dc), (23, .map (some mb)), (143, .slice va l.length vc), (144, .int .i64 (l.length : Int)), (145, .int .i64 ((0 : Nat) : Int))] ⟨eI rfl, eB rfl, eS rfl, eS rfl, eS rfl, eM rfl, eS rfl, eI rfl, eI rfl, trivial⟩ fun s0 => ?_
  refine W.loopG (146 :: 147 :: 148 :: 25 :: 149 :: 150 :: 151 :: 152 :: 153 :: 154 :: 155 :: 145 :: []) (fun g s' V => ∃ (k : Nat) (m : List (Slp × Value)), s' 145 = .int .i64 (k : Int) ∧ g = l.length - k ∧ k ≤ l.length ∧ Only mb w16 V ∧ MapE encSl V mb m ∧ ∀ x : Slp, (mget m x).getD zI = .int .i64 (cntS (l.take k) x : Int)) l.length ⟨0, [], rfl, rfl, Nat.zero_le _, .ofExt (.refl _), hM16, fun x => rfl⟩ ?_
  rintro _ sd V ⟨k, m, h145, rfl, hk, hOn, hM, hmg⟩
  refine W.fix h145 ?_
  clear h145
  have hEV : Ext w15 V := hOn.ext hE15 zmb15
  by_cases hk1 : k < l.length
  · have gk : (l.map encSl)[k]? = some (encSl l[k]) := by rw [List.getElem?_map, List.getElem?_eq_getElem hk1]; rfl
    obtain ⟨pb, po, rfl, -⟩ := iL.h.place' gk
    (refine jjB ?_; refine jjC ?_; refine jjZ rfl rfl (by omega) ?_; refine jz ?_; refine jjB ?_; refine jjJ rfl ?_; refine jjG ?_; refine jjB ?_; refine jjD ?_; refine jjB ?_; refine jjC ?_)
    refine jH k rfl rfl rfl (by omega) ?_
    refine Ops.loadOA (off := 0) (place_k (iL.h.ext hEV) gk) rfl rfl rfl rfl ?_
    (apply jjR rfl; (intro _; first|exact eI rfl|exact eB rfl|exact eP rfl|exact eS rfl|exact eT rfl|exact eA rfl|exact eU rfl|exact eF rfl|exact eM rfl|exact eN rfl|exact rfl); exact rfl; exact rfl; exact rfl; exact rfl; intro b25 w_b25 hb_b25 hs_b25 hS_b25 hk_b25; have hA_b25 := Bk.of hk_b25)
    have hA25 : At w_b25 b25 0 (encSl l[k]).cells.toList := Bk.toAt (h := hA_b25)
    have hlk := hM.lt
    have hne : b25 ≠ mb := by omega
    have hmx0 := hmg l[k]
    have hst := fun x => cntS_snoc hk1 x
    have hc1 := cntS_take l k l[k]
    have hc2 : cntS l l[k] ≤ l.length := List.length_filter_le _ _
    (refine jz ?_)
    refine W.draw (fun w' => At w' b25 0 (encSl l[k]).cells.toList) ?_
    intro V1 hV1
    have s1 : At V1 b25 0 (encSl l[k]).cells.toList := hA25.ext hV1.ext
    have hM1 := hM.ext (hS_b25.ext.trans hV1.ext)
    have hOn1 : Only mb w16 V1 := hOn.trans (.ofExt (hS_b25.ext.trans hV1.ext))
    refine jjV [0, 1] (by decide +kernel) s1 ?_
    (((apply jjT; exact rfl; rintro w' hq; apply jI; exact eM rfl; refine jz ?_; exact ⟨rfl, rfl⟩; apply jjT; exact rfl; rintro w' hq; refine jO rfl rfl rfl rfl ?_; refine jz ?_; exact ⟨rfl, rfl⟩; refine jjU ?_)))
    refine jjl 2 4 (by decide +kernel) rfl rfl s1 ?b1 ?b2
    case b1 =>
      refine Ops.lookupV hmx0 hM1 rfl rfl ?_
      refine jz ?_
      refine jjV [3] (by decide +kernel) s1 ?_
      (((apply jjT; exact rfl; rintro w' hq; refine jY rfl rfl (by omega) ?_; refine jz ?_; exact ⟨rfl, rfl⟩; refine jjU ?_)))
      apply jjW 4 (by decide +kernel) rfl s1
      refine Ops.mapEntry (k := l[k]) (encK := encSl) hM1 rfl rfl ?_
      intro w6 o6 st hp6 hN6
      have s2 := hp6.at_ s1 hne
      refine jz ?_
      refine jjV [5] (by decide +kernel) s2 ?_
      (((apply jjT; exact rfl; rintro w' hq; refine ju rfl rfl ?_; refine jz ?_; exact ⟨rfl, rfl⟩; refine jjU ?_)))
      apply jjW 6 (by decide +kernel) rfl s2
      refine Ops.entryStore (v := .int .i64 ((cntS (l.take k) l[k] : Int) + 1)) hN6 rfl rfl rfl ?_
      intro V5 o5 hp5 hM5
      have s3 := hp5.at_ s2 hne
      refine jz ?_
      refine jjX (by decide +kernel) s3 ?_
      (refine jjC ?_; refine jY rfl rfl (by omega) ?_; apply jI; exact eI rfl; refine jz ?_)
      refine ⟨rfl, by (((iterate 13 refine Same.upd rfl ?_); exact Same.ovN)), l.length - (k + 1), by omega, k + 1, _, congrArg (Value.int .i64) (by omega), rfl, by omega, (hOn1.trans (.ofPut hp6)).trans (.ofPut hp5), hM5, fun x => ?_⟩
      rw [hst]
      by_cases hx : x = l[k]
      · subst hx
        rw [mget_set_same, if_pos rfl]; rfl
      · rw [mget_set_other _ _ hx, mget_set_other _ _ hx, if_neg (fun e => hx e.symm), hmg]; rfl
    case b2 =>
      refine Ops.mapEntry (k := l[k]) (encK := encSl) hM1 rfl rfl ?_
      intro w6 o6 st hp6 hN6
      have s2 := hp6.at_ s1 hne
      refine jz ?_
      refine jjV [5] (by decide +kernel) s2 ?_
      (((apply jjT; exact rfl; rintro w' hq; refine ju rfl rfl ?_; refine jz ?_; exact ⟨rfl, rfl⟩; refine jjU ?_)))
      apply jjW 2 (by decide +kernel) rfl s2
      refine Ops.lookupV (v := .int .i64 (cntS (l.take k) l[k] : Int)) (by rw [mget_set_same]; exact hmx0) hN6.toE rfl rfl ?_
      refine jz ?_
      refine jjV [3] (by decide +kernel) s2 ?_
      (((apply jjT; exact rfl; rintro w' hq; refine jY rfl rfl (by omega) ?_; refine jz ?_; exact ⟨rfl, rfl⟩; refine jjU ?_)))
      apply jjW 6 (by decide +kernel) rfl s2
      refine Ops.entryStore (v := .int .i64 ((cntS (l.take k) l[k] : Int) + 1)) hN6 rfl rfl rfl ?_
      intro V5 o5 hp5 hM5
      have s3 := hp5.at_ s2 hne
      refine jz ?_
      refine jjX (by decide +kernel) s3 ?_
      (refine jjC ?_; refine jY rfl rfl (by omega) ?_; apply jI; exact eI rfl; refine jz ?_)
      refine ⟨rfl, by (((iterate 13 refine Same.upd rfl ?_); exact Same.ovN)), l.length - (k + 1), by omega, k + 1, _, congrArg (Value.int .i64) (by omega), rfl, by omega, (hOn1.trans (.ofPut hp6)).trans (.ofPut hp5), hM5, fun x => ?_⟩
      rw [hst]
      by_cases hx : x = l[k]
      · subst hx
        rw [mget_set_same, if_pos rfl]; rfl
      · rw [mget_set_other _ _ hx, mget_set_other _ _ hx, if_neg (fun e => hx e.symm), hmg]; rfl
  obtain rfl : k = l.length := by omega
  rw [List.take_length] at hmg
  have hcF := fun x => cntS_perm ep x
  (refine jjB ?_; refine jjC ?_; refine jja rfl rfl (by omega) ?_; refine jz ?_; refine jjB ?_; refine jjK rfl ?_; refine jjE ?_; refine jjB ?_; refine jjB ?_; refine jjC ?_; apply jI; exact eS rfl; refine jh rfl ?_; apply jI; exact eI rfl; refine jz ?_; refine jjD ?_)
  refine W.keep0 [(2, .int .u8 (n : Int)), (11, .bool true), (12, .slice va l.length vc), (13, .slice fa F.length fc), (16, .slice da (rkD n l).length dc), (23, .map (some mb)), (156, .slice fa F.length fc), (157, .int .i64 (F.length : Int)), (158, .int .i64 ((0 : Nat) : Int))] ⟨eI rfl, eB rfl, eS rfl, eS rfl, eS rfl, eM rfl, eS rfl, eI rfl, eI rfl, trivial⟩ fun s1 => ?_
  refine W.loopG (159 :: 160 :: 161 :: 162 :: 27 :: 26 :: 163 :: 164 :: 165 :: 166 :: 167 :: 168 :: 169 :: 170 :: 171 :: 172 :: 10 :: 173 :: 174 :: 175 :: 176 :: 177 :: 178 :: 180 :: 181 :: 182 :: 183 :: 184 :: 185 :: 186 :: 179 :: 187 :: 188 :: 28 :: 29 :: 189 :: 190 :: 191 :: 192 :: 193 :: 194 :: 195 :: 196 :: 197 :: 198 :: 199 :: 200 :: 201 :: 202 :: 203 :: 204 :: 205 :: 206 :: 207 :: 208 :: 158 :: []) (fun g s' V => ∃ (k : Nat) (m : List (Slp × Value)), s' 158 = .int .i64 (k : Int) ∧ g = F.length - k ∧ k ≤ F.length ∧ Only mb w16 V ∧ MapE encSl V mb m ∧ ∀ x : Slp, (mget m x).getD zI = .int .i64 ((cntS l x : Int) - (cntS (F.take k) x : Int))) F.length ⟨0, m, rfl, rfl, Nat.zero_le _, hOn, hM, fun x => by rw [hmg]; simp [cntS]⟩ ?_
  clear hOn hM hmg hEV m V
  rintro _ sd2 V ⟨k, m, h158, rfl, hk, hOn, hM, hmg⟩
  refine W.fix h158 ?_
  clear h158
  have hEV : Ext w15 V := hOn.ext hE15 zmb15
  by_cases hk1 : k < F.length
  · have gk : (F.map encSl)[k]? = some (encSl F[k]) := by rw [List.getElem?_map, List.getElem?_eq_getElem hk1]; rfl
    obtain ⟨pb, po, rfl, -⟩ := iF.h.place' gk
    (refine jjB ?_; refine jjC ?_; refine jjZ rfl rfl (by omega) ?_; refine jz ?_; refine jjB ?_; refine jjJ rfl ?_; refine jjG ?_; refine jjB ?_; refine jjD ?_; refine jjB ?_; refine jjC ?_; apply jI; exact eI rfl)
    refine jH k rfl rfl rfl (by omega) ?_
    refine Ops.loadOA (off := 0) (place_k (iF.h.ext hEV) gk) rfl rfl rfl rfl ?_
    ((skip); refine jjY ?_; intro b27 w_b27 hb_b27 hs_b27 hS_b27 hk_b27; have hA_b27 := Bk.of hk_b27)
    (apply jJ; exact eI rfl)
    refine Ops.store rfl rfl rfl rfl rfl ?_
    intro V2 hp2
    have hA27 : At V2 b27 0 (encSl F[k]).cells.toList := Bk.toAt (h := ⟨hp2.new⟩)
    have hE2 : Ext V V2 := hp2.ext hS_b27.ext (by omega)
    have hlk := hM.lt
    have hne : b27 ≠ mb := by omega
    have hmx0 := hmg F[k]
    have hst := fun x => cntS_snoc hk1 x
    have hc0 := hst F[k]
    rw [if_pos rfl] at hc0
    have hc1 := cntS_take F (k + 1) F[k]
    have hc2 : cntS l F[k] ≤ l.length := List.length_filter_le _ _
    have hc3 := hcF F[k]
    have hcn : ∀ v0 : Value, ∀ x : Slp, (mget (mset (mset m F[k] v0) F[k] (.int .i64 ((cntS l F[k] : Int) - (cntS (F.take k) F[k] : Int) - 1))) x).getD zI = .int .i64 ((cntS l x : Int) - (cntS (F.take (k + 1)) x : Int)) := fun v0 x => by
      rw [hst]
      by_cases hx : x = F[k]
      · subst hx
        rw [mget_set_same, if_pos rfl]
        exact congrArg (Value.int .i64) (by push_cast; omega)
      · rw [mget_set_other _ _ hx, mget_set_other _ _ hx, if_neg (fun e => hx e.symm), hmg]; rfl
    (refine jz ?_; refine jjB ?_)
    apply join_w (159 :: 160 :: 161 :: 162 :: 27 :: 26 :: 163 :: 164 :: 165 :: 166 :: 167 :: 168 :: 169 :: 170 :: 171 :: 172 :: 10 :: 173 :: 174 :: 175 :: 176 :: 177 :: 178 :: 180 :: 181 :: 182 :: 183 :: 184 :: 185 :: 186 :: 179 :: 187 :: 188 :: 28 :: 29 :: 189 :: 190 :: 191 :: 192 :: 193 :: 194 :: 195 :: 196 :: 197 :: 198 :: 199 :: 200 :: 201 :: 202 :: 203 :: 204 :: 205 :: 206 :: 207 :: 208 :: 158 :: []) (upds s1 _) (fun _ : List (Slp × Value) => [(2, .int .u8 (n : Int)), (11, .bool true), (12, .slice va l.length vc), (13, .slice (some ⟨pb, po, none⟩) F.length fc), (16, .slice da (rkD n l).length dc), (23, .map (some mb)), (26, .int .i64 (k : Int)), (27, .pointer (some ⟨b27, 0, none⟩)), (156, .slice (some ⟨pb, po, none⟩) F.length fc), (157, .int .i64 (F.length : Int)), (158, .int .i64 (k : Int))]) (fun m' w' => Only mb w16 w' ∧ MapE encSl w' mb m' ∧ (∀ x : Slp, (mget m' x).getD zI = .int .i64 ((cntS l x : Int) - (cntS (F.take (k + 1)) x : Int))) ∧ At w' b27 0 (encSl F[k]).cells.toList)
    · intro rest
      refine W.draw (fun w' => At w' b27 0 (encSl F[k]).cells.toList) ?_
      intro V1 hV1
      have s1 : At V1 b27 0 (encSl F[k]).cells.toList := hA27.ext hV1.ext
      have hM1 := hM.ext (hE2.trans hV1.ext)
      have hOn1 : Only mb w16 V1 := hOn.trans (.ofExt (hE2.trans hV1.ext))
      refine jjV [0, 1] (by decide +kernel) s1 ?_
      (((apply jjT; exact rfl; rintro w' hq; apply jI; exact eM rfl; refine jz ?_; exact ⟨rfl, rfl⟩; apply jjT; exact rfl; rintro w' hq; refine jO rfl rfl rfl rfl ?_; refine jz ?_; exact ⟨rfl, rfl⟩; refine jjU ?_)))
      refine jjl 2 4 (by decide +kernel) rfl rfl s1 ?b1 ?b2
      case b1 =>
        refine Ops.lookupV hmx0 hM1 rfl rfl ?_
        refine jz ?_
        refine jjV [3] (by decide +kernel) s1 ?_
        (((apply jjT; exact rfl; rintro w' hq; refine jZ rfl rfl (by omega) ?_; refine jz ?_; exact ⟨rfl, rfl⟩; refine jjU ?_)))
        apply jjW 4 (by decide +kernel) rfl s1
        refine Ops.mapEntry (k := F[k]) (encK := encSl) hM1 rfl rfl ?_
        intro w6 o6 st hp6 hN6
        have s2 := hp6.at_ s1 hne
        refine jz ?_
        refine jjV [5] (by decide +kernel) s2 ?_
        (((apply jjT; exact rfl; rintro w' hq; refine ju rfl rfl ?_; refine jz ?_; exact ⟨rfl, rfl⟩; refine jjU ?_)))
        apply jjW 6 (by decide +kernel) rfl s2
        refine Ops.entryStore (v := .int .i64 ((cntS l F[k] : Int) - (cntS (F.take k) F[k] : Int) - 1)) hN6 rfl rfl rfl ?_
        intro V5 o5 hp5 hM5
        have s3 := hp5.at_ s2 hne
        refine jz ?_
        refine jjX (by decide +kernel) s3 ?_
        refine rest _ _ _ ⟨(hOn1.trans (.ofPut hp6)).trans (.ofPut hp5), hM5, hcn _, s3⟩ (by (((iterate 13 refine Same.upd rfl ?_); exact Same.ovN))) ?_
        exact ⟨eI rfl, eB rfl, eS rfl, eS rfl, eS rfl, eM rfl, eI rfl, eP rfl, eS rfl, eI rfl, eI rfl, trivial⟩
      case b2 =>
        refine Ops.mapEntry (k := F[k]) (encK := encSl) hM1 rfl rfl ?_
        intro w6 o6 st hp6 hN6
        have s2 := hp6.at_ s1 hne
        refine jz ?_
        refine jjV [5] (by decide +kernel) s2 ?_
        (((apply jjT; exact rfl; rintro w' hq; refine ju rfl rfl ?_; refine jz ?_; exact ⟨rfl, rfl⟩; refine jjU ?_)))
        apply jjW 2 (by decide +kernel) rfl s2
        refine Ops.lookupV (v := .int .i64 ((cntS l F[k] : Int) - (cntS (F.take k) F[k] : Int))) (by rw [mget_set_same]; exact hmx0) hN6.toE rfl rfl ?_
        refine jz ?_
        refine jjV [3] (by decide +kernel) s2 ?_
        (((apply jjT; exact rfl; rintro w' hq; refine jZ rfl rfl (by omega) ?_; refine jz ?_; exact ⟨rfl, rfl⟩; refine jjU ?_)))
        apply jjW 6 (by decide +kernel) rfl s2
        refine Ops.entryStore (v := .int .i64 ((cntS l F[k] : Int) - (cntS (F.take k) F[k] : Int) - 1)) hN6 rfl rfl rfl ?_
        intro V5 o5 hp5 hM5
        have s3 := hp5.at_ s2 hne
        refine jz ?_
        refine jjX (by decide +kernel) s3 ?_
        refine rest _ _ _ ⟨(hOn1.trans (.ofPut hp6)).trans (.ofPut hp5), hM5, hcn _, s3⟩ (by (((iterate 13 refine Same.upd rfl ?_); exact Same.ovN))) ?_
        exact ⟨eI rfl, eB rfl, eS rfl, eS rfl, eS rfl, eM rfl, eI rfl, eP rfl, eS rfl, eI rfl, eI rfl, trivial⟩
    clear hcn hmx0 hmg hM hOn hA27
    rintro m6 s5 V6 ⟨hOn6, hM6, hmg6, hA6⟩ hSm
    have hmx6 := hmg6 F[k]
    have hE6 : Ext w15 V6 := hOn6.ext hE15 zmb15
    (refine jjB ?_; refine jjB ?_; refine jjC ?_; apply jI; exact eM rfl; refine jO rfl rfl rfl rfl ?_)
    refine Ops.lookupV hmx6 hM6 rfl rfl ?_
    by_cases hk0 : k = 0
    · subst hk0
      (refine jja rfl rfl (by omega) ?_; refine jz ?_; refine jjK rfl ?_; refine jjG ?_; refine jjB ?_; refine jjB ?_; refine jjC ?_; apply jI; exact eI rfl; refine jje rfl rfl (by omega) ?_; apply jI; exact eB rfl; refine jU rfl rfl rfl rfl ?_; refine jU rfl rfl rfl rfl ?_; apply jL rfl; exact eB rfl; refine jz ?_; refine jjK rfl ?_; refine jjG ?_; refine jjB ?_)
      refine W.draw (fun w' => Ext V6 w') ?_
      intro w8 hS8
      refine jjV [0, 1, 2, 3, 4, 5, 6, 7, 8, 9, 10, 11, 12] (by decide +kernel) hS8.ext ?_
      (((apply jjT; exact rfl; rintro w' hq; have := hq.toStep; apply jI; exact eI rfl; refine jz ?_; exact ⟨rfl, rfl⟩; apply jjT; exact rfl; rintro w' hq; have := hq.toStep; refine jje rfl rfl (by omega) ?_; refine jz ?_; exact ⟨rfl, rfl⟩; apply jjT; exact rfl; rintro w' hq; have := hq.toStep; apply jI; exact eB rfl; refine jz ?_; exact ⟨rfl, rfl⟩; apply jjT; exact rfl; rintro w' hq; have := hq.toStep; refine jU rfl rfl rfl rfl ?_; refine jz ?_; exact ⟨rfl, rfl⟩; apply jjT; exact rfl; rintro w' hq; have := hq.toStep; refine jU rfl rfl rfl rfl ?_; refine jz ?_; exact ⟨rfl, rfl⟩; apply jjT; exact rfl; rintro w' hq; have := hq.toStep; refine jU rfl rfl rfl rfl ?_; refine jz ?_; exact ⟨rfl, rfl⟩; apply jjT; exact rfl; rintro w' hq; have := hq.toStep; refine jU rfl rfl rfl rfl ?_; refine jz ?_; exact ⟨rfl, rfl⟩; apply jjT; exact rfl; rintro w' hq; have := hq.toStep; refine jU rfl rfl rfl rfl ?_; refine jz ?_; exact ⟨rfl, rfl⟩; apply jjT; exact rfl; rintro w' hq; have := hq.toStep; refine jU rfl rfl rfl rfl ?_; refine jz ?_; exact ⟨rfl, rfl⟩; apply jjT; exact rfl; rintro w' hq; have := hq.toStep; refine jU rfl rfl rfl rfl ?_; refine jz ?_; exact ⟨rfl, rfl⟩; apply jjT; exact rfl; rintro w' hq; have := hq.toStep; refine jU rfl rfl rfl rfl ?_; refine jz ?_; exact ⟨rfl, rfl⟩; apply jjT; exact rfl; rintro w' hq; have := hq.toStep; refine jU rfl rfl rfl rfl ?_; refine jz ?_; exact ⟨rfl, rfl⟩; apply jjT; exact rfl; rintro w' hq; have := hq.toStep; apply jL rfl; exact eB rfl; refine jz ?_; exact ⟨rfl, rfl⟩; refine jjU ?_)))
      refine jjX (by decide +kernel) inferInstance ?_
      (refine jjK rfl ?_; refine jjG ?_; refine jjC ?_; refine jY rfl rfl (by omega) ?_; apply jI; exact eI rfl; refine jz ?_)
      exact ⟨rfl, by (((iterate 25 refine Same.upd rfl ?_); assumption)), F.length - (0 + 1), by omega, 0 + 1, m6, congrArg (Value.int .i64) (by omega), rfl, by omega, hOn6.trans (.ofExt hS8.ext), hM6.ext hS8.ext, hmg6⟩
    obtain ⟨j, rfl⟩ : ∃ j, k = j + 1 := ⟨k - 1, by omega⟩
    have hj : j < F.length := by omega
    have hsub : ((j + 1 : Nat) : Int) - 1 = (j : Int) := by omega
    have gj : (F.map encSl)[j]? = some (encSl F[j]) := by rw [List.getElem?_map, List.getElem?_eq_getElem hj]; rfl
    have hle : cmpBy (n : Int) F[j] F[j + 1] ≤ 0 := List.pairwise_iff_getElem.1 eo j (j + 1) hj hk1 (by omega)
    have hsj := hsF F[j] (List.getElem_mem hj)
    have hsk := hsF F[j + 1] (List.getElem_mem hk1)
    have hrF : F.all slipB = true := List.all_eq_true.2 fun x hx => List.all_eq_true.1 hall x (ep.mem_iff.1 hx)
    have hor : (ordR F[j] F[j + 1]).1 = ordS F[j] F[j + 1] ∧ (ordR F[j] F[j + 1]).2 = 0 := by
      simp [ordR, List.all_eq_true.1 hrF _ (List.getElem_mem hj), List.all_eq_true.1 hrF _ (List.getElem_mem hk1)]
    have hE6' := hE6.toStep
    by_cases hn1 : n = 1
    · have hle2 : (ordR F[j] F[j + 1]).1 ≤ 0 := by subst hn1; rw [hor.1]; exact hle
      (refine jja rfl rfl (by omega) ?_; refine jz ?_; refine jjK rfl ?_; refine jjG ?_; refine jjB ?_; refine jjB ?_; refine jjC ?_; apply jI; exact eI rfl; refine jjd rfl rfl (by omega) ?_; apply jI; exact eB rfl; refine jT rfl rfl rfl ?_; apply jI; exact eI rfl; refine jT rfl rfl rfl ?_; refine jjh rfl rfl (by omega) ?_; apply jK rfl; exact eB rfl; refine jz ?_; refine jjJ rfl ?_; refine jjB ?_)
      refine W.draw (fun w' => Ext V6 w') ?_
      intro w7 hS7
      refine jjV [0, 1, 2] (by decide +kernel) hS7.ext ?_
      (((apply jjT; exact rfl; rintro w' hq; have := hq.toStep; apply jI; exact eS rfl; refine jz ?_; exact ⟨rfl, rfl⟩; apply jjT; exact rfl; rintro w' hq; have := hq.toStep; apply jI; exact eI rfl; refine jz ?_; exact ⟨rfl, rfl⟩; apply jjT; exact rfl; rintro w' hq; have := hq.toStep; refine jZ rfl rfl (by omega) ?_; refine jz ?_; exact ⟨rfl, rfl⟩; refine jjU ?_)))
      refine jjV [3] (by decide +kernel) hS7.ext (jjT (v := .pointer (some ⟨pb, po + j * 6, none⟩)) rfl (fun w' q1 => ?_) (jjU ?_)); (refine jH j rfl rfl hsub (by omega) ?_; refine jz ?_; exact ⟨rfl, rfl⟩)
      refine jjV [4] (by decide +kernel) hS7.ext (jjT (v := encSl F[j]) rfl (fun w' q1 => ?_) (jjU ?_)); (refine Ops.loadOA (off := 0) (place_k (iF.h.ext (hE6.trans q1)) gj) rfl rfl rfl rfl ?_; refine jz ?_; exact ⟨rfl, rfl⟩)
      refine jjV [5] (by decide +kernel) hS7.ext (jjT (v := encSl F[j + 1]) rfl (fun w' q1 => ?_) (jjU ?_)); (have hA7 := hA6.ext q1; refine Ops.loadOA (off := 0) hA7 rfl rfl rfl rfl ?_; refine jz ?_; exact ⟨rfl, rfl⟩)
      (apply jjW 6; (decide +kernel); exact rfl; (exact hS7.ext))
      refine jjQ (Order_slip _ F[j] F[j + 1] hsj hsk) rfl rfl ?_
      rintro _ w77 hS77 rfl
      refine jz ?_
      have hE67 : Ext V6 w77 := hS7.ext.trans hS77.ext
      rw [hor.2]
      refine jjV [7, 8, 9, 10, 11] (by decide +kernel) hE67 ?_
      (((apply jjT; exact rfl; rintro w' hq; have := hq.toStep; apply jI; exact eU rfl; refine jz ?_; exact ⟨rfl, rfl⟩; apply jjT; exact rfl; rintro w' hq; have := hq.toStep; refine ju rfl rfl ?_; refine jz ?_; exact ⟨rfl, rfl⟩; apply jjT; exact rfl; rintro w' hq; have := hq.toStep; refine ju rfl rfl ?_; refine jz ?_; exact ⟨rfl, rfl⟩; apply jjT; exact rfl; rintro w' hq; have := hq.toStep; apply jJ; exact eI rfl; refine jz ?_; exact ⟨rfl, rfl⟩; apply jjT; exact rfl; rintro w' hq; have := hq.toStep; apply jJ; exact eI rfl; refine jz ?_; exact ⟨rfl, rfl⟩; refine jjU ?_)))
      refine jjX (by decide +kernel) hE67 ?_
      have hA77 := hA6.ext hE67
      (refine jjB ?_; refine jjC ?_; apply jI; exact eI rfl; refine jjk rfl rfl (by omega) ?_; apply jI; exact eB rfl; refine jT rfl rfl rfl ?_; apply jI; exact eI rfl; refine jT rfl rfl rfl ?_; refine jje rfl rfl (by omega) ?_; apply jL rfl; exact eB rfl; refine jz ?_; refine jjK rfl ?_; refine jjG ?_; refine jjB ?_)
      refine W.draw (fun w' => Ext V6 w') ?_
      intro w8 hS8
      have hE68 : Ext V6 w8 := hE67.trans hS8.ext
      refine jjV [0, 1, 2, 3, 4, 5] (by decide +kernel) hE68 ?_
      (((apply jjT; exact rfl; rintro w' hq; have := hq.toStep; apply jI; exact eI rfl; refine jz ?_; exact ⟨rfl, rfl⟩; apply jjT; exact rfl; rintro w' hq; have := hq.toStep; refine jjd rfl rfl (by omega) ?_; refine jz ?_; exact ⟨rfl, rfl⟩; apply jjT; exact rfl; rintro w' hq; have := hq.toStep; apply jI; exact eB rfl; refine jz ?_; exact ⟨rfl, rfl⟩; apply jjT; exact rfl; rintro w' hq; have := hq.toStep; refine jT rfl rfl rfl ?_; apply jI; exact eS rfl; refine jz ?_; exact ⟨rfl, rfl⟩; apply jjT; exact rfl; rintro w' hq; have := hq.toStep; refine jT rfl rfl rfl ?_; apply jI; exact eI rfl; refine jz ?_; exact ⟨rfl, rfl⟩; apply jjT; exact rfl; rintro w' hq; have := hq.toStep; refine jT rfl rfl rfl ?_; refine jZ rfl rfl (by omega) ?_; refine jz ?_; exact ⟨rfl, rfl⟩; refine jjU ?_)))
      refine jjV [6] (by decide +kernel) hE68 (jjT (v := .pointer (some ⟨pb, po + j * 6, none⟩)) rfl (fun w' q1 => ?_) (jjU ?_)); (refine jT rfl rfl rfl ?_; refine jH j rfl rfl hsub (by omega) ?_; refine jz ?_; exact ⟨rfl, rfl⟩)
      refine jjV [7] (by decide +kernel) hE68 (jjT (v := encSl F[j]) rfl (fun w' q1 => ?_) (jjU ?_)); (refine jT rfl rfl rfl ?_; refine Ops.loadOA (off := 0) (place_k (iF.h.ext (hE6.trans q1)) gj) rfl rfl rfl rfl ?_; refine jz ?_; exact ⟨rfl, rfl⟩)
      refine jjV [8, 9] (by decide +kernel) hE68 ?_
      (((apply jjT; exact rfl; rintro w' hq; have := hq.toStep; refine jT rfl rfl rfl ?_; refine jO rfl rfl rfl rfl ?_; refine jz ?_; exact ⟨rfl, rfl⟩; apply jjT; exact rfl; rintro w' hq; have := hq.toStep; refine jT rfl rfl rfl ?_; apply jI; exact eI rfl; refine jz ?_; exact ⟨rfl, rfl⟩; refine jjU ?_)))
      (apply jjW 10; (decide +kernel); exact rfl; (exact hE68))
      refine jT rfl rfl rfl ?_
      refine jjQ (Compared_ref F[j] F[j + 1] n _ hsj hsk hn fun _ => hor.1) rfl rfl ?_
      rintro _ w9 hS9 rfl
      refine jz ?_
      have hE69 : Ext V6 w9 := hE68.trans hS9.ext
      refine jjV [11, 12] (by decide +kernel) hE69 ?_
      (((apply jjT; exact rfl; rintro w' hq; have := hq.toStep; refine jT rfl rfl rfl ?_; refine jje rfl rfl (by omega) ?_; refine jz ?_; exact ⟨rfl, rfl⟩; apply jjT; exact rfl; rintro w' hq; have := hq.toStep; apply jK rfl; exact eB rfl; refine jz ?_; exact ⟨rfl, rfl⟩; refine jjU ?_)))
      refine jjX (by decide +kernel) hE69 ?_
      (refine jjK rfl ?_; refine jjG ?_; refine jjC ?_; refine jY rfl rfl (by omega) ?_; apply jI; exact eI rfl; refine jz ?_)
      exact ⟨rfl, by (((iterate 43 refine Same.upd rfl ?_); assumption)), F.length - (j + 1 + 1), by omega, j + 1 + 1, m6, congrArg (Value.int .i64) (by omega), rfl, by omega, hOn6.trans (.ofExt hE69), hM6.ext hE69, hmg6⟩
    · (refine jja rfl rfl (by omega) ?_; refine jz ?_; refine jjK rfl ?_; refine jjG ?_; refine jjB ?_; refine jjB ?_; refine jjC ?_; apply jI; exact eI rfl; refine jjd rfl rfl (by omega) ?_; apply jI; exact eB rfl; refine jT rfl rfl rfl ?_; apply jI; exact eI rfl; refine jT rfl rfl rfl ?_; refine jji rfl rfl (by omega) ?_; apply jK rfl; exact eB rfl; refine jz ?_; refine jjK rfl ?_; refine jjG ?_; refine jjB ?_)
      refine W.draw (fun w' => Ext V6 w') ?_
      intro w8 hS8
      have hE68 : Ext V6 w8 := hS8.ext
      refine jjV [0, 1, 2, 3, 4, 5] (by decide +kernel) hE68 ?_
      (((apply jjT; exact rfl; rintro w' hq; have := hq.toStep; apply jI; exact eI rfl; refine jz ?_; exact ⟨rfl, rfl⟩; apply jjT; exact rfl; rintro w' hq; have := hq.toStep; refine jjd rfl rfl (by omega) ?_; refine jz ?_; exact ⟨rfl, rfl⟩; apply jjT; exact rfl; rintro w' hq; have := hq.toStep; apply jI; exact eB rfl; refine jz ?_; exact ⟨rfl, rfl⟩; apply jjT; exact rfl; rintro w' hq; have := hq.toStep; refine jT rfl rfl rfl ?_; apply jI; exact eS rfl; refine jz ?_; exact ⟨rfl, rfl⟩; apply jjT; exact rfl; rintro w' hq; have := hq.toStep; refine jT rfl rfl rfl ?_; apply jI; exact eI rfl; refine jz ?_; exact ⟨rfl, rfl⟩; apply jjT; exact rfl; rintro w' hq; have := hq.toStep; refine jT rfl rfl rfl ?_; refine jZ rfl rfl (by omega) ?_; refine jz ?_; exact ⟨rfl, rfl⟩; refine jjU ?_)))
      refine jjV [6] (by decide +kernel) hE68 (jjT (v := .pointer (some ⟨pb, po + j * 6, none⟩)) rfl (fun w' q1 => ?_) (jjU ?_)); (refine jT rfl rfl rfl ?_; refine jH j rfl rfl hsub (by omega) ?_; refine jz ?_; exact ⟨rfl, rfl⟩)
      refine jjV [7] (by decide +kernel) hE68 (jjT (v := encSl F[j]) rfl (fun w' q1 => ?_) (jjU ?_)); (refine jT rfl rfl rfl ?_; refine Ops.loadOA (off := 0) (place_k (iF.h.ext (hE6.trans q1)) gj) rfl rfl rfl rfl ?_; refine jz ?_; exact ⟨rfl, rfl⟩)
      refine jjV [8, 9] (by decide +kernel) hE68 ?_
      (((apply jjT; exact rfl; rintro w' hq; have := hq.toStep; refine jT rfl rfl rfl ?_; refine jO rfl rfl rfl rfl ?_; refine jz ?_; exact ⟨rfl, rfl⟩; apply jjT; exact rfl; rintro w' hq; have := hq.toStep; refine jT rfl rfl rfl ?_; apply jI; exact eI rfl; refine jz ?_; exact ⟨rfl, rfl⟩; refine jjU ?_)))
      (apply jjW 10; (decide +kernel); exact rfl; (exact hE68))
      refine jT rfl rfl rfl ?_
      refine jjQ (Compared_ref F[j] F[j + 1] n _ hsj hsk hn fun _ => hor.1) rfl rfl ?_
      rintro _ w9 hS9 rfl
      refine jz ?_
      have hE69 : Ext V6 w9 := hE68.trans hS9.ext
      refine jjV [11, 12] (by decide +kernel) hE69 ?_
      (((apply jjT; exact rfl; rintro w' hq; have := hq.toStep; refine jT rfl rfl rfl ?_; refine jje rfl rfl (by omega) ?_; refine jz ?_; exact ⟨rfl, rfl⟩; apply jjT; exact rfl; rintro w' hq; have := hq.toStep; apply jK rfl; exact eB rfl; refine jz ?_; exact ⟨rfl, rfl⟩; refine jjU ?_)))
      refine jjX (by decide +kernel) hE69 ?_
      (refine jjK rfl ?_; refine jjG ?_; refine jjC ?_; refine jY rfl rfl (by omega) ?_; apply jI; exact eI rfl; refine jz ?_)
      exact ⟨rfl, by (((iterate 25 refine Same.upd rfl ?_); assumption)), F.length - (j + 1 + 1), by omega, j + 1 + 1, m6, congrArg (Value.int .i64) (by omega), rfl, by omega, hOn6.trans (.ofExt hE69), hM6.ext hE69, hmg6⟩
  obtain rfl : k = F.length := by omega
  have hEVw := hEV.toStep
  (refine jjB ?_; refine jjC ?_; refine jja rfl rfl (by omega) ?_; refine jz ?_; refine jjB ?_; refine jjK rfl ?_; refine jjE ?_; refine jjB ?_; refine jjB ?_; refine jjC ?_; apply jI; exact eS rfl; refine jh rfl ?_; apply jI; exact eI rfl; refine jz ?_; refine jjD ?_)
  refine W.keep0 [(2, .int .u8 (n : Int)), (11, .bool true), (12, .slice va l.length vc), (16, .slice da (rkD n l).length dc), (210, .int .i64 (l.length : Int)), (211, .int .i64 ((0 : Nat) : Int))] ⟨eI rfl, eB rfl, eS rfl, eS rfl, eI rfl, eI rfl, trivial⟩ fun s2 => ?_
  generalize rkD (n : Int) l = D at *
  refine W.loopG (212 :: 213 :: 30 :: 214 :: 215 :: 216 :: 217 :: 31 :: 218 :: 219 :: 220 :: 221 :: 222 :: 223 :: 224 :: 225 :: 226 :: 227 :: 32 :: 228 :: 229 :: 230 :: 231 :: 232 :: 233 :: 234 :: 235 :: 236 :: 237 :: 238 :: 239 :: 240 :: 241 :: 242 :: 243 :: 244 :: 245 :: 246 :: 247 :: 248 :: 249 :: 250 :: 251 :: 252 :: 253 :: 254 :: 255 :: 256 :: 257 :: 258 :: 259 :: 260 :: 261 :: 262 :: 263 :: 264 :: 265 :: 266 :: 267 :: 268 :: 269 :: 270 :: 10 :: 271 :: 272 :: 211 :: []) (fun g s' V3 => ∃ (k : Nat), s' 211 = .int .i64 (k : Int) ∧ g = l.length - k ∧ k ≤ l.length ∧ Ext w15 V3) l.length ⟨0, rfl, rfl, Nat.zero_le _, hEV⟩ ?_
  rintro _ sd3 V3 ⟨k3, h211, rfl, hk3, hE3⟩
  refine W.fix h211 ?_
  clear h211
  have hE3' := hE3.toStep
  by_cases hk3' : k3 < l.length
  rotate_left
  · (refine jjB ?_; refine jjC ?_; refine jja rfl rfl (by omega) ?_; refine jz ?_; refine jjB ?_; refine jjK rfl ?_; refine jjE ?_; refine jjB ?_; refine jjC ?_; apply jI; exact eB rfl; apply jJ; exact eB rfl; refine jz ?_; refine jjF ?_; refine jB rfl rfl ⟨inferInstance, ?_⟩)
    exact rfl
  have gl : ∀ i (hi : i < l.length), (l.map encSl)[i]? = some (encSl l[i]) := fun i hi => by rw [List.getElem?_map, List.getElem?_eq_getElem hi]; rfl
  have gD : ∀ i, i < l.length → (D.map intV)[i]? = some (intV (gd D i)) := fun i hi => by rw [List.getElem?_map, List.getElem?_eq_getElem (by omega), gd_lt (by omega)]; rfl
  obtain ⟨pb, po, rfl, -⟩ := iL.h.place' (gl k3 hk3')
  obtain ⟨qb, qo, rfl, -⟩ := iD.h.place' (gD k3 hk3')
  have Dat : ∀ (V : World) (i : Nat), Ext w15 V → i < l.length → At V qb (qo + i * 1) [.int .i64 (gd D i)] := fun V i hE hi => place_k (iD.h.ext hE) (gD i hi)
  have hsk := hsm l[k3] (List.getElem_mem hk3')
  (refine jjB ?_; refine jjC ?_; refine jjZ rfl rfl (by omega) ?_; refine jz ?_; refine jjB ?_; refine jjJ rfl ?_; refine jjG ?_; refine jjB ?_; refine jjD ?_; refine jjB ?_; refine jjC ?_; apply jI; exact eI rfl; apply jJ; exact eI rfl; refine jz ?_; refine jjB ?_; refine jjC ?_; apply jI; exact eI rfl; apply jI; exact eI rfl; refine jz ?_; refine jjD ?_)
  refine W.keep [(2, .int .u8 (n : Int)), (11, .bool true), (12, .slice (some ⟨pb, po, none⟩) l.length vc), (16, .slice (some ⟨qb, qo, none⟩) D.length dc), (30, .int .i64 (k3 : Int)), (210, .int .i64 (l.length : Int)), (211, .int .i64 (k3 : Int)), (214, .int .i64 (k3 : Int)), (215, .int .i64 ((0 : Nat) : Int))] (D := (212 :: 213 :: 30 :: 214 :: 215 :: 216 :: 217 :: 31 :: 218 :: 219 :: 220 :: 221 :: 222 :: 223 :: 224 :: 225 :: 226 :: 227 :: 32 :: 228 :: 229 :: 230 :: 231 :: 232 :: 233 :: 234 :: 235 :: 236 :: 237 :: 238 :: 239 :: 240 :: 241 :: 242 :: 243 :: 244 :: 245 :: 246 :: 247 :: 248 :: 249 :: 250 :: 251 :: 252 :: 253 :: 254 :: 255 :: 256 :: 257 :: 258 :: 259 :: 260 :: 261 :: 262 :: 263 :: 264 :: 265 :: 266 :: 267 :: 268 :: 269 :: 270 :: 10 :: 271 :: 272 :: 211 :: [])) (sO := upds s2 _) (by (((iterate 6 refine Same.upd rfl ?_); exact Same.ovN))) ⟨eI rfl, eB rfl, eS rfl, eS rfl, eI rfl, eI rfl, eI rfl, eI rfl, eI rfl, trivial⟩ fun s3 hs3 => ?_
  refine W.loopG (216 :: 217 :: 31 :: 218 :: 219 :: 220 :: 221 :: 222 :: 223 :: 224 :: 225 :: 226 :: 227 :: 32 :: 228 :: 229 :: 230 :: 231 :: 232 :: 233 :: 234 :: 235 :: 236 :: 237 :: 238 :: 239 :: 240 :: 241 :: 242 :: 243 :: 244 :: 245 :: 246 :: 247 :: 248 :: 249 :: 250 :: 251 :: 252 :: 253 :: 254 :: 255 :: 256 :: 257 :: 258 :: 259 :: 260 :: 261 :: 262 :: 263 :: 264 :: 265 :: 266 :: 267 :: 268 :: 269 :: 270 :: 10 :: 271 :: 215 :: []) (fun g s' V4 => ∃ (j : Nat), s' 215 = .int .i64 (j : Int) ∧ g = k3 - j ∧ j ≤ k3 ∧ Ext w15 V4) k3 ⟨0, rfl, rfl, Nat.zero_le _, hE3⟩ ?_
  rintro _ sd4 V4 ⟨j, h215, rfl, hj, hE4⟩
  refine W.fix h215 ?_
  clear h215
  by_cases hj1 : j < k3
  rotate_left
  · obtain rfl : j = k3 := by omega
    (refine jjB ?_; refine jjC ?_; refine jja rfl rfl (by omega) ?_; refine jz ?_; refine jjB ?_; refine jjK rfl ?_; refine jjE ?_; refine jjC ?_; refine jY rfl rfl (by omega) ?_; apply jI; exact eI rfl; refine jz ?_)
    exact ⟨rfl, by (((iterate 4 refine Same.upd rfl ?_); refine Same.ovN' rfl ?_; assumption)), l.length - (j + 1), by omega, j + 1, congrArg (Value.int .i64) (by omega), rfl, by omega, hE4⟩
  have hjl : j < l.length := by omega
  have hsj := hsm l[j] (List.getElem_mem hjl)
  have hor : (ordR l[j] l[k3]).1 = ordS l[j] l[k3] := by
    simp [ordR, List.all_eq_true.1 hall _ (List.getElem_mem hjl), List.all_eq_true.1 hall _ (List.getElem_mem hk3')]
  have hr := hgr k3 j hk3' hjl
  obtain ⟨X, hX⟩ : ∃ X, cmpBy (n : Int) l[j] l[k3] = X := ⟨_, rfl⟩
  rw [hX] at hr
  have hE4' := hE4.toStep
  (refine jjB ?_; refine jjC ?_; refine jjZ rfl rfl (by omega) ?_; refine jz ?_; refine jjB ?_; refine jjJ rfl ?_; refine jjG ?_; refine jjB ?_; refine jjD ?_; refine jjB ?_; refine jjC ?_; apply jI; exact eI rfl; apply jJ; exact eI rfl; refine jz ?_; refine jjB ?_)
  refine W.draw (fun w' => Ext V4 w') ?_
  intro w7 hS7
  refine jjV [0, 1] (by decide +kernel) hS7.ext ?_
  (((apply jjT; exact rfl; rintro w' hq; have := hq.toStep; apply jI; exact eS rfl; refine jz ?_; exact ⟨rfl, rfl⟩; apply jjT; exact rfl; rintro w' hq; have := hq.toStep; apply jI; exact eI rfl; refine jz ?_; exact ⟨rfl, rfl⟩; refine jjU ?_)))
  refine jjV [2] (by decide +kernel) hS7.ext (jjT (v := .pointer (some ⟨pb, po + j * 6, none⟩)) rfl (fun w' q1 => ?_) (jjU ?_)); (refine jH j rfl rfl rfl (by omega) ?_; refine jz ?_; exact ⟨rfl, rfl⟩)
  refine jjV [3] (by decide +kernel) hS7.ext (jjT (v := encSl l[j]) rfl (fun w' q1 => ?_) (jjU ?_)); (refine Ops.loadOA (off := 0) (place_k (iL.h.ext (hE4.trans q1)) (gl j hjl)) rfl rfl rfl rfl ?_; refine jz ?_; exact ⟨rfl, rfl⟩)
  refine jjV [4, 5] (by decide +kernel) hS7.ext ?_
  (((apply jjT; exact rfl; rintro w' hq; have := hq.toStep; apply jI; exact eS rfl; refine jz ?_; exact ⟨rfl, rfl⟩; apply jjT; exact rfl; rintro w' hq; have := hq.toStep; apply jI; exact eI rfl; refine jz ?_; exact ⟨rfl, rfl⟩; refine jjU ?_)))
  refine jjV [6] (by decide +kernel) hS7.ext (jjT (v := .pointer (some ⟨pb, po + k3 * 6, none⟩)) rfl (fun w' q1 => ?_) (jjU ?_)); (refine jH k3 rfl rfl rfl (by omega) ?_; refine jz ?_; exact ⟨rfl, rfl⟩)
  refine jjV [7] (by decide +kernel) hS7.ext (jjT (v := encSl l[k3]) rfl (fun w' q1 => ?_) (jjU ?_)); (refine Ops.loadOA (off := 0) (place_k (iL.h.ext (hE4.trans q1)) (gl k3 hk3')) rfl rfl rfl rfl ?_; refine jz ?_; exact ⟨rfl, rfl⟩)
  refine jjV [8] (by decide +kernel) hS7.ext ?_
  (((apply jjT; exact rfl; rintro w' hq; have := hq.toStep; apply jI; exact eI rfl; refine jz ?_; exact ⟨rfl, rfl⟩; refine jjU ?_)))
  (apply jjW 9; (decide +kernel); exact rfl; (exact hS7.ext))
  refine jjQ ((Compared_ref l[j] l[k3] n _ hsj hsk hn fun _ => hor).mono fun v _ _ h => h.trans (by rw [hX])) rfl rfl ?_
  rintro _ w8 hS8 rfl
  refine jz ?_
  have hE78 : Ext V4 w8 := hS7.ext.trans hS8.ext
  refine jjV [10] (by decide +kernel) hE78 ?_
  (((apply jjT; exact rfl; rintro w' hq; have := hq.toStep; apply jJ; exact eI rfl; refine jz ?_; exact ⟨rfl, rfl⟩; refine jjU ?_)))
  refine jjX (by decide +kernel) hE78 ?_
  obtain ⟨P, hP⟩ : ∃ P, gd D j = P := ⟨_, rfl⟩
  obtain ⟨Q, hQ⟩ : ∃ Q, gd D k3 = Q := ⟨_, rfl⟩
  rw [hP, hQ] at hr
  have hr1 : X = 0 ∨ X < 0 ∨ 0 < X := by omega
  rcases hr1 with hx | hx | hx
  · have hPQ := hr.1 hx
    · subst hx
      (refine jjB ?_)
      refine W.draw (fun w' => Ext V4 w') ?_
      intro w9 hS9
      have hE68 : Ext V4 w9 := hE78.trans hS9.ext
      refine jjV [0, 1, 2, 3, 4] (by decide +kernel) hE68 ?_
      (((apply jjT; exact rfl; rintro w' hq; have := hq.toStep; apply jI; exact eI rfl; refine jz ?_; exact ⟨rfl, rfl⟩; apply jjT; exact rfl; rintro w' hq; have := hq.toStep; refine jjh rfl rfl (by omega) ?_; refine jz ?_; exact ⟨rfl, rfl⟩; apply jjT; exact rfl; rintro w' hq; have := hq.toStep; apply jI; exact eB rfl; refine jz ?_; exact ⟨rfl, rfl⟩; apply jjT; exact rfl; rintro w' hq; have := hq.toStep; refine jT rfl rfl rfl ?_; apply jI; exact eS rfl; refine jz ?_; exact ⟨rfl, rfl⟩; apply jjT; exact rfl; rintro w' hq; have := hq.toStep; refine jT rfl rfl rfl ?_; apply jI; exact eI rfl; refine jz ?_; exact ⟨rfl, rfl⟩; refine jjU ?_)))
      refine jjV [5] (by decide +kernel) hE68 (jjT (v := .pointer (some ⟨qb, qo + j * 1, none⟩)) rfl (fun w' q1 => ?_) (jjU ?_)); (refine jT rfl rfl rfl ?_; refine jH j rfl rfl rfl (by omega) ?_; refine jz ?_; exact ⟨rfl, rfl⟩)
      refine jjV [6] (by decide +kernel) hE68 (jjT (v := .int .i64 P) rfl (fun w' q1 => ?_) (jjU ?_)); (rw [← hP]; refine jT rfl rfl rfl ?_; refine jR (((Dat V4 j hE4 (by omega)).ext q1).get (i := 0) rfl) rfl rfl ?_; refine jz ?_; exact ⟨rfl, rfl⟩)
      refine jjV [7, 8] (by decide +kernel) hE68 ?_
      (((apply jjT; exact rfl; rintro w' hq; have := hq.toStep; refine jT rfl rfl rfl ?_; apply jI; exact eS rfl; refine jz ?_; exact ⟨rfl, rfl⟩; apply jjT; exact rfl; rintro w' hq; have := hq.toStep; refine jT rfl rfl rfl ?_; apply jI; exact eI rfl; refine jz ?_; exact ⟨rfl, rfl⟩; refine jjU ?_)))
      refine jjV [9] (by decide +kernel) hE68 (jjT (v := .pointer (some ⟨qb, qo + k3 * 1, none⟩)) rfl (fun w' q1 => ?_) (jjU ?_)); (refine jT rfl rfl rfl ?_; refine jH k3 rfl rfl rfl (by omega) ?_; refine jz ?_; exact ⟨rfl, rfl⟩)
      refine jjV [10] (by decide +kernel) hE68 (jjT (v := .int .i64 Q) rfl (fun w' q1 => ?_) (jjU ?_)); (rw [← hQ]; refine jT rfl rfl rfl ?_; refine jR (((Dat V4 k3 hE4 (by omega)).ext q1).get (i := 0) rfl) rfl rfl ?_; refine jz ?_; exact ⟨rfl, rfl⟩)
      refine jjV [11, 12, 13, 14, 15, 16, 17, 18, 19, 20, 21, 22, 23, 24, 25, 26, 27, 28, 29, 30, 31, 32, 33, 34, 35, 36, 37, 38, 39, 40, 41, 42] (by decide +kernel) hE68 ?_
      (((apply jjT; exact rfl; rintro w' hq; have := hq.toStep; refine jT rfl rfl rfl ?_; refine jjk rfl rfl (by omega) ?_; refine jz ?_; exact ⟨rfl, rfl⟩; apply jjT; exact rfl; rintro w' hq; have := hq.toStep; apply jK rfl; exact eB rfl; refine jz ?_; exact ⟨rfl, rfl⟩; apply jjT; exact rfl; rintro w' hq; have := hq.toStep; apply jI; exact eB rfl; refine jz ?_; exact ⟨rfl, rfl⟩; apply jjT; exact rfl; rintro w' hq; have := hq.toStep; refine jT rfl rfl rfl ?_; apply jI; exact eI rfl; refine jz ?_; exact ⟨rfl, rfl⟩; apply jjT; exact rfl; rintro w' hq; have := hq.toStep; refine jT rfl rfl rfl ?_; refine jja rfl rfl (by omega) ?_; refine jz ?_; exact ⟨rfl, rfl⟩; apply jjT; exact rfl; rintro w' hq; have := hq.toStep; refine jT rfl rfl rfl ?_; apply jI; exact eB rfl; refine jz ?_; exact ⟨rfl, rfl⟩; apply jjT; exact rfl; rintro w' hq; have := hq.toStep; refine jU rfl rfl rfl rfl ?_; refine jz ?_; exact ⟨rfl, rfl⟩; apply jjT; exact rfl; rintro w' hq; have := hq.toStep; refine jU rfl rfl rfl rfl ?_; refine jz ?_; exact ⟨rfl, rfl⟩; apply jjT; exact rfl; rintro w' hq; have := hq.toStep; refine jU rfl rfl rfl rfl ?_; refine jz ?_; exact ⟨rfl, rfl⟩; apply jjT; exact rfl; rintro w' hq; have := hq.toStep; refine jU rfl rfl rfl rfl ?_; refine jz ?_; exact ⟨rfl, rfl⟩; apply jjT; exact rfl; rintro w' hq; have := hq.toStep; refine jU rfl rfl rfl rfl ?_; refine jz ?_; exact ⟨rfl, rfl⟩; apply jjT; exact rfl; rintro w' hq; have := hq.toStep; refine jU rfl rfl rfl rfl ?_; refine jz ?_; exact ⟨rfl, rfl⟩; apply jjT; exact rfl; rintro w' hq; have := hq.toStep; refine jU rfl rfl rfl rfl ?_; refine jz ?_; exact ⟨rfl, rfl⟩; apply jjT; exact rfl; rintro w' hq; have := hq.toStep; refine jU rfl rfl rfl rfl ?_; refine jz ?_; exact ⟨rfl, rfl⟩; apply jjT; exact rfl; rintro w' hq; have := hq.toStep; refine jU rfl rfl rfl rfl ?_; refine jz ?_; exact ⟨rfl, rfl⟩; apply jjT; exact rfl; rintro w' hq; have := hq.toStep; refine jT rfl rfl rfl ?_; apply jL rfl; exact eB rfl; refine jz ?_; exact ⟨rfl, rfl⟩; apply jjT; exact rfl; rintro w' hq; have := hq.toStep; apply jL rfl; exact eB rfl; refine jz ?_; exact ⟨rfl, rfl⟩; apply jjT; exact rfl; rintro w' hq; have := hq.toStep; apply jI; exact eB rfl; refine jz ?_; exact ⟨rfl, rfl⟩; apply jjT; exact rfl; rintro w' hq; have := hq.toStep; refine jT rfl rfl rfl ?_; apply jI; exact eI rfl; refine jz ?_; exact ⟨rfl, rfl⟩; apply jjT; exact rfl; rintro w' hq; have := hq.toStep; refine jT rfl rfl rfl ?_; refine jje rfl rfl (by omega) ?_; refine jz ?_; exact ⟨rfl, rfl⟩; apply jjT; exact rfl; rintro w' hq; have := hq.toStep; refine jT rfl rfl rfl ?_; apply jI; exact eB rfl; refine jz ?_; exact ⟨rfl, rfl⟩; apply jjT; exact rfl; rintro w' hq; have := hq.toStep; refine jU rfl rfl rfl rfl ?_; refine jz ?_; exact ⟨rfl, rfl⟩; apply jjT; exact rfl; rintro w' hq; have := hq.toStep; refine jU rfl rfl rfl rfl ?_; refine jz ?_; exact ⟨rfl, rfl⟩; apply jjT; exact rfl; rintro w' hq; have := hq.toStep; refine jU rfl rfl rfl rfl ?_; refine jz ?_; exact ⟨rfl, rfl⟩; apply jjT; exact rfl; rintro w' hq; have := hq.toStep; refine jU rfl rfl rfl rfl ?_; refine jz ?_; exact ⟨rfl, rfl⟩; apply jjT; exact rfl; rintro w' hq; have := hq.toStep; refine jU rfl rfl rfl rfl ?_; refine jz ?_; exact ⟨rfl, rfl⟩; apply jjT; exact rfl; rintro w' hq; have := hq.toStep; refine jU rfl rfl rfl rfl ?_; refine jz ?_; exact ⟨rfl, rfl⟩; apply jjT; exact rfl; rintro w' hq; have := hq.toStep; refine jU rfl rfl rfl rfl ?_; refine jz ?_; exact ⟨rfl, rfl⟩; apply jjT; exact rfl; rintro w' hq; have := hq.toStep; refine jU rfl rfl rfl rfl ?_; refine jz ?_; exact ⟨rfl, rfl⟩; apply jjT; exact rfl; rintro w' hq; have := hq.toStep; refine jU rfl rfl rfl rfl ?_; refine jz ?_; exact ⟨rfl, rfl⟩; apply jjT; exact rfl; rintro w' hq; have := hq.toStep; refine jT rfl rfl rfl ?_; apply jL rfl; exact eB rfl; refine jz ?_; exact ⟨rfl, rfl⟩; apply jjT; exact rfl; rintro w' hq; have := hq.toStep; apply jL rfl; exact eB rfl; refine jz ?_; exact ⟨rfl, rfl⟩; refine jjU ?_)))
      refine jjX (by decide +kernel) inferInstance ?_
      (refine jjK rfl ?_; refine jjG ?_; refine jjC ?_; refine jY rfl rfl (by omega) ?_; apply jI; exact eI rfl; refine jz ?_)
      exact ⟨rfl, by (((iterate 60 refine Same.upd rfl ?_); exact Same.ovN)), k3 - (j + 1), by omega, j + 1, congrArg (Value.int .i64) (by omega), rfl, by omega, hE4.trans hE68⟩
  · have hPQ := hr.2.1 hx
    · have hx0 : ¬ X = 0 := by omega
      (refine jjB ?_)
      refine W.draw (fun w' => Ext V4 w') ?_
      intro w9 hS9
      have hE68 : Ext V4 w9 := hE78.trans hS9.ext
      refine jjV [0, 1, 2, 3, 4, 5, 6, 7, 8, 9, 10, 11, 12, 13, 14, 15, 16, 17, 18] (by decide +kernel) hE68 ?_
      (((apply jjT; exact rfl; rintro w' hq; have := hq.toStep; apply jI; exact eI rfl; refine jz ?_; exact ⟨rfl, rfl⟩; apply jjT; exact rfl; rintro w' hq; have := hq.toStep; refine jji rfl rfl (by omega) ?_; refine jz ?_; exact ⟨rfl, rfl⟩; apply jjT; exact rfl; rintro w' hq; have := hq.toStep; apply jI; exact eB rfl; refine jz ?_; exact ⟨rfl, rfl⟩; apply jjT; exact rfl; rintro w' hq; have := hq.toStep; refine jU rfl rfl rfl rfl ?_; refine jz ?_; exact ⟨rfl, rfl⟩; apply jjT; exact rfl; rintro w' hq; have := hq.toStep; refine jU rfl rfl rfl rfl ?_; refine jz ?_; exact ⟨rfl, rfl⟩; apply jjT; exact rfl; rintro w' hq; have := hq.toStep; refine jU rfl rfl rfl rfl ?_; refine jz ?_; exact ⟨rfl, rfl⟩; apply jjT; exact rfl; rintro w' hq; have := hq.toStep; refine jU rfl rfl rfl rfl ?_; refine jz ?_; exact ⟨rfl, rfl⟩; apply jjT; exact rfl; rintro w' hq; have := hq.toStep; refine jU rfl rfl rfl rfl ?_; refine jz ?_; exact ⟨rfl, rfl⟩; apply jjT; exact rfl; rintro w' hq; have := hq.toStep; refine jU rfl rfl rfl rfl ?_; refine jz ?_; exact ⟨rfl, rfl⟩; apply jjT; exact rfl; rintro w' hq; have := hq.toStep; refine jU rfl rfl rfl rfl ?_; refine jz ?_; exact ⟨rfl, rfl⟩; apply jjT; exact rfl; rintro w' hq; have := hq.toStep; refine jU rfl rfl rfl rfl ?_; refine jz ?_; exact ⟨rfl, rfl⟩; apply jjT; exact rfl; rintro w' hq; have := hq.toStep; refine jU rfl rfl rfl rfl ?_; refine jz ?_; exact ⟨rfl, rfl⟩; apply jjT; exact rfl; rintro w' hq; have := hq.toStep; apply jL rfl; exact eB rfl; refine jz ?_; exact ⟨rfl, rfl⟩; apply jjT; exact rfl; rintro w' hq; have := hq.toStep; apply jI; exact eB rfl; refine jz ?_; exact ⟨rfl, rfl⟩; apply jjT; exact rfl; rintro w' hq; have := hq.toStep; refine jT rfl rfl rfl ?_; apply jI; exact eI rfl; refine jz ?_; exact ⟨rfl, rfl⟩; apply jjT; exact rfl; rintro w' hq; have := hq.toStep; refine jT rfl rfl rfl ?_; refine jjZ rfl rfl (by omega) ?_; refine jz ?_; exact ⟨rfl, rfl⟩; apply jjT; exact rfl; rintro w' hq; have := hq.toStep; refine jT rfl rfl rfl ?_; apply jI; exact eB rfl; refine jz ?_; exact ⟨rfl, rfl⟩; apply jjT; exact rfl; rintro w' hq; have := hq.toStep; refine jT rfl rfl rfl ?_; apply jI; exact eS rfl; refine jz ?_; exact ⟨rfl, rfl⟩; apply jjT; exact rfl; rintro w' hq; have := hq.toStep; refine jT rfl rfl rfl ?_; apply jI; exact eI rfl; refine jz ?_; exact ⟨rfl, rfl⟩; refine jjU ?_)))
      refine jjV [19] (by decide +kernel) hE68 (jjT (v := .pointer (some ⟨qb, qo + j * 1, none⟩)) rfl (fun w' q1 => ?_) (jjU ?_)); (refine jT rfl rfl rfl ?_; refine jH j rfl rfl rfl (by omega) ?_; refine jz ?_; exact ⟨rfl, rfl⟩)
      refine jjV [20] (by decide +kernel) hE68 (jjT (v := .int .i64 P) rfl (fun w' q1 => ?_) (jjU ?_)); (rw [← hP]; refine jT rfl rfl rfl ?_; refine jR (((Dat V4 j hE4 (by omega)).ext q1).get (i := 0) rfl) rfl rfl ?_; refine jz ?_; exact ⟨rfl, rfl⟩)
      refine jjV [21, 22] (by decide +kernel) hE68 ?_
      (((apply jjT; exact rfl; rintro w' hq; have := hq.toStep; refine jT rfl rfl rfl ?_; apply jI; exact eS rfl; refine jz ?_; exact ⟨rfl, rfl⟩; apply jjT; exact rfl; rintro w' hq; have := hq.toStep; refine jT rfl rfl rfl ?_; apply jI; exact eI rfl; refine jz ?_; exact ⟨rfl, rfl⟩; refine jjU ?_)))
      refine jjV [23] (by decide +kernel) hE68 (jjT (v := .pointer (some ⟨qb, qo + k3 * 1, none⟩)) rfl (fun w' q1 => ?_) (jjU ?_)); (refine jT rfl rfl rfl ?_; refine jH k3 rfl rfl rfl (by omega) ?_; refine jz ?_; exact ⟨rfl, rfl⟩)
      refine jjV [24] (by decide +kernel) hE68 (jjT (v := .int .i64 Q) rfl (fun w' q1 => ?_) (jjU ?_)); (rw [← hQ]; refine jT rfl rfl rfl ?_; refine jR (((Dat V4 k3 hE4 (by omega)).ext q1).get (i := 0) rfl) rfl rfl ?_; refine jz ?_; exact ⟨rfl, rfl⟩)
      refine jjV [25, 26, 27, 28, 29, 30, 31, 32, 33, 34, 35, 36, 37, 38, 39, 40, 41, 42] (by decide +kernel) hE68 ?_
      (((apply jjT; exact rfl; rintro w' hq; have := hq.toStep; refine jT rfl rfl rfl ?_; refine jjg rfl rfl (by omega) ?_; refine jz ?_; exact ⟨rfl, rfl⟩; apply jjT; exact rfl; rintro w' hq; have := hq.toStep; refine jT rfl rfl rfl ?_; apply jK rfl; exact eB rfl; refine jz ?_; exact ⟨rfl, rfl⟩; apply jjT; exact rfl; rintro w' hq; have := hq.toStep; apply jL rfl; exact eB rfl; refine jz ?_; exact ⟨rfl, rfl⟩; apply jjT; exact rfl; rintro w' hq; have := hq.toStep; apply jI; exact eB rfl; refine jz ?_; exact ⟨rfl, rfl⟩; apply jjT; exact rfl; rintro w' hq; have := hq.toStep; refine jT rfl rfl rfl ?_; apply jI; exact eI rfl; refine jz ?_; exact ⟨rfl, rfl⟩; apply jjT; exact rfl; rintro w' hq; have := hq.toStep; refine jT rfl rfl rfl ?_; refine jje rfl rfl (by omega) ?_; refine jz ?_; exact ⟨rfl, rfl⟩; apply jjT; exact rfl; rintro w' hq; have := hq.toStep; refine jT rfl rfl rfl ?_; apply jI; exact eB rfl; refine jz ?_; exact ⟨rfl, rfl⟩; apply jjT; exact rfl; rintro w' hq; have := hq.toStep; refine jU rfl rfl rfl rfl ?_; refine jz ?_; exact ⟨rfl, rfl⟩; apply jjT; exact rfl; rintro w' hq; have := hq.toStep; refine jU rfl rfl rfl rfl ?_; refine jz ?_; exact ⟨rfl, rfl⟩; apply jjT; exact rfl; rintro w' hq; have := hq.toStep; refine jU rfl rfl rfl rfl ?_; refine jz ?_; exact ⟨rfl, rfl⟩; apply jjT; exact rfl; rintro w' hq; have := hq.toStep; refine jU rfl rfl rfl rfl ?_; refine jz ?_; exact ⟨rfl, rfl⟩; apply jjT; exact rfl; rintro w' hq; have := hq.toStep; refine jU rfl rfl rfl rfl ?_; refine jz ?_; exact ⟨rfl, rfl⟩; apply jjT; exact rfl; rintro w' hq; have := hq.toStep; refine jU rfl rfl rfl rfl ?_; refine jz ?_; exact ⟨rfl, rfl⟩; apply jjT; exact rfl; rintro w' hq; have := hq.toStep; refine jU rfl rfl rfl rfl ?_; refine jz ?_; exact ⟨rfl, rfl⟩; apply jjT; exact rfl; rintro w' hq; have := hq.toStep; refine jU rfl rfl rfl rfl ?_; refine jz ?_; exact ⟨rfl, rfl⟩; apply jjT; exact rfl; rintro w' hq; have := hq.toStep; refine jU rfl rfl rfl rfl ?_; refine jz ?_; exact ⟨rfl, rfl⟩; apply jjT; exact rfl; rintro w' hq; have := hq.toStep; refine jT rfl rfl rfl ?_; apply jL rfl; exact eB rfl; refine jz ?_; exact ⟨rfl, rfl⟩; apply jjT; exact rfl; rintro w' hq; have := hq.toStep; apply jL rfl; exact eB rfl; refine jz ?_; exact ⟨rfl, rfl⟩; refine jjU ?_)))
      refine jjX (by decide +kernel) inferInstance ?_
      (refine jjK rfl ?_; refine jjG ?_; refine jjC ?_; refine jY rfl rfl (by omega) ?_; apply jI; exact eI rfl; refine jz ?_)
      exact ⟨rfl, by (((iterate 60 refine Same.upd rfl ?_); exact Same.ovN)), k3 - (j + 1), by omega, j + 1, congrArg (Value.int .i64) (by omega), rfl, by omega, hE4.trans hE68⟩
  · have hPQ := hr.2.2 hx
    · have hx0 : ¬ X = 0 := by omega
      (refine jjB ?_)
      refine W.draw (fun w' => Ext V4 w') ?_
      intro w9 hS9
      have hE68 : Ext V4 w9 := hE78.trans hS9.ext
      refine jjV [0, 1, 2, 3, 4, 5, 6, 7, 8, 9, 10, 11, 12, 13, 14, 15, 16, 17, 18, 19, 20, 21, 22, 23, 24, 25, 26, 27, 28, 29, 30, 31, 32, 33] (by decide +kernel) hE68 ?_
      (((apply jjT; exact rfl; rintro w' hq; have := hq.toStep; apply jI; exact eI rfl; refine jz ?_; exact ⟨rfl, rfl⟩; apply jjT; exact rfl; rintro w' hq; have := hq.toStep; refine jji rfl rfl (by omega) ?_; refine jz ?_; exact ⟨rfl, rfl⟩; apply jjT; exact rfl; rintro w' hq; have := hq.toStep; apply jI; exact eB rfl; refine jz ?_; exact ⟨rfl, rfl⟩; apply jjT; exact rfl; rintro w' hq; have := hq.toStep; refine jU rfl rfl rfl rfl ?_; refine jz ?_; exact ⟨rfl, rfl⟩; apply jjT; exact rfl; rintro w' hq; have := hq.toStep; refine jU rfl rfl rfl rfl ?_; refine jz ?_; exact ⟨rfl, rfl⟩; apply jjT; exact rfl; rintro w' hq; have := hq.toStep; refine jU rfl rfl rfl rfl ?_; refine jz ?_; exact ⟨rfl, rfl⟩; apply jjT; exact rfl; rintro w' hq; have := hq.toStep; refine jU rfl rfl rfl rfl ?_; refine jz ?_; exact ⟨rfl, rfl⟩; apply jjT; exact rfl; rintro w' hq; have := hq.toStep; refine jU rfl rfl rfl rfl ?_; refine jz ?_; exact ⟨rfl, rfl⟩; apply jjT; exact rfl; rintro w' hq; have := hq.toStep; refine jU rfl rfl rfl rfl ?_; refine jz ?_; exact ⟨rfl, rfl⟩; apply jjT; exact rfl; rintro w' hq; have := hq.toStep; refine jU rfl rfl rfl rfl ?_; refine jz ?_; exact ⟨rfl, rfl⟩; apply jjT; exact rfl; rintro w' hq; have := hq.toStep; refine jU rfl rfl rfl rfl ?_; refine jz ?_; exact ⟨rfl, rfl⟩; apply jjT; exact rfl; rintro w' hq; have := hq.toStep; refine jU rfl rfl rfl rfl ?_; refine jz ?_; exact ⟨rfl, rfl⟩; apply jjT; exact rfl; rintro w' hq; have := hq.toStep; apply jL rfl; exact eB rfl; refine jz ?_; exact ⟨rfl, rfl⟩; apply jjT; exact rfl; rintro w' hq; have := hq.toStep; apply jI; exact eB rfl; refine jz ?_; exact ⟨rfl, rfl⟩; apply jjT; exact rfl; rintro w' hq; have := hq.toStep; refine jT rfl rfl rfl ?_; apply jI; exact eI rfl; refine jz ?_; exact ⟨rfl, rfl⟩; apply jjT; exact rfl; rintro w' hq; have := hq.toStep; refine jT rfl rfl rfl ?_; refine jja rfl rfl (by omega) ?_; refine jz ?_; exact ⟨rfl, rfl⟩; apply jjT; exact rfl; rintro w' hq; have := hq.toStep; refine jT rfl rfl rfl ?_; apply jI; exact eB rfl; refine jz ?_; exact ⟨rfl, rfl⟩; apply jjT; exact rfl; rintro w' hq; have := hq.toStep; refine jU rfl rfl rfl rfl ?_; refine jz ?_; exact ⟨rfl, rfl⟩; apply jjT; exact rfl; rintro w' hq; have := hq.toStep; refine jU rfl rfl rfl rfl ?_; refine jz ?_; exact ⟨rfl, rfl⟩; apply jjT; exact rfl; rintro w' hq; have := hq.toStep; refine jU rfl rfl rfl rfl ?_; refine jz ?_; exact ⟨rfl, rfl⟩; apply jjT; exact rfl; rintro w' hq; have := hq.toStep; refine jU rfl rfl rfl rfl ?_; refine jz ?_; exact ⟨rfl, rfl⟩; apply jjT; exact rfl; rintro w' hq; have := hq.toStep; refine jU rfl rfl rfl rfl ?_; refine jz ?_; exact ⟨rfl, rfl⟩; apply jjT; exact rfl; rintro w' hq; have := hq.toStep; refine jU rfl rfl rfl rfl ?_; refine jz ?_; exact ⟨rfl, rfl⟩; apply jjT; exact rfl; rintro w' hq; have := hq.toStep; refine jU rfl rfl rfl rfl ?_; refine jz ?_; exact ⟨rfl, rfl⟩; apply jjT; exact rfl; rintro w' hq; have := hq.toStep; refine jU rfl rfl rfl rfl ?_; refine jz ?_; exact ⟨rfl, rfl⟩; apply jjT; exact rfl; rintro w' hq; have := hq.toStep; refine jU rfl rfl rfl rfl ?_; refine jz ?_; exact ⟨rfl, rfl⟩; apply jjT; exact rfl; rintro w' hq; have := hq.toStep; refine jT rfl rfl rfl ?_; apply jL rfl; exact eB rfl; refine jz ?_; exact ⟨rfl, rfl⟩; apply jjT; exact rfl; rintro w' hq; have := hq.toStep; apply jL rfl; exact eB rfl; refine jz ?_; exact ⟨rfl, rfl⟩; apply jjT; exact rfl; rintro w' hq; have := hq.toStep; apply jI; exact eB rfl; refine jz ?_; exact ⟨rfl, rfl⟩; apply jjT; exact rfl; rintro w' hq; have := hq.toStep; refine jT rfl rfl rfl ?_; apply jI; exact eI rfl; refine jz ?_; exact ⟨rfl, rfl⟩; apply jjT; exact rfl; rintro w' hq; have := hq.toStep; refine jT rfl rfl rfl ?_; refine jjd rfl rfl (by omega) ?_; refine jz ?_; exact ⟨rfl, rfl⟩; apply jjT; exact rfl; rintro w' hq; have := hq.toStep; refine jT rfl rfl rfl ?_; apply jI; exact eB rfl; refine jz ?_; exact ⟨rfl, rfl⟩; apply jjT; exact rfl; rintro w' hq; have := hq.toStep; refine jT rfl rfl rfl ?_; apply jI; exact eS rfl; refine jz ?_; exact ⟨rfl, rfl⟩; apply jjT; exact rfl; rintro w' hq; have := hq.toStep; refine jT rfl rfl rfl ?_; apply jI; exact eI rfl; refine jz ?_; exact ⟨rfl, rfl⟩; refine jjU ?_)))
      refine jjV [34] (by decide +kernel) hE68 (jjT (v := .pointer (some ⟨qb, qo + j * 1, none⟩)) rfl (fun w' q1 => ?_) (jjU ?_)); (refine jT rfl rfl rfl ?_; refine jH j rfl rfl rfl (by omega) ?_; refine jz ?_; exact ⟨rfl, rfl⟩)
      refine jjV [35] (by decide +kernel) hE68 (jjT (v := .int .i64 P) rfl (fun w' q1 => ?_) (jjU ?_)); (rw [← hP]; refine jT rfl rfl rfl ?_; refine jR (((Dat V4 j hE4 (by omega)).ext q1).get (i := 0) rfl) rfl rfl ?_; refine jz ?_; exact ⟨rfl, rfl⟩)
      refine jjV [36, 37] (by decide +kernel) hE68 ?_
      (((apply jjT; exact rfl; rintro w' hq; have := hq.toStep; refine jT rfl rfl rfl ?_; apply jI; exact eS rfl; refine jz ?_; exact ⟨rfl, rfl⟩; apply jjT; exact rfl; rintro w' hq; have := hq.toStep; refine jT rfl rfl rfl ?_; apply jI; exact eI rfl; refine jz ?_; exact ⟨rfl, rfl⟩; refine jjU ?_)))
      refine jjV [38] (by decide +kernel) hE68 (jjT (v := .pointer (some ⟨qb, qo + k3 * 1, none⟩)) rfl (fun w' q1 => ?_) (jjU ?_)); (refine jT rfl rfl rfl ?_; refine jH k3 rfl rfl rfl (by omega) ?_; refine jz ?_; exact ⟨rfl, rfl⟩)
      refine jjV [39] (by decide +kernel) hE68 (jjT (v := .int .i64 Q) rfl (fun w' q1 => ?_) (jjU ?_)); (rw [← hQ]; refine jT rfl rfl rfl ?_; refine jR (((Dat V4 k3 hE4 (by omega)).ext q1).get (i := 0) rfl) rfl rfl ?_; refine jz ?_; exact ⟨rfl, rfl⟩)
      refine jjV [40, 41, 42] (by decide +kernel) hE68 ?_
      (((apply jjT; exact rfl; rintro w' hq; have := hq.toStep; refine jT rfl rfl rfl ?_; refine jjc rfl rfl (by omega) ?_; refine jz ?_; exact ⟨rfl, rfl⟩; apply jjT; exact rfl; rintro w' hq; have := hq.toStep; refine jT rfl rfl rfl ?_; apply jK rfl; exact eB rfl; refine jz ?_; exact ⟨rfl, rfl⟩; apply jjT; exact rfl; rintro w' hq; have := hq.toStep; apply jL rfl; exact eB rfl; refine jz ?_; exact ⟨rfl, rfl⟩; refine jjU ?_)))
      refine jjX (by decide +kernel) inferInstance ?_
      (refine jjK rfl ?_; refine jjG ?_; refine jjC ?_; refine jY rfl rfl (by omega) ?_; apply jI; exact eI rfl; refine jz ?_)
      exact ⟨rfl, by (((iterate 60 refine Same.upd rfl ?_); exact Same.ovN)), k3 - (j + 1), by omega, j + 1, congrArg (Value.int .i64) (by omega), rfl, by omega, hE4.trans hE68⟩
end
end Go.Proofs.YtpijeomnplmakaaGreatDoor
