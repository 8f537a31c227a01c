/- Facts on all types of the program. No condition. -/
import Derived.Test.YtpmjkpdkkckoaaaGreatDoorSbProg
import Derived.JoinedOf
import Derived.SevenTiedAt
namespace Go.Proofs.Big
open Go
set_option maxRecDepth 100000

noncomputable def ts0 : List TypeInfo := [Tryz.t0, Tryz.t1, Tryz.t2, Tryz.t3, Tryz.t4, Tryz.t5, Tryz.t6, Tryz.t7, Tryz.t8, Tryz.t9, Tryz.t10, Tryz.t11, Tryz.t12, Tryz.t13, Tryz.t14, Tryz.t15, Tryz.t16, Tryz.t17, Tryz.t18, Tryz.t19, Tryz.t20, Tryz.t21, Tryz.t22, Tryz.t23, Tryz.t24, Tryz.t25, Tryz.t26, Tryz.t27, Tryz.t28, Tryz.t29, Tryz.t30, Tryz.t31, Tryz.t32, Tryz.t33]
noncomputable def ts1 : List TypeInfo := [Tryz.t34, Tryz.t35, Tryz.t36, Tryz.t37, Tryz.t38, Tryz.t39, Tryz.t40, Tryz.t41, Tryz.t42, Tryz.t43, Tryz.t44, Tryz.t45, Tryz.t46, Tryz.t47, Tryz.t48, Tryz.t49, Tryz.t50, Tryz.t51, Tryz.t52, Tryz.t53, Tryz.t54, Tryz.t55, Tryz.t56, Tryz.t57, Tryz.t58, Tryz.t59, Tryz.t60, Tryz.t61, Tryz.t62, Tryz.t63, Tryz.t64, Tryz.t65, Tryz.t66, Tryz.t67]
noncomputable def ts2 : List TypeInfo := [Tryz.t68, Tryz.t69, Tryz.t70, Tryz.t71, Tryz.t72, Tryz.t73, Tryz.t74, Tryz.t75, Tryz.t76, Tryz.t77, Tryz.t78, Tryz.t79, Tryz.t80, Tryz.t81, Tryz.t82, Tryz.t83, Tryz.t84, Tryz.t85, Tryz.t86, Tryz.t87, Tryz.t88, Tryz.t89, Tryz.t90, Tryz.t91, Tryz.t92, Tryz.t93, Tryz.t94, Tryz.t95, Tryz.t96, Tryz.t97, Tryz.t98, Tryz.t99, Tryz.t100, Tryz.t101]
noncomputable def ts3 : List TypeInfo := [Tryz.t102, Tryz.t103, Tryz.t104, Tryz.t105, Tryz.t106, Tryz.t107, Tryz.t108, Tryz.t109, Tryz.t110, Tryz.t111, Tryz.t112, Tryz.t113, Tryz.t114, Tryz.t115, Tryz.t116, Tryz.t117, Tryz.t118, Tryz.t119, Tryz.t120, Tryz.t121, Tryz.t122, Tryz.t123, Tryz.t124, Tryz.t125, Tryz.t126, Tryz.t127, Tryz.t128, Tryz.t129, Tryz.t130, Tryz.t131, Tryz.t132, Tryz.t133, Tryz.t134, Tryz.t135]
noncomputable def ts4 : List TypeInfo := [Tryz.t136, Tryz.t137, Tryz.t138, Tryz.t139, Tryz.t140, Tryz.t141, Tryz.t142, Tryz.t143, Tryz.t144, Tryz.t145, Tryz.t146, Tryz.t147, Tryz.t148, Tryz.t149, Tryz.t150, Tryz.t151, Tryz.t152, Tryz.t153, Tryz.t154, Tryz.t155, Tryz.t156, Tryz.t157, Tryz.t158, Tryz.t159, Tryz.t160, Tryz.t161, Tryz.t162, Tryz.t163, Tryz.t164, Tryz.t165, Tryz.t166, Tryz.t167, Tryz.t168, Tryz.t169]
noncomputable def ts5 : List TypeInfo := [Tryz.t170, Tryz.t171, Tryz.t172, Tryz.t173, Tryz.t174, Tryz.t175, Tryz.t176, Tryz.t177, Tryz.t178, Tryz.t179, Tryz.t180, Tryz.t181, Tryz.t182, Tryz.t183, Tryz.t184, Tryz.t185, Tryz.t186, Tryz.t187, Tryz.t188, Tryz.t189, Tryz.t190, Tryz.t191, Tryz.t192, Tryz.t193, Tryz.t194, Tryz.t195, Tryz.t196, Tryz.t197, Tryz.t198, Tryz.t199, Tryz.t200, Tryz.t201, Tryz.t202, Tryz.t203]
noncomputable def ts6 : List TypeInfo := [Tryz.t204, Tryz.t205, Tryz.t206, Tryz.t207, Tryz.t208, Tryz.t209, Tryz.t210, Tryz.t211, Tryz.t212, Tryz.t213, Tryz.t214, Tryz.t215, Tryz.t216, Tryz.t217, Tryz.t218, Tryz.t219, Tryz.t220, Tryz.t221, Tryz.t222, Tryz.t223, Tryz.t224, Tryz.t225, Tryz.t226, Tryz.t227, Tryz.t228, Tryz.t229, Tryz.t230, Tryz.t231, Tryz.t232, Tryz.t233, Tryz.t234, Tryz.t235, Tryz.t236, Tryz.t237]
noncomputable def ts7 : List TypeInfo := [Tryz.t238, Tryz.t239, Tryz.t240, Tryz.t241, Tryz.t242, Tryz.t243, Tryz.t244, Tryz.t245, Tryz.t246, Tryz.t247, Tryz.t248, Tryz.t249, Tryz.t250, Tryz.t251, Tryz.t252, Tryz.t253, Tryz.t254, Tryz.t255, Tryz.t256, Tryz.t257, Tryz.t258, Tryz.t259, Tryz.t260, Tryz.t261, Tryz.t262, Tryz.t263, Tryz.t264, Tryz.t265, Tryz.t266, Tryz.t267, Tryz.t268, Tryz.t269, Tryz.t270, Tryz.t271]
noncomputable def ts8 : List TypeInfo := [Tryz.t272, Tryz.t273, Tryz.t274, Tryz.t275, Tryz.t276, Tryz.t277, Tryz.t278, Tryz.t279, Tryz.t280, Tryz.t281, Tryz.t282, Tryz.t283, Tryz.t284, Tryz.t285, Tryz.t286, Tryz.t287, Tryz.t288, Tryz.t289, Tryz.t290, Tryz.t291, Tryz.t292, Tryz.t293, Tryz.t294, Tryz.t295, Tryz.t296, Tryz.t297, Tryz.t298, Tryz.t299, Tryz.t300, Tryz.t301, Tryz.t302, Tryz.t303, Tryz.t304, Tryz.t305]
noncomputable def ts9 : List TypeInfo := [Tryz.t306, Tryz.t307, Tryz.t308, Tryz.t309, Tryz.t310, Tryz.t311, Tryz.t312, Tryz.t313, Tryz.t314, Tryz.t315, Tryz.t316, Tryz.t317, Tryz.t318, Tryz.t319, Tryz.t320, Tryz.t321, Tryz.t322, Tryz.t323, Tryz.t324, Tryz.t325, Tryz.t326, Tryz.t327, Tryz.t328, Tryz.t329, Tryz.t330, Tryz.t331, Tryz.t332, Tryz.t333, Tryz.t334, Tryz.t335, Tryz.t336, Tryz.t337, Tryz.t338, Tryz.t339]
noncomputable def ts10 : List TypeInfo := [Tryz.t340, Tryz.t341, Tryz.t342, Tryz.t343, Tryz.t344, Tryz.t345, Tryz.t346, Tryz.t347, Tryz.t348, Tryz.t349, Tryz.t350, Tryz.t351, Tryz.t352, Tryz.t353, Tryz.t354, Tryz.t355, Tryz.t356, Tryz.t357, Tryz.t358, Tryz.t359, Tryz.t360, Tryz.t361, Tryz.t362, Tryz.t363, Tryz.t364, Tryz.t365, Tryz.t366, Tryz.t367, Tryz.t368, Tryz.t369, Tryz.t370, Tryz.t371, Tryz.t372, Tryz.t373]
noncomputable def ts11 : List TypeInfo := [Tryz.t374, Tryz.t375, Tryz.t376, Tryz.t377, Tryz.t378, Tryz.t379, Tryz.t380, Tryz.t381, Tryz.t382, Tryz.t383, Tryz.t384, Tryz.t385, Tryz.t386, Tryz.t387, Tryz.t388, Tryz.t389, Tryz.t390, Tryz.t391, Tryz.t392, Tryz.t393, Tryz.t394, Tryz.t395, Tryz.t396, Tryz.t397, Tryz.t398, Tryz.t399, Tryz.t400, Tryz.t401, Tryz.t402, Tryz.t403, Tryz.t404, Tryz.t405, Tryz.t406, Tryz.t407]
noncomputable def ts12 : List TypeInfo := [Tryz.t408, Tryz.t409, Tryz.t410, Tryz.t411, Tryz.t412, Tryz.t413, Tryz.t414, Tryz.t415, Tryz.t416, Tryz.t417, Tryz.t418, Tryz.t419, Tryz.t420, Tryz.t421, Tryz.t422, Tryz.t423, Tryz.t424, Tryz.t425, Tryz.t426, Tryz.t427, Tryz.t428, Tryz.t429, Tryz.t430, Tryz.t431, Tryz.t432, Tryz.t433, Tryz.t434, Tryz.t435, Tryz.t436, Tryz.t437, Tryz.t438, Tryz.t439, Tryz.t440, Tryz.t441]
noncomputable def ts13 : List TypeInfo := [Tryz.t442, Tryz.t443, Tryz.t444, Tryz.t445, Tryz.t446, Tryz.t447, Tryz.t448, Tryz.t449, Tryz.t450, Tryz.t451, Tryz.t452, Tryz.t453, Tryz.t454, Tryz.t455, Tryz.t456, Tryz.t457, Tryz.t458, Tryz.t459, Tryz.t460, Tryz.t461, Tryz.t462, Tryz.t463, Tryz.t464, Tryz.t465, Tryz.t466, Tryz.t467, Tryz.t468, Tryz.t469, Tryz.t470, Tryz.t471, Tryz.t472, Tryz.t473, Tryz.t474, Tryz.t475]
noncomputable def ts14 : List TypeInfo := [Tryz.t476, Tryz.t477, Tryz.t478, Tryz.t479, Tryz.t480, Tryz.t481, Tryz.t482, Tryz.t483, Tryz.t484, Tryz.t485, Tryz.t486, Tryz.t487, Tryz.t488, Tryz.t489, Tryz.t490, Tryz.t491, Tryz.t492, Tryz.t493, Tryz.t494, Tryz.t495, Tryz.t496, Tryz.t497, Tryz.t498, Tryz.t499, Tryz.t500, Tryz.t501, Tryz.t502, Tryz.t503, Tryz.t504, Tryz.t505, Tryz.t506, Tryz.t507, Tryz.t508, Tryz.t509]
noncomputable def ts15 : List TypeInfo := [Tryz.t510, Tryz.t511, Tryz.t512, Tryz.t513, Tryz.t514, Tryz.t515, Tryz.t516, Tryz.t517, Tryz.t518, Tryz.t519, Tryz.t520, Tryz.t521, Tryz.t522, Tryz.t523, Tryz.t524, Tryz.t525, Tryz.t526, Tryz.t527, Tryz.t528, Tryz.t529, Tryz.t530, Tryz.t531, Tryz.t532, Tryz.t533, Tryz.t534, Tryz.t535, Tryz.t536, Tryz.t537, Tryz.t538, Tryz.t539, Tryz.t540, Tryz.t541, Tryz.t542, Tryz.t543]
noncomputable def ts16 : List TypeInfo := [Tryz.t544, Tryz.t545, Tryz.t546, Tryz.t547, Tryz.t548, Tryz.t549, Tryz.t550, Tryz.t551, Tryz.t552, Tryz.t553, Tryz.t554, Tryz.t555, Tryz.t556, Tryz.t557, Tryz.t558, Tryz.t559, Tryz.t560, Tryz.t561, Tryz.t562, Tryz.t563, Tryz.t564, Tryz.t565, Tryz.t566, Tryz.t567, Tryz.t568, Tryz.t569, Tryz.t570, Tryz.t571, Tryz.t572, Tryz.t573, Tryz.t574, Tryz.t575, Tryz.t576, Tryz.t577]
noncomputable def ts17 : List TypeInfo := [Tryz.t578, Tryz.t579, Tryz.t580, Tryz.t581, Tryz.t582, Tryz.t583, Tryz.t584, Tryz.t585, Tryz.t586, Tryz.t587, Tryz.t588, Tryz.t589, Tryz.t590, Tryz.t591, Tryz.t592, Tryz.t593, Tryz.t594, Tryz.t595, Tryz.t596, Tryz.t597, Tryz.t598, Tryz.t599, Tryz.t600, Tryz.t601, Tryz.t602, Tryz.t603, Tryz.t604, Tryz.t605, Tryz.t606, Tryz.t607, Tryz.t608, Tryz.t609, Tryz.t610, Tryz.t611]
noncomputable def ts18 : List TypeInfo := [Tryz.t612, Tryz.t613, Tryz.t614, Tryz.t615, Tryz.t616, Tryz.t617, Tryz.t618, Tryz.t619, Tryz.t620, Tryz.t621, Tryz.t622, Tryz.t623, Tryz.t624, Tryz.t625, Tryz.t626, Tryz.t627, Tryz.t628, Tryz.t629, Tryz.t630, Tryz.t631, Tryz.t632, Tryz.t633, Tryz.t634, Tryz.t635, Tryz.t636, Tryz.t637, Tryz.t638, Tryz.t639, Tryz.t640, Tryz.t641, Tryz.t642, Tryz.t643, Tryz.t644, Tryz.t645]
noncomputable def ts19 : List TypeInfo := [Tryz.t646, Tryz.t647, Tryz.t648, Tryz.t649, Tryz.t650, Tryz.t651, Tryz.t652, Tryz.t653, Tryz.t654, Tryz.t655, Tryz.t656, Tryz.t657, Tryz.t658, Tryz.t659, Tryz.t660, Tryz.t661, Tryz.t662, Tryz.t663, Tryz.t664, Tryz.t665, Tryz.t666, Tryz.t667, Tryz.t668, Tryz.t669, Tryz.t670, Tryz.t671, Tryz.t672, Tryz.t673, Tryz.t674, Tryz.t675, Tryz.t676, Tryz.t677, Tryz.t678, Tryz.t679]
noncomputable def ts20 : List TypeInfo := [Tryz.t680, Tryz.t681, Tryz.t682, Tryz.t683, Tryz.t684, Tryz.t685, Tryz.t686, Tryz.t687, Tryz.t688, Tryz.t689, Tryz.t690, Tryz.t691, Tryz.t692, Tryz.t693, Tryz.t694, Tryz.t695, Tryz.t696, Tryz.t697, Tryz.t698, Tryz.t699, Tryz.t700, Tryz.t701, Tryz.t702, Tryz.t703, Tryz.t704, Tryz.t705, Tryz.t706, Tryz.t707, Tryz.t708, Tryz.t709, Tryz.t710, Tryz.t711, Tryz.t712, Tryz.t713]
noncomputable def ts21 : List TypeInfo := [Tryz.t714, Tryz.t715, Tryz.t716, Tryz.t717, Tryz.t718, Tryz.t719, Tryz.t720, Tryz.t721, Tryz.t722, Tryz.t723, Tryz.t724, Tryz.t725, Tryz.t726, Tryz.t727, Tryz.t728, Tryz.t729, Tryz.t730, Tryz.t731, Tryz.t732, Tryz.t733, Tryz.t734, Tryz.t735, Tryz.t736, Tryz.t737, Tryz.t738, Tryz.t739, Tryz.t740, Tryz.t741, Tryz.t742, Tryz.t743, Tryz.t744, Tryz.t745, Tryz.t746, Tryz.t747]
noncomputable def ts22 : List TypeInfo := [Tryz.t748, Tryz.t749, Tryz.t750, Tryz.t751, Tryz.t752, Tryz.t753, Tryz.t754, Tryz.t755, Tryz.t756, Tryz.t757, Tryz.t758, Tryz.t759, Tryz.t760, Tryz.t761, Tryz.t762, Tryz.t763, Tryz.t764, Tryz.t765, Tryz.t766, Tryz.t767, Tryz.t768, Tryz.t769, Tryz.t770, Tryz.t771, Tryz.t772, Tryz.t773, Tryz.t774, Tryz.t775, Tryz.t776, Tryz.t777, Tryz.t778, Tryz.t779, Tryz.t780, Tryz.t781]
noncomputable def ts23 : List TypeInfo := [Tryz.t782, Tryz.t783, Tryz.t784, Tryz.t785, Tryz.t786, Tryz.t787, Tryz.t788, Tryz.t789, Tryz.t790, Tryz.t791, Tryz.t792, Tryz.t793, Tryz.t794, Tryz.t795, Tryz.t796, Tryz.t797, Tryz.t798, Tryz.t799, Tryz.t800, Tryz.t801, Tryz.t802, Tryz.t803, Tryz.t804, Tryz.t805, Tryz.t806, Tryz.t807, Tryz.t808, Tryz.t809, Tryz.t810, Tryz.t811, Tryz.t812, Tryz.t813, Tryz.t814, Tryz.t815]
noncomputable def ts24 : List TypeInfo := [Tryz.t816, Tryz.t817, Tryz.t818, Tryz.t819, Tryz.t820, Tryz.t821, Tryz.t822, Tryz.t823, Tryz.t824, Tryz.t825, Tryz.t826, Tryz.t827, Tryz.t828, Tryz.t829, Tryz.t830, Tryz.t831, Tryz.t832, Tryz.t833, Tryz.t834, Tryz.t835, Tryz.t836, Tryz.t837, Tryz.t838, Tryz.t839, Tryz.t840, Tryz.t841, Tryz.t842, Tryz.t843, Tryz.t844, Tryz.t845, Tryz.t846, Tryz.t847, Tryz.t848, Tryz.t849]
noncomputable def ts25 : List TypeInfo := [Tryz.t850, Tryz.t851, Tryz.t852, Tryz.t853, Tryz.t854, Tryz.t855, Tryz.t856, Tryz.t857, Tryz.t858, Tryz.t859, Tryz.t860, Tryz.t861, Tryz.t862, Tryz.t863, Tryz.t864, Tryz.t865, Tryz.t866, Tryz.t867, Tryz.t868, Tryz.t869, Tryz.t870, Tryz.t871, Tryz.t872, Tryz.t873, Tryz.t874, Tryz.t875, Tryz.t876, Tryz.t877, Tryz.t878, Tryz.t879, Tryz.t880, Tryz.t881, Tryz.t882, Tryz.t883]
noncomputable def ts26 : List TypeInfo := [Tryz.t884, Tryz.t885, Tryz.t886, Tryz.t887, Tryz.t888, Tryz.t889, Tryz.t890, Tryz.t891, Tryz.t892, Tryz.t893, Tryz.t894, Tryz.t895, Tryz.t896, Tryz.t897, Tryz.t898, Tryz.t899, Tryz.t900, Tryz.t901, Tryz.t902, Tryz.t903, Tryz.t904, Tryz.t905, Tryz.t906, Tryz.t907, Tryz.t908, Tryz.t909, Tryz.t910, Tryz.t911, Tryz.t912, Tryz.t913, Tryz.t914, Tryz.t915, Tryz.t916, Tryz.t917]
noncomputable def ts27 : List TypeInfo := [Tryz.t918, Tryz.t919, Tryz.t920, Tryz.t921, Tryz.t922, Tryz.t923, Tryz.t924, Tryz.t925, Tryz.t926, Tryz.t927, Tryz.t928, Tryz.t929, Tryz.t930, Tryz.t931, Tryz.t932, Tryz.t933, Tryz.t934, Tryz.t935, Tryz.t936, Tryz.t937, Tryz.t938, Tryz.t939, Tryz.t940, Tryz.t941, Tryz.t942, Tryz.t943, Tryz.t944, Tryz.t945, Tryz.t946, Tryz.t947, Tryz.t948, Tryz.t949, Tryz.t950, Tryz.t951]
noncomputable def ts28 : List TypeInfo := [Tryz.t952, Tryz.t953, Tryz.t954, Tryz.t955, Tryz.t956, Tryz.t957, Tryz.t958, Tryz.t959, Tryz.t960, Tryz.t961, Tryz.t962, Tryz.t963, Tryz.t964, Tryz.t965, Tryz.t966, Tryz.t967, Tryz.t968, Tryz.t969, Tryz.t970, Tryz.t971, Tryz.t972, Tryz.t973, Tryz.t974, Tryz.t975, Tryz.t976, Tryz.t977, Tryz.t978, Tryz.t979, Tryz.t980, Tryz.t981, Tryz.t982, Tryz.t983, Tryz.t984, Tryz.t985]
noncomputable def ts29 : List TypeInfo := [Tryz.t986, Tryz.t987, Tryz.t988, Tryz.t989, Tryz.t990, Tryz.t991, Tryz.t992, Tryz.t993, Tryz.t994, Tryz.t995, Tryz.t996, Tryz.t997, Tryz.t998, Tryz.t999, Tryz.t1000, Tryz.t1001, Tryz.t1002, Tryz.t1003, Tryz.t1004, Tryz.t1005, Tryz.t1006, Tryz.t1007, Tryz.t1008, Tryz.t1009, Tryz.t1010, Tryz.t1011, Tryz.t1012, Tryz.t1013, Tryz.t1014, Tryz.t1015, Tryz.t1016, Tryz.t1017, Tryz.t1018, Tryz.t1019]
noncomputable def ts30 : List TypeInfo := [Tryz.t1020, Tryz.t1021, Tryz.t1022, Tryz.t1023, Tryz.t1024, Tryz.t1025, Tryz.t1026, Tryz.t1027, Tryz.t1028, Tryz.t1029, Tryz.t1030, Tryz.t1031, Tryz.t1032, Tryz.t1033, Tryz.t1034, Tryz.t1035, Tryz.t1036, Tryz.t1037, Tryz.t1038, Tryz.t1039, Tryz.t1040, Tryz.t1041, Tryz.t1042, Tryz.t1043, Tryz.t1044, Tryz.t1045, Tryz.t1046, Tryz.t1047, Tryz.t1048, Tryz.t1049, Tryz.t1050, Tryz.t1051, Tryz.t1052, Tryz.t1053]
noncomputable def ts31 : List TypeInfo := [Tryz.t1054, Tryz.t1055, Tryz.t1056, Tryz.t1057, Tryz.t1058, Tryz.t1059, Tryz.t1060, Tryz.t1061, Tryz.t1062, Tryz.t1063, Tryz.t1064, Tryz.t1065, Tryz.t1066, Tryz.t1067, Tryz.t1068, Tryz.t1069, Tryz.t1070, Tryz.t1071, Tryz.t1072, Tryz.t1073, Tryz.t1074, Tryz.t1075, Tryz.t1076, Tryz.t1077, Tryz.t1078, Tryz.t1079, Tryz.t1080, Tryz.t1081, Tryz.t1082, Tryz.t1083, Tryz.t1084, Tryz.t1085, Tryz.t1086, Tryz.t1087]
noncomputable def ts32 : List TypeInfo := [Tryz.t1088, Tryz.t1089, Tryz.t1090, Tryz.t1091]
noncomputable def tss : List (List TypeInfo) := [ts0, ts1, ts2, ts3, ts4, ts5, ts6, ts7, ts8, ts9, ts10, ts11, ts12, ts13, ts14, ts15, ts16, ts17, ts18, ts19, ts20, ts21, ts22, ts23, ts24, ts25, ts26, ts27, ts28, ts29, ts30, ts31, ts32]
theorem types_list : Tryz.prog.types.toList = tss.flatten := by kernel_rfl
theorem types_size : Tryz.prog.types.size = 1092 := by
  rw [← Array.length_toList, types_list]
  kernel_rfl

noncomputable def infoT (t : Nat) : Option TypeInfo := look tss 34 t

theorem info_is {t : Nat} (h : t < 1092) : Tryz.prog.info? t = infoT t := by
  unfold Tables.info?
  rw [types_size, if_pos h, ← Array.getElem?_toList, types_list]
  exact flat_get (by decide) tss t (by kernel_rfl)

noncomputable def undT (t : Nat) : Option TypeDesc :=
  match infoT t with
  | some { desc := .named _ u, .. } => (infoT u).map (·.desc)
  | some i => some i.desc
  | none => none

noncomputable def namedT (t : Nat) : Bool :=
  match infoT t with
  | some { desc := .named _ u, .. } => Nat.blt u 1092
  | _ => true

noncomputable def isVarT (t : Nat) : Bool := Nat.blt t 1092 && kindOk (undT t)
noncomputable def cellsT (t : Nat) : Nat := ((infoT t).map (·.size)).getD 0

noncomputable def rowFineT (t : Nat) : Bool :=
  !isVarT t ||
  match undT t with
  | some (.struct fs) => fs.toList.all (fun f => isVarT f.type) && cellsT t == (fs.toList.map fun f => cellsT f.type).sum &&
      (List.range fs.toList.length).all fun j => match fs.toList[j]? with | some f => f.offset == ((fs.toList.take j).map fun f => cellsT f.type).sum | none => true
  | some (.array n e) => isVarT e && cellsT t == n * cellsT e
  | some (.pointer e) => isVarT e && cellsT t == 1
  | some (.slice e) => isVarT e && cellsT t == 1
  | _ => cellsT t == 1

noncomputable def mapT (t : Nat) : Bool := match undT t with | some (.map _ e) => Nat.blt e 1092 | _ => true

noncomputable def fineT (t : Nat) : Bool := namedT t && (rowFineT t && mapT t)

theorem fine0 : (List.range' 0 137).all fineT = true := by kernel_rfl
theorem fine1 : (List.range' 137 137).all fineT = true := by kernel_rfl
theorem fine2 : (List.range' 274 137).all fineT = true := by kernel_rfl
theorem fine3 : (List.range' 411 137).all fineT = true := by kernel_rfl
theorem fine4 : (List.range' 548 137).all fineT = true := by kernel_rfl
theorem fine5 : (List.range' 685 137).all fineT = true := by kernel_rfl
theorem fine6 : (List.range' 822 137).all fineT = true := by kernel_rfl
theorem fine7 : (List.range' 959 133).all fineT = true := by kernel_rfl

theorem fine_all {t : Nat} (h : t < 1092) : fineT t = true := by
  have key : ∀ {a m : Nat}, (List.range' a m).all fineT = true → a ≤ t → t < a + m → fineT t = true := fun h h1 h2 => List.all_eq_true.1 h t (List.mem_range'_1.2 ⟨h1, h2⟩)
  by_cases h0 : t < 137
  · exact key fine0 (by omega) (by omega)
  by_cases h1 : t < 274
  · exact key fine1 (by omega) (by omega)
  by_cases h2 : t < 411
  · exact key fine2 (by omega) (by omega)
  by_cases h3 : t < 548
  · exact key fine3 (by omega) (by omega)
  by_cases h4 : t < 685
  · exact key fine4 (by omega) (by omega)
  by_cases h5 : t < 822
  · exact key fine5 (by omega) (by omega)
  by_cases h6 : t < 959
  · exact key fine6 (by omega) (by omega)
  exact key fine7 (by omega) (by omega)

theorem und_is {t : Nat} (h : t < 1092) : Tryz.prog.underlying t = undT t := by
  have hf := fine_all h
  unfold fineT at hf
  rw [Bool.and_eq_true] at hf
  have hn := hf.1
  unfold Program.underlying undT
  unfold namedT at hn
  rw [info_is h]
  cases hi : infoT t with
  | none => rfl
  | some i =>
    rw [hi] at hn
    obtain ⟨d⟩ := i
    cases d with
    | named a u => exact congrArg (Option.map (·.desc)) (info_is (Nat.le_of_ble_eq_true hn))
    | _ => rfl

theorem isVar_is (t : Nat) : isVar Tryz.prog t = isVarT t := by
  unfold isVar isVarT
  rw [types_size]
  by_cases h : t < 1092
  · rw [und_is h, decide_eq_true h, show Nat.blt t 1092 = true from Nat.ble_eq_true_of_le h]
  · rw [decide_eq_false h, show Nat.blt t 1092 = false from by
      cases e : Nat.blt t 1092 with
      | false => rfl
      | true => exact absurd (Nat.le_of_ble_eq_true e) h]
    rfl

theorem isVar_lt {t : Nat} (h : isVarT t = true) : t < 1092 := by
  unfold isVarT at h
  rw [Bool.and_eq_true] at h
  exact Nat.le_of_ble_eq_true h.1

theorem cells_is {t : Nat} (h : t < 1092) : Tryz.prog.cellsOf t = cellsT t := by
  unfold Program.cellsOf cellsT
  rw [info_is h]

theorem fields_is {fs : List Field} (h : ∀ f ∈ fs, isVarT f.type = true) : (fs.map fun f => Tryz.prog.cellsOf f.type) = fs.map fun f => cellsT f.type :=
  List.map_congr_left fun f hf => cells_is (isVar_lt (h f hf))

theorem row_fine {t : Nat} (h : t < 1092) : rowFine Tryz.prog t = true := by
  have hf := fine_all h
  unfold fineT at hf
  simp only [Bool.and_eq_true] at hf
  have hr := hf.2.1
  unfold rowFineT at hr
  unfold rowFine
  rw [isVar_is, und_is h, cells_is h]
  simp only [Bool.or_eq_true] at hr ⊢
  refine hr.imp id fun hr => ?_
  cases hu : undT t with
  | none => rw [hu] at hr; exact hr
  | some d =>
    rw [hu] at hr
    cases d with
    | struct fs =>
      simp only [Bool.and_eq_true] at hr ⊢
      obtain ⟨⟨h1, h2⟩, h3⟩ := hr
      have hv := List.all_eq_true.1 h1
      refine ⟨⟨?_, ?_⟩, ?_⟩
      · rw [List.all_eq_true]
        intro f hf
        rw [isVar_is]
        exact hv f hf
      · rw [fields_is hv]
        exact h2
      · rw [List.all_eq_true] at h3 ⊢
        intro j hj
        have := h3 j hj
        cases e : fs.toList[j]? with
        | none => rfl
        | some f =>
          rw [e] at this
          dsimp only at this ⊢
          rw [fields_is fun g hg => hv g (List.mem_of_mem_take hg)]
          exact this
    | array n e =>
      simp only [Bool.and_eq_true] at hr ⊢
      exact ⟨by rw [isVar_is]; exact hr.1, by rw [cells_is (isVar_lt hr.1)]; exact hr.2⟩
    | pointer e =>
      simp only [Bool.and_eq_true] at hr ⊢
      exact ⟨by rw [isVar_is]; exact hr.1, hr.2⟩
    | slice e =>
      simp only [Bool.and_eq_true] at hr ⊢
      exact ⟨by rw [isVar_is]; exact hr.1, hr.2⟩
    | _ => exact hr

theorem maps_rowed : mapsRowed Tryz.prog = true := by
  unfold mapsRowed
  rw [types_size, List.all_eq_true]
  intro t ht
  have h := List.mem_range.1 ht
  have hf := fine_all h
  unfold fineT at hf
  simp only [Bool.and_eq_true] at hf
  have hm := hf.2.2
  unfold mapT at hm
  rw [und_is h]
  cases hu : undT t with
  | none => rfl
  | some d =>
    rw [hu] at hm
    cases d with
    | map k e => exact decide_eq_true (Nat.le_of_ble_eq_true hm)
    | _ => rfl

theorem globals_fine : (Tryz.prog.globals.toList.all fun g => Nat.blt g.type 1092) = true := by kernel_rfl

theorem par0 : fs0.all (fun f => f.params.toList.all fun t => Nat.blt t 1092) = true := by kernel_rfl
theorem par1 : fs1.all (fun f => f.params.toList.all fun t => Nat.blt t 1092) = true := by kernel_rfl
theorem par2 : fs2.all (fun f => f.params.toList.all fun t => Nat.blt t 1092) = true := by kernel_rfl
theorem par3 : fs3.all (fun f => f.params.toList.all fun t => Nat.blt t 1092) = true := by kernel_rfl
theorem par4 : fs4.all (fun f => f.params.toList.all fun t => Nat.blt t 1092) = true := by kernel_rfl
theorem par5 : fs5.all (fun f => f.params.toList.all fun t => Nat.blt t 1092) = true := by kernel_rfl
theorem par6 : fs6.all (fun f => f.params.toList.all fun t => Nat.blt t 1092) = true := by kernel_rfl
theorem par7 : fs7.all (fun f => f.params.toList.all fun t => Nat.blt t 1092) = true := by kernel_rfl
theorem par8 : fs8.all (fun f => f.params.toList.all fun t => Nat.blt t 1092) = true := by kernel_rfl
theorem par9 : fs9.all (fun f => f.params.toList.all fun t => Nat.blt t 1092) = true := by kernel_rfl
theorem par10 : fs10.all (fun f => f.params.toList.all fun t => Nat.blt t 1092) = true := by kernel_rfl
theorem par11 : fs11.all (fun f => f.params.toList.all fun t => Nat.blt t 1092) = true := by kernel_rfl
theorem par12 : fs12.all (fun f => f.params.toList.all fun t => Nat.blt t 1092) = true := by kernel_rfl
theorem par13 : fs13.all (fun f => f.params.toList.all fun t => Nat.blt t 1092) = true := by kernel_rfl
theorem par14 : fs14.all (fun f => f.params.toList.all fun t => Nat.blt t 1092) = true := by kernel_rfl
theorem par15 : fs15.all (fun f => f.params.toList.all fun t => Nat.blt t 1092) = true := by kernel_rfl
theorem par16 : fs16.all (fun f => f.params.toList.all fun t => Nat.blt t 1092) = true := by kernel_rfl
theorem par17 : fs17.all (fun f => f.params.toList.all fun t => Nat.blt t 1092) = true := by kernel_rfl
theorem par18 : fs18.all (fun f => f.params.toList.all fun t => Nat.blt t 1092) = true := by kernel_rfl
theorem par19 : fs19.all (fun f => f.params.toList.all fun t => Nat.blt t 1092) = true := by kernel_rfl
theorem par20 : fs20.all (fun f => f.params.toList.all fun t => Nat.blt t 1092) = true := by kernel_rfl
theorem par21 : fs21.all (fun f => f.params.toList.all fun t => Nat.blt t 1092) = true := by kernel_rfl
theorem par22 : fs22.all (fun f => f.params.toList.all fun t => Nat.blt t 1092) = true := by kernel_rfl
theorem par23 : fs23.all (fun f => f.params.toList.all fun t => Nat.blt t 1092) = true := by kernel_rfl
theorem par24 : fs24.all (fun f => f.params.toList.all fun t => Nat.blt t 1092) = true := by kernel_rfl
theorem par25 : fs25.all (fun f => f.params.toList.all fun t => Nat.blt t 1092) = true := by kernel_rfl
theorem par26 : fs26.all (fun f => f.params.toList.all fun t => Nat.blt t 1092) = true := by kernel_rfl
theorem par27 : fs27.all (fun f => f.params.toList.all fun t => Nat.blt t 1092) = true := by kernel_rfl
theorem par28 : fs28.all (fun f => f.params.toList.all fun t => Nat.blt t 1092) = true := by kernel_rfl
theorem par29 : fs29.all (fun f => f.params.toList.all fun t => Nat.blt t 1092) = true := by kernel_rfl
theorem par30 : fs30.all (fun f => f.params.toList.all fun t => Nat.blt t 1092) = true := by kernel_rfl
theorem par31 : fs31.all (fun f => f.params.toList.all fun t => Nat.blt t 1092) = true := by kernel_rfl
theorem par32 : fs32.all (fun f => f.params.toList.all fun t => Nat.blt t 1092) = true := by kernel_rfl
theorem par33 : fs33.all (fun f => f.params.toList.all fun t => Nat.blt t 1092) = true := by kernel_rfl

theorem blt_all (l : List Nat) (h : (l.all fun t => Nat.blt t 1092) = true) : (l.all fun t => decide (t < 1092)) = true := by
  rw [List.all_eq_true] at h ⊢
  exact fun t ht => decide_eq_true (Nat.le_of_ble_eq_true (h t ht))

theorem laid_out : laidOutB Tryz.prog = true := by
  unfold laidOutB
  rw [types_size]
  simp only [Bool.and_eq_true]
  refine ⟨⟨?_, ?_⟩, ?_⟩
  · rw [List.all_eq_true]
    exact fun t ht => row_fine (List.mem_range.1 ht)
  · rw [← Array.all_toList]
    have h := globals_fine
    rw [List.all_eq_true] at h ⊢
    exact fun g hg => decide_eq_true (Nat.le_of_ble_eq_true (h g hg))
  · rw [← Array.all_toList]
    have h := all_all (fun f => f.params.toList.all fun t => Nat.blt t 1092) par0 par1 par2 par3 par4 par5 par6 par7 par8 par9 par10 par11 par12 par13 par14 par15 par16 par17 par18 par19 par20 par21 par22 par23 par24 par25 par26 par27 par28 par29 par30 par31 par32 par33
    rw [List.all_eq_true] at h ⊢
    intro f hf
    rw [← Array.all_toList]
    exact blt_all _ (h f hf)

end Go.Proofs.Big
